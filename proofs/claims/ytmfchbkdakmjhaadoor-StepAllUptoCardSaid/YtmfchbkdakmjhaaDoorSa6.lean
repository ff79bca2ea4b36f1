/-
  'typecaselaw.StepAll' returns true, whatever the input, where what comes in is of bulk at most 1048576, and the input reads as it did. No conditions.
-/
import Derived.Test.YtmfchbkdakmjhaaDoorSa5
import Derived.WalkKit
import Derived.Shelf.Spec.SlicesInsert
import Derived.Test.YtmfchbkdakmjhaaDoorRows
import Derived.ProofKit
import Derived.OpenShut
import Derived.JoinedCond
import Derived.ChangeMaps5
import Derived.Test.YtmfchbkdakmjhaaDoorCards
import Derived.Test.YtmfchbkdakmjhaaDoorTie
import Derived.Deep.DeepHandedRow
import Derived.Lib.LaidU8
import Derived.PinnedBridge
import Derived.Shelf.Spec.TrailingZeros
set_option linter.constructorNameAsVariable false
set_option linter.unusedVariables false
set_option linter.unusedSimpArgs false
set_option linter.unusedSectionVars false
section
namespace Go.Proofs.YtmfchbkdakmjhaaDoor
set_option linter.unusedSectionVars false
set_option linter.unusedSimpArgs false
set_option linter.unusedVariables false
open Go Go.SX Go.RowKit Go.Lib
set_option maxRecDepth 100000
set_option maxHeartbeats 4000000
theorem ins_szE (w : World) : (Go.sizeOf 113).run Tryd.prog w = .ok 7 w := letI : Globs := ⟨[]⟩; elem_sz ti113_ok (τ := .ent) rfl w
theorem ins_ovE (w : World) (g vb o m vc lb cb : Nat) (cur cur2 : Array Value) (e e2 : TypeId) (hvb : vb ≠ g) (hg : w.heap[g]? = some (.cells cur e (0, 0))) (hv : w.heap[vb]? = some (.cells cur2 e2 (0, 0))) (hk : cur.size ≠ 0) :
    (callFunc 160 #[.slice (some ⟨vb, 0, none⟩) m vc, .slice (some ⟨g, o, none⟩) lb cb]).run Tryd.prog w = .ok (.value (.bool false)) w := by
  rw [run_callFunc_extern Tryd.func160 (by kernel_rfl) (by kernel_rfl) (by kernel_rfl) (e := Extern.SlicesOverlaps.overlaps #[24, 24] #[4]) (by kernel_rfl),
      Lib.run_overlaps_apart w 24 4 113 Tryd.underlying24 7 ins_szE ⟨vb, 0, none⟩ ⟨g, o, none⟩ m vc lb cb hvb e2 e cur2.size cur.size (by simp [World.shape?, hv]) (by simp [World.shape?, hg]) hk (by simp [World.frozen?, hv]) (by simp [World.frozen?, hv])]
  rfl
theorem ins_shiftE (g n c i vb m vc : Nat) (cur cur2 : Array Value) (e e2 : TypeId) (w : World) (hi : i < n) (hm : 0 < m) (hroom : n + m ≤ c) (hc63 : c ≤ 9223372036854775807) (hvb : vb ≠ g)
    (hg : w.heap[g]? = some (.cells cur e (0, 0))) (hcs : cur.size = c * 7) (hv : w.heap[vb]? = some (.cells cur2 e2 (0, 0))) (hcs2 : cur2.size = vc * 7) (hvc : m ≤ vc)
    (h1c : ∀ v ∈ cur.toList.take (n * 7), v.oneCell' = true) (h1v : ∀ v ∈ cur2.toList.take (m * 7), v.oneCell' = true) :
    Calls Tryd.prog 124 #[.slice (some ⟨g, 0, none⟩) n c, .int .i64 i, .slice (some ⟨vb, 0, none⟩) m vc] w fun e w' =>
      e = .returned (.slice (some ⟨g, 0, none⟩) (n + m) c) ∧ w' = (w.drew.setRow g (spl cur ((i + m) * 7) ((cur.toList.take (n * 7)).drop (i * 7)))).setRow g (spl (spl cur ((i + m) * 7) ((cur.toList.take (n * 7)).drop (i * 7))) (i * 7) (cur2.toList.take (m * 7))) := by
  have mixed : Tryd.prog.follows .mixedOrders = true := by kernel_rfl
  have hz1 : ¬ ((m : Int) = 0) := by omega
  have hz2 : ¬ ((i : Int) = (n : Int)) := by omega
  have hw1 : IntKind.i64.wrap ((i : Int) + (m : Int)) = (i : Int) + (m : Int) := by rw [IntKind.wrap_i64]; omega
  have hb1 : (0 : Int) ≤ (i : Int) + (m : Int) := by omega
  have hin : i ≤ n := by omega
  have htn : ((i : Int) + (m : Int)).toNat = i + m := by omega
  have hb2 : ¬ (c = i + m) := by omega
  have hb3 : (i : Int) ≤ (n : Int) + (m : Int) := by omega
  have hb4 : ¬ (c = i) := by omega
  have hov : ∀ lb cb, (callFunc 160 #[.slice (some ⟨vb, 0, none⟩) m vc, .slice (some ⟨g, (i + m) * 7, none⟩) lb cb]).run Tryd.prog w = .ok (.value (.bool false)) w := fun lb cb =>
    ins_ovE w g vb _ m vc lb cb cur cur2 e e2 hvb hg hv (by omega)
  have hl : cur.toList.length = cur.size := Array.length_toList
  have hl2 : cur2.toList.length = cur2.size := Array.length_toList
  have hdl : ((cur.toList.take (n * 7)).drop (i * 7)).length = (n - i) * 7 := by rw [List.length_drop, List.length_take, hl]; omega
  have htl : (cur2.toList.take (m * 7)).length = m * 7 := by rw [List.length_take, hl2]; omega
  obtain ⟨r1, hr1⟩ : ∃ r1, r1 = spl cur ((i + m) * 7) ((cur.toList.take (n * 7)).drop (i * 7)) := ⟨_, rfl⟩
  have hfit : (i + m) * 7 + ((cur.toList.take (n * 7)).drop (i * 7)).length ≤ cur.size := by rw [hdl]; omega
  have hr1s : r1.size = cur.size := by rw [hr1]; exact spl_size hfit
  have hcp1 : ∀ ty dc sc, (Builtin.copy_ #[24, 24] ty #[.slice (some ⟨g, (i + m) * 7, none⟩) (n + m - (i + m)) dc, .slice (some ⟨g, i * 7, none⟩) (n + m - i) sc]).run Tryd.prog w.drew = .ok (goInt ((n - i : Nat) : Int)) (w.drew.setRow g r1) := fun ty dc sc => by
    have hmin : Nat.min (n + m - i) (n + m - (i + m)) = n - i := by show min _ _ = _; omega
    have := run_copyR w.drew 24 24 ty 113 7 g ((i + m) * 7) (n + m - (i + m)) dc ⟨g, i * 7, none⟩ (n + m - i) sc ((cur.toList.take (n * 7)).drop (i * 7)) cur e Tryd.underlying24 ins_szE (by rw [hdl, hmin])
      (fun j v hj => by
        rw [Addr.add_lit, cell_of_row w.drew g _ cur e (0, 0) hg]
        rw [List.getElem?_drop, List.getElem?_take] at hj
        split at hj
        · simpa using hj
        · cases hj) hg hfit (fun v hv => h1c v (List.mem_of_mem_drop hv))
    rw [hmin, ← hr1] at this
    exact this
  have hcp2 : ∀ (W : World), (∀ k : Nat, W.heap[k]? = (w.drew.setRow g r1).heap[k]?) → ∀ ty dc, (Builtin.copy_ #[24, 24] ty #[.slice (some ⟨g, i * 7, none⟩) (n + m - i) dc, .slice (some ⟨vb, 0, none⟩) m vc]).run Tryd.prog W = .ok (goInt ((m : Nat) : Int)) (W.setRow g (spl r1 (i * 7) (cur2.toList.take (m * 7)))) := fun W hW ty dc => by
    have hmin : Nat.min m (n + m - i) = m := by show min _ _ = _; omega
    have hvW : W.heap[vb]? = some (.cells cur2 e2 (0, 0)) := by rw [hW, setRow_other _ _ _ _ hvb]; exact hv
    have hgW : W.heap[g]? = some (.cells r1 e (0, 0)) := by rw [hW]; exact setRow_heap w.drew g cur r1 e (0, 0) hg
    have := run_copyR W 24 24 ty 113 7 g (i * 7) (n + m - i) dc ⟨vb, 0, none⟩ m vc (cur2.toList.take (m * 7)) r1 e Tryd.underlying24 ins_szE (by rw [htl, hmin])
      (fun j v hj => by
        rw [Addr.add_lit, cell_of_row W vb _ cur2 e2 (0, 0) hvW, Nat.zero_add]
        rw [List.getElem?_take] at hj
        split at hj
        · simpa using hj
        · cases hj) hgW (by rw [htl, hr1s]; omega) h1v
    rw [hmin] at this
    exact this
  rw [← hr1]
  clear hr1 hr1s h1c h1v hcs hcs2 hg hv hfit hl hl2 hdl htl
  go_enter Tryd.func124, Tryd.ntmps124
  go_wp2_with (simp only [hov])
  go_region_law_o (refine step_copy_runI rfl _ _ 24 24 rfl _ _ (by simp [Act.eval, Act.put]) (by simp [Act.eval, Act.put]) (hcp1 _ _ _) ?_)
  go_wp2_with (at_builtin; refine wpList_copy_runI _ rfl _ _ 24 24 rfl _ _ rfl rfl (hcp2 _ (fun _ => rfl) _ _) ?_)
  go_ret
  first | exact ⟨rfl, rfl⟩ | exact ⟨trivial, rfl⟩
theorem ins_end_roomE (g n c vb m vc : Nat) (cur cur2 : Array Value) (e e2 : TypeId) (w : World) (hm : 0 < m) (hroom : n + m ≤ c) (hc63 : c ≤ 9223372036854775807) (hvb : vb ≠ g)
    (hg : w.heap[g]? = some (.cells cur e (0, 0))) (hcs : cur.size = c * 7) (hv : w.heap[vb]? = some (.cells cur2 e2 (0, 0))) (hcs2 : cur2.size = vc * 7) (hvc : m ≤ vc)
    (h1c : ∀ v ∈ cur.toList.take (n * 7), v.oneCell' = true) (h1v : ∀ v ∈ cur2.toList.take (m * 7), v.oneCell' = true) (hbig : (n + m) * 104 ≤ 140737488355328) :
    Calls Tryd.prog 124 #[.slice (some ⟨g, 0, none⟩) n c, .int .i64 n, .slice (some ⟨vb, 0, none⟩) m vc] w fun e w' =>
      e = .returned (.slice (some ⟨g, 0, none⟩) (n + m) c) ∧ w' = w.setRow g (spl cur (n * 7) (cur2.toList.take (m * 7))) := by
  letI : Globs := ⟨[]⟩
  have mixed : Tryd.prog.follows .mixedOrders = true := by kernel_rfl
  have hz1 : ¬ ((m : Int) = 0) := by omega
  have hl : cur.toList.length = cur.size := Array.length_toList
  have hl2 : cur2.toList.length = cur2.size := Array.length_toList
  have htl : (cur2.toList.take (m * 7)).length = m * 7 := by rw [List.length_take, hl2]; omega
  have hrun : ∀ ty, (Builtin.append_ #[24, 24] ty #[.slice (some ⟨g, 0, none⟩) n c, .slice (some ⟨vb, 0, none⟩) m vc]).run Tryd.prog w = .ok (.slice (some ⟨g, 0, none⟩) (n + m) c) (w.setRow g (spl cur (n * 7) (cur2.toList.take (m * 7)))) := fun ty => by
    have hst := run_storeCells_at Tryd.prog g (n * 7) e (cur2.toList.take (m * 7)) 0 cur w hg (by rw [htl]; omega) h1v
    simp only [Nat.add_zero] at hst
    refine (run_append_gen (w := w) Tryd.underlying24 Tryd.underlying24 ti113_ok (τ := .ent) rfl ty (A := some ⟨g, 0, none⟩) (A2 := some ⟨vb, 0, none⟩) (n := n) (cap := c) (m := m) (c := vc) (olds := cur.toList.take (n * 7)) (news := cur2.toList.take (m * 7)) (fun w' hw => ?_) (fun w' hw => ?_) hbig (by unfold maxLen; omega)).1 hroom _ ?_
    · exact run_firstCells_some w' 7 n ⟨g, 0, none⟩ n c _ (by rw [List.length_take, hl]; omega) (fun j v hj => by
        rw [Addr.add_lit, cell_of_row w' g _ cur e (0, 0) (by rw [hw]; exact hg), Nat.zero_add]
        rw [List.getElem?_take] at hj
        split at hj
        · simpa using hj
        · cases hj)
    · exact run_firstCells_some w' 7 m ⟨vb, 0, none⟩ m vc _ htl (fun j v hj => by
        rw [Addr.add_lit, cell_of_row w' vb _ cur2 e2 (0, 0) (by rw [hw]; exact hv), Nat.zero_add]
        rw [List.getElem?_take] at hj
        split at hj
        · simpa using hj
        · cases hj)
    · show (storeCells ((⟨g, 0, none⟩ : Addr).add (n * 7)) _).run _ _ = _
      rw [Addr.add_lit, Nat.zero_add]
      exact hst
  clear h1c h1v hg hv hcs hcs2 hl hl2 htl
  go_enter Tryd.func124, Tryd.ntmps124
  go_wp2_with (at_builtin; refine Lib.wpList_append_run _ rfl _ _ _ _ rfl _ _ rfl rfl _ _ (hrun _) ?_)
  go_ret
  exact ⟨rfl, rfl⟩
theorem ins_end_growE (base : Option Addr) (n c vb m vc : Nat) (cs : List Value) (cur2 : Array Value) (e2 : TypeId) (w : World) (hm : 0 < m) (hnc : n ≤ c) (hroom : c < n + m)
    (hcl : cs.length = n * 7) (hcs : ∀ w' : World, w'.heap = w.heap → (Builtin.firstCells 7 n (.slice base n c)).run Tryd.prog w' = .ok cs.toArray w') (hv : w.heap[vb]? = some (.cells cur2 e2 (0, 0))) (hcs2 : cur2.size = vc * 7) (hvc : m ≤ vc)
    (h1v : ∀ v ∈ cur2.toList.take (m * 7), v.oneCell' = true) (hnil : base = none → n = 0 ∧ c = 0) (hbig : (n + m) * 104 ≤ 140737488355328) :
    Calls Tryd.prog 124 #[.slice base n c, .int .i64 n, .slice (some ⟨vb, 0, none⟩) m vc] w fun e w' =>
      ∃ z : Value, z.cells = ti113.zero.toArray ∧ e = .returned (.slice (some ⟨w.heap.size, 0, none⟩) (n + m) (grownCap w (n + m) c 113)) ∧
      w' = w.drew.alloc (.cells (cs.toArray ++ (cur2.toList.take (m * 7)).toArray ++ Builtin.zeroCells z.cells (grownCap w (n + m) c 113 - (n + m))) 113) := by
  letI : Globs := ⟨[]⟩
  have mixed : Tryd.prog.follows .mixedOrders = true := by kernel_rfl
  have hz1 : ¬ ((m : Int) = 0) := by omega
  have hl2 : cur2.toList.length = cur2.size := Array.length_toList
  have htl : (cur2.toList.take (m * 7)).length = m * 7 := by rw [List.length_take, hl2]; omega
  have hrun : ∃ z : Value, z.cells = ti113.zero.toArray ∧ ∀ ty, (Builtin.append_ #[24, 24] ty #[.slice base n c, .slice (some ⟨vb, 0, none⟩) m vc]).run Tryd.prog w =
      .ok (.slice (some ⟨w.heap.size, 0, none⟩) (n + m) (grownCap w (n + m) c 113)) (w.drew.alloc (.cells (cs.toArray ++ (cur2.toList.take (m * 7)).toArray ++ Builtin.zeroCells z.cells (grownCap w (n + m) c 113 - (n + m))) 113)) := by
    have h := fun ty => (run_append_gen (w := w) Tryd.underlying24 Tryd.underlying24 ti113_ok (τ := .ent) rfl ty (A := base) (A2 := some ⟨vb, 0, none⟩) (n := n) (cap := c) (m := m) (c := vc) (olds := cs) (news := cur2.toList.take (m * 7)) (fun w' hw => hcs w' hw) (fun w' hw => run_firstCells_some w' 7 m ⟨vb, 0, none⟩ m vc _ htl (fun j v hj => by
        rw [Addr.add_lit, cell_of_row w' vb _ cur2 e2 (0, 0) (by rw [hw]; exact hv), Nat.zero_add]
        rw [List.getElem?_take] at hj
        split at hj
        · simpa using hj
        · cases hj)) hbig (by unfold maxLen; omega)).2 hroom
    obtain ⟨z, hz, _⟩ := h 24
    refine ⟨z, hz, fun ty => ?_⟩
    obtain ⟨z', hz', h'⟩ := h ty
    rw [hz, ← hz']
    exact h'
  obtain ⟨z, hz, hrun⟩ := hrun
  obtain ⟨G, hG⟩ : ∃ G, G = grownCap w (n + m) c 113 := ⟨_, rfl⟩
  rw [← hG] at hrun ⊢
  obtain ⟨W1, hW1⟩ : ∃ W1, W1 = w.drew.alloc (.cells (cs.toArray ++ (cur2.toList.take (m * 7)).toArray ++ Builtin.zeroCells z.cells (G - (n + m))) 113) := ⟨_, rfl⟩
  rw [← hW1] at hrun
  refine Calls.mono (R := fun e w' => e = .returned (.slice (some ⟨w.heap.size, 0, none⟩) (n + m) G) ∧ w' = W1) ?_ (fun e w' h => ⟨z, hz, h.1, h.2.trans hW1⟩)
  clear h1v hv hcs2 hl2 htl hcs hW1 hG hz
  cases base with
  | none =>
    obtain ⟨h0, h0'⟩ := hnil rfl
    subst h0 h0'
    go_enter Tryd.func124, Tryd.ntmps124
    go_wp2_with (at_builtin; refine Lib.wpList_append_run _ rfl _ _ _ _ rfl _ _ rfl rfl _ _ (hrun _) ?_)
    go_ret
    exact ⟨rfl, rfl⟩
  | some a =>
    obtain ⟨ab, ao, asp⟩ := a
    go_enter Tryd.func124, Tryd.ntmps124
    go_wp2_with (at_builtin; refine Lib.wpList_append_run _ rfl _ _ _ _ rfl _ _ rfl rfl _ _ (hrun _) ?_)
    all_goals (go_ret; exact ⟨rfl, rfl⟩)
theorem ins_growE (g n c i vb m vc : Nat) (cur cur2 : Array Value) (e e2 : TypeId) (w : World) (hi : i < n) (hm : 0 < m) (hnc : n ≤ c) (hroom : c < n + m)
    (hg : w.heap[g]? = some (.cells cur e (0, 0))) (hcs : cur.size = c * 7) (hv : w.heap[vb]? = some (.cells cur2 e2 (0, 0))) (hcs2 : cur2.size = vc * 7) (hvc : m ≤ vc)
    (h1c : ∀ v ∈ cur.toList.take (n * 7), v.oneCell' = true) (h1v : ∀ v ∈ cur2.toList.take (m * 7), v.oneCell' = true) (hbig : (n + m) * 104 ≤ 140737488355328) :
    Calls Tryd.prog 124 #[.slice (some ⟨g, 0, none⟩) n c, .int .i64 i, .slice (some ⟨vb, 0, none⟩) m vc] w fun e' w' =>
      ∃ (row : Array Value) (W : World), row.size = grownCap w (n + m) c 113 * 7 ∧ (∀ j, j < i * 7 → row[j]? = cur[j]?) ∧
      e' = .returned (.slice (some ⟨w.heap.size, 0, none⟩) (n + m) (grownCap w (n + m) c 113)) ∧ W.heap = (w.drew.alloc (.cells row 113)).heap ∧ W.os = w.os ∧ W.tape = w.tape ∧ W.output = w.output ∧
      w' = (W.setRow w.heap.size (spl row (i * 7) (cur2.toList.take (m * 7)))).drew.setRow w.heap.size (spl (spl row (i * 7) (cur2.toList.take (m * 7))) ((i + m) * 7) ((cur.toList.take (n * 7)).drop (i * 7))) := by
  letI : Globs := ⟨[]⟩
  have mixed : Tryd.prog.follows .mixedOrders = true := by kernel_rfl
  have hz1 : ¬ ((m : Int) = 0) := by omega
  have hz2 : ¬ ((i : Int) = (n : Int)) := by omega
  have hz3 : (c : Int) < (n : Int) + (m : Int) := by omega
  have hbw : g < w.heap.size := (Array.getElem?_eq_some_iff.1 hg).1
  have hvw : vb < w.heap.size := (Array.getElem?_eq_some_iff.1 hv).1
  have hkk : (n : Int) + (m : Int) - (i : Int) = ((n + m - i : Nat) : Int) := by omega
  have hik : i + (n + m - i) = n + m := by omega
  have hl : cur.toList.length = cur.size := Array.length_toList
  have hl2 : cur2.toList.length = cur2.size := Array.length_toList
  have hdl : ((cur.toList.take (n * 7)).drop (i * 7)).length = (n - i) * 7 := by rw [List.length_drop, List.length_take, hl]; omega
  have htl : (cur2.toList.take (m * 7)).length = m * 7 := by rw [List.length_take, hl2]; omega
  obtain ⟨i0, z, hi0, hi1, hi2, hi3, hi4⟩ := ti113_ok.info
  have hzl : z.cells.size = 7 := by rw [hi4]; rfl
  have hold : (Builtin.firstCells i0.size i (.slice (some ⟨g, 0, none⟩) i c)).run Tryd.prog w.drew = .ok (cur.toList.take (i * 7)).toArray w.drew := by
    rw [hi1]
    exact run_firstCells_some w.drew 7 i ⟨g, 0, none⟩ i c _ (by rw [List.length_take, hl]; omega) (fun j v hj => by
        rw [Addr.add_lit, cell_of_row w.drew g _ cur e (0, 0) hg, Nat.zero_add]
        rw [List.getElem?_take] at hj
        split at hj
        · simpa using hj
        · cases hj)
  have hib : i0.bytes = 104 := hi2
  have his : i0.size = 7 := hi1
  have hrz : ∀ ty, (Builtin.append_ #[24, 3] ty #[.slice (some ⟨g, 0, none⟩) i c, .int .i64 ((n : Int) + (m : Int) - (i : Int))]).run Tryd.prog w =
      .ok (.slice (some ⟨w.heap.size, 0, none⟩) (n + m) (grownCap w (n + m) c 113)) (w.drew.alloc (.cells ((cur.toList.take (i * 7)).toArray ++ Builtin.zeroCells z.cells (n + m - i) ++ Builtin.zeroCells z.cells (grownCap w (n + m) c 113 - (n + m))) 113)) := fun ty => by
    have h := Lib.run_append_grow_zeros w 24 3 ty 113 i0 z .i64 .i64 Tryd.underlying24 Tryd.underlying3 hi0 hi3 (some ⟨g, 0, none⟩) i c _ hold (n + m - i) (by omega) (by omega) (by omega) (by omega) (by rw [hib]; omega) (by rw [hib, hik]; exact growslice_fits hroom hbig)
    rw [hik] at h
    rw [hkk]
    exact h
  obtain ⟨G, hG⟩ : ∃ G, G = grownCap w (n + m) c 113 := ⟨_, rfl⟩
  obtain ⟨ROW, hROW⟩ : ∃ ROW : Array Value, ROW = (cur.toList.take (i * 7)).toArray ++ Builtin.zeroCells z.cells (n + m - i) ++ Builtin.zeroCells z.cells (G - (n + m)) := ⟨_, rfl⟩
  rw [← hG] at hrz ⊢
  rw [← hROW] at hrz
  have hGn : n + m ≤ G := by rw [hG]; exact grownCap_ge w _ _ _
  have hG63 : G ≤ 9223372036854775807 := by
    have := grownCap_le_maxLen w (n + m) c 113 (by unfold maxLen; omega)
    rw [← hG] at this
    unfold maxLen at this
    omega
  have hRs : ROW.size = G * 7 := by
    rw [hROW]
    simp only [Array.size_append, List.size_toArray, size_zeroCells, hzl, List.length_take, hl]
    omega
  have hRa : ∀ j, j < i * 7 → ROW[j]? = cur[j]? := fun j hj => by
    rw [hROW, Array.append_assoc, Array.getElem?_append_left (by simp only [List.size_toArray, List.length_take, hl]; omega), List.getElem?_toArray, List.getElem?_take, if_pos hj, Array.getElem?_toList]
  obtain ⟨W1, hW1⟩ : ∃ W1, W1 = w.drew.alloc (.cells ROW 113) := ⟨_, rfl⟩
  have hWN : W1.heap[w.heap.size]? = some (.cells ROW 113 (0, 0)) := by rw [hW1]; exact heap_alloc_new w.drew _
  have hWo : ∀ k, k < w.heap.size → W1.heap[k]? = w.heap[k]? := fun k hk => by rw [hW1]; exact (Stp.alloc w.drew _).block k hk (fun h => h)
  rw [← hW1] at hrz
  have hcpA : ∀ (W : World), (∀ k : Nat, W.heap[k]? = W1.heap[k]?) → ∀ ty dc, (Builtin.copy_ #[24, 24] ty #[.slice (some ⟨w.heap.size, i * 7, none⟩) (n + m - i) dc, .slice (some ⟨vb, 0, none⟩) m vc]).run Tryd.prog W = .ok (goInt ((m : Nat) : Int)) (W.setRow w.heap.size (spl ROW (i * 7) (cur2.toList.take (m * 7)))) := fun W hW ty dc => by
    have hmin : Nat.min m (n + m - i) = m := by show min _ _ = _; omega
    have hvW : W.heap[vb]? = some (.cells cur2 e2 (0, 0)) := by rw [hW, hWo _ hvw]; exact hv
    have := run_copyR W 24 24 ty 113 7 w.heap.size (i * 7) (n + m - i) dc ⟨vb, 0, none⟩ m vc (cur2.toList.take (m * 7)) ROW 113 Tryd.underlying24 ins_szE (by rw [htl, hmin])
      (fun j v hj => by
        rw [Addr.add_lit, cell_of_row W vb _ cur2 e2 (0, 0) hvW, Nat.zero_add]
        rw [List.getElem?_take] at hj
        split at hj
        · simpa using hj
        · cases hj) (by rw [hW]; exact hWN) (by rw [htl, hRs]; omega) h1v
    rw [hmin] at this
    exact this
  have hRs2 : (spl ROW (i * 7) (cur2.toList.take (m * 7))).size = G * 7 := by rw [spl_size (by rw [htl, hRs]; omega), hRs]
  have hcpB : ∀ (W : World), (∀ k : Nat, W.heap[k]? = (W1.setRow w.heap.size (spl ROW (i * 7) (cur2.toList.take (m * 7)))).heap[k]?) → ∀ ty dc sc, (Builtin.copy_ #[24, 24] ty #[.slice (some ⟨w.heap.size, (i + m) * 7, none⟩) (n + m - (i + m)) dc, .slice (some ⟨g, i * 7, none⟩) (n - i) sc]).run Tryd.prog W = .ok (goInt ((n - i : Nat) : Int)) (W.setRow w.heap.size (spl (spl ROW (i * 7) (cur2.toList.take (m * 7))) ((i + m) * 7) ((cur.toList.take (n * 7)).drop (i * 7)))) := fun W hW ty dc sc => by
    have hmin : Nat.min (n - i) (n + m - (i + m)) = n - i := by show min _ _ = _; omega
    have hgW : W.heap[g]? = some (.cells cur e (0, 0)) := by rw [hW, setRow_other _ _ _ _ (by omega), hWo _ hbw]; exact hg
    have := run_copyR W 24 24 ty 113 7 w.heap.size ((i + m) * 7) (n + m - (i + m)) dc ⟨g, i * 7, none⟩ (n - i) sc ((cur.toList.take (n * 7)).drop (i * 7)) _ 113 Tryd.underlying24 ins_szE (by rw [hdl, hmin])
      (fun j v hj => by
        rw [Addr.add_lit, cell_of_row W g _ cur e (0, 0) hgW]
        rw [List.getElem?_drop, List.getElem?_take] at hj
        split at hj
        · simpa using hj
        · cases hj) (by rw [hW]; exact setRow_heap W1 _ ROW _ 113 (0, 0) hWN) (by rw [hdl, hRs2]; omega) (fun v hv => h1c v (List.mem_of_mem_drop hv))
    rw [hmin] at this
    exact this
  have hGi : ¬ (G = i) := by omega
  have hGim : ¬ (G = i + m) := by omega
  have hci : ¬ (c = i) := by omega
  refine Calls.mono (R := fun e' w' => e' = .returned (.slice (some ⟨w.heap.size, 0, none⟩) (n + m) G) ∧ w' = ((w.drew.alloc (.cells ROW 113)).setRow w.heap.size (spl ROW (i * 7) (cur2.toList.take (m * 7)))).drew.setRow w.heap.size (spl (spl ROW (i * 7) (cur2.toList.take (m * 7))) ((i + m) * 7) ((cur.toList.take (n * 7)).drop (i * 7)))) ?_ (fun e' w' h => ⟨ROW, w.drew.alloc (.cells ROW 113), hRs, hRa, h.1, rfl, rfl, rfl, rfl, h.2⟩)
  subst hW1
  have hE : ∀ k : Nat, ((w.alloc (.cells ROW 113)).drew).heap[k]? = (w.drew.alloc (.cells ROW 113)).heap[k]? := fun k => rfl
  have hF : ∀ k : Nat, (((w.alloc (.cells ROW 113)).drew.setRow w.heap.size (spl ROW (i * 7) (cur2.toList.take (m * 7)))).drew).heap[k]? = ((w.drew.alloc (.cells ROW 113)).setRow w.heap.size (spl ROW (i * 7) (cur2.toList.take (m * 7)))).heap[k]? := fun k => rfl
  have hw1 : IntKind.i64.wrap ((i : Int) + (m : Int)) = (i : Int) + (m : Int) := by rw [IntKind.wrap_i64]; omega
  have hb1 : (0 : Int) ≤ (i : Int) + (m : Int) := by omega
  have hin : i ≤ n := by omega
  have htn : ((i : Int) + (m : Int)).toNat = i + m := by omega
  have hb3 : (i : Int) ≤ (n : Int) := by omega
  clear hkk hik hold hROW hG hRs hRs2 hRa hg hv hcs hcs2 hi0 hi1 hi2 hi3 hi4 hib his hzl h1c h1v hWN hWo hl hl2 hdl htl
  go_enter Tryd.func124, Tryd.ntmps124
  go_wp2_with (first
    | (at_builtin; refine Lib.wpList_append_run _ rfl _ _ _ _ rfl _ _ rfl rfl _ _ (hrz _) ?_)
    | (at_builtin; refine wpList_copy_runI _ rfl _ _ 24 24 rfl _ _ rfl rfl (hcpA _ hE _ _) ?_)
    | (at_builtin; refine wpList_copy_runI _ rfl _ _ 24 24 rfl _ _ rfl rfl (hcpB _ (fun _ => rfl) _ _ _) ?_))
  go_region_law_o (refine step_copy_runI rfl _ _ 24 24 rfl (.slice (some ⟨w.heap.size, (i + m) * 7, none⟩) (n + m - (i + m)) (G - (i + m))) (.slice (some ⟨g, i * 7, none⟩) (n - i) (c - i)) (by simp [Act.eval, Act.put]) (by simp [Act.eval, Act.put]) (hcpB _ hF 3 (G - (i + m)) (c - i)) ?_)
  go_wp2
  go_ret
  exact ⟨rfl, rfl⟩
theorem s_insE [Globs] (l : List (den .ent)) (x : den .ent) (i : Nat) (hi : i ≤ l.length) (hbig : (l.length + 1) * 104 ≤ 140737488355328) :
    CSpec Tryd.prog 124 [.vec 1000 .ent l, .i .i64 i, .vec 1001 .ent [x]] [] (.vec 1000 .ent (l.take i ++ x :: l.drop i)) [] := by
  refine ⟨fun vs w => Tryd.call124 vs w, fun F X β w vs hvs hpin hI => ?_⟩
  match vs, hvs with
  | [v0, v1, v2], _ =>
    have h0 : VecAt β (SX.Own X ⟨argSlots 0 [.vec 1000 .ent l, .i .i64 i, .vec 1001 .ent [x]], []⟩ β) w 1000 .ent l v0 := hI.slots 0
    have h1 : SX.Im (SX.Own X ⟨argSlots 0 [.vec 1000 .ent l, .i .i64 i, .vec 1001 .ent [x]], []⟩ β) w (.i .i64 i) v1 := hI.slots 1
    have h2 : VecAt β (SX.Own X ⟨argSlots 0 [.vec 1000 .ent l, .i .i64 i, .vec 1001 .ent [x]], []⟩ β) w 1001 .ent [x] v2 := hI.slots 2
    have N0 : Nm ⟨argSlots 0 [.vec 1000 .ent l, .i .i64 i, .vec 1001 .ent [x]], []⟩ 1000 := .inr (.inl ⟨0, List.mem_singleton.2 rfl⟩)
    have N1 : Nm ⟨argSlots 0 [.vec 1000 .ent l, .i .i64 i, .vec 1001 .ent [x]], []⟩ 1001 := .inr (.inl ⟨2, List.mem_singleton.2 rfl⟩)
    cases h1
    have hL : (l.take i ++ x :: l.drop i).length = l.length + 1 := by rw [List.length_append, List.length_cons, List.length_take, List.length_drop]; omega
    rcases h2 with ⟨h2, _⟩ | ⟨vb, vc, cur2, e2, b1, rfl, b3, b4, b5, b6, b7⟩
    · cases h2
    have hx : All2 (SX.Im (SX.Own X ⟨argSlots 0 [.vec 1000 .ent l, .i .i64 i, .vec 1001 .ent [x]], []⟩ β) w) (flat .ent [x]) (cur2.toList.take (1 * 7)) := vec_cells b6 b4 b7
    have h1v := vec_one (l := [x]) hx
    have hb4 : 1 ≤ vc := b4
    have hb6 : cur2.size = vc * 7 := b6
    have hxl : (cur2.toList.take (1 * 7)).length = 7 := by rw [← hx.1]; rfl
    have hmx : l.length + 1 ≤ maxLen := by unfold maxLen; omega
    have hge := fun c => grownCap_ge w (l.length + 1) c 113
    have hcm := fun c => grownCap_le_maxLen w (l.length + 1) c 113 hmx
    rcases h0 with ⟨rfl, rfl, h0⟩ | ⟨g, c, cur, e, p1, rfl, p3, p4, p5, p6, p7⟩
    · have hi0 : i = 0 := by simpa using hi
      subst hi0
      refine (ins_end_growE none 0 0 vb 1 vc [] cur2 e2 w (by omega) (by omega) (by omega) rfl (fun w' _ => run_firstCells_none w' 7 0 0 0) b3 hb6 hb4 h1v (fun _ => ⟨rfl, rfl⟩) (by omega)).mono ?_
      rintro e' w' ⟨z, hz, rfl, rfl⟩
      have hzl : z.cells.size = 7 := by rw [hz]; rfl
      refine ⟨_, _, rfl, vec_end (us := cur2.toList.take (1 * 7)) (show 1 ≤ 3 by omega) hI (((Stp.drew w).trans (Stp.alloc w.drew _) (fun _ _ h => h)).mono (fun _ _ h => h.elim)) (.inr (Nat.le_refl _)) (heap_alloc_new w.drew _) (hge 0) (hcm 0) ?_ hx ?_⟩
      · simp only [Array.size_append, List.size_toArray, size_zeroCells, hzl, hxl, List.length_nil]
        have := hge 0
        simp only [List.length_nil] at this
        show _ = _ * 7
        omega
      · intro j u hj
        have hj' : j < (cur2.toList.take (1 * 7)).length := (List.getElem?_eq_some_iff.1 hj).1
        rw [Array.getElem?_append_left (by simpa using hj')]
        simpa using hj
    have hne : vb ≠ g := fun h => by have := hI.inj 1001 1000 g N1 N0 (h ▸ b1) p1; omega
    have hc := vec_cells p6 p4 p7
    have h1c := vec_one hc
    have hp6 : cur.size = c * 7 := p6
    have hcl : cur.toList.length = cur.size := Array.length_toList
    have hall : All2 (SX.Im (SX.Own X ⟨argSlots 0 [.vec 1000 .ent l, .i .i64 i, .vec 1001 .ent [x]], []⟩ β) w) (flat .ent (l.take i ++ x :: l.drop i)) ((cur.toList.take (l.length * 7)).take (i * 7) ++ (cur2.toList.take (1 * 7) ++ (cur.toList.take (l.length * 7)).drop (i * 7))) := ins_cells hc hx i hi
    have h5 : c ≤ 9223372036854775807 := by unfold maxLen at p5; omega
    have hA : ((cur.toList.take (l.length * 7)).take (i * 7)).length = i * 7 := by rw [List.length_take, List.length_take, hcl]; omega
    have hC : ((cur.toList.take (l.length * 7)).drop (i * 7)).length = (l.length - i) * 7 := by rw [List.length_drop, List.length_take, hcl]; omega
    have hAt : ∀ j, j < i * 7 → ((cur.toList.take (l.length * 7)).take (i * 7))[j]? = cur[j]? := fun j hj => by rw [List.getElem?_take, if_pos hj, List.getElem?_take, if_pos (by omega), Array.getElem?_toList]
    by_cases hin : i = l.length
    · subst hin
      have hd : (cur.toList.take (l.length * 7)).drop (l.length * 7) = [] := List.drop_eq_nil_of_le (by rw [List.length_take]; omega)
      have hu : (cur.toList.take (l.length * 7)).take (l.length * 7) ++ (cur2.toList.take (1 * 7) ++ (cur.toList.take (l.length * 7)).drop (l.length * 7)) = cur.toList.take (l.length * 7) ++ cur2.toList.take (1 * 7) := by
        rw [hd, List.append_nil, List.take_of_length_le (by rw [List.length_take]; omega)]
      have hTl : (cur.toList.take (l.length * 7)).length = l.length * 7 := by rw [List.length_take, hcl]; omega
      have hall : All2 (SX.Im (SX.Own X ⟨argSlots 0 [.vec 1000 .ent l, .i .i64 l.length, .vec 1001 .ent [x]], []⟩ β) w) (flat .ent (l.take l.length ++ x :: l.drop l.length)) (cur.toList.take (l.length * 7) ++ cur2.toList.take (1 * 7)) := hu ▸ hall
      by_cases hroom : l.length + 1 ≤ c
      · have hfit : l.length * 7 + (cur2.toList.take (1 * 7)).length ≤ cur.size := by rw [hxl]; omega
        refine (ins_end_roomE g l.length c vb 1 vc cur cur2 e e2 w (by omega) hroom h5 hne p3 hp6 b3 hb6 hb4 h1c h1v hbig).mono ?_
        rintro e' w' ⟨rfl, rfl⟩
        rw [← hL]
        refine ⟨_, _, rfl, vec_end (show 1 ≤ 3 by omega) hI (Stp.setRow w g _) (.inl ⟨N0, p1⟩) (setRow_heap w g cur _ e _ p3) (by rw [hL]; exact hroom) p5 (by rw [spl_size hfit]; exact p6) hall ?_⟩
        intro j u hj
        rw [spl_at hfit, hxl]
        by_cases c1 : j < l.length * 7
        · rw [List.getElem?_append_left (by omega), List.getElem?_take, if_pos c1] at hj
          rw [if_pos (by omega)]
          simpa using hj
        · rw [List.getElem?_append_right (by omega), hTl] at hj
          have := (List.getElem?_eq_some_iff.1 hj).1
          rw [if_neg (by omega), if_pos (by omega)]
          exact hj
      · refine (ins_end_growE (some ⟨g, 0, none⟩) l.length c vb 1 vc (cur.toList.take (l.length * 7)) cur2 e2 w (by omega) p4 (by omega) hTl (fun w' hw => run_firstCells_some w' 7 _ ⟨g, 0, none⟩ _ c _ hTl (fun j v hj => by
          rw [Addr.add_lit, cell_of_row w' g _ cur e (0, 0) (by rw [hw]; exact p3), Nat.zero_add]
          rw [List.getElem?_take] at hj
          split at hj
          · simpa using hj
          · cases hj)) b3 hb6 hb4 h1v (fun h => by cases h) hbig).mono ?_
        rintro e' w' ⟨z, hz, rfl, rfl⟩
        have hzl : z.cells.size = 7 := by rw [hz]; rfl
        have hgc := hge c
        have hcc := hcm c
        generalize grownCap w (l.length + 1) c 113 = G at hgc hcc
        rw [← hL]
        refine ⟨_, _, rfl, vec_end (show 1 ≤ 3 by omega) hI (((Stp.drew w).trans (Stp.alloc w.drew _) (fun _ _ h => h)).mono (fun _ _ h => h.elim)) (.inr (Nat.le_refl _)) (heap_alloc_new w.drew _) (by rw [hL]; exact hgc) hcc ?_ hall ?_⟩
        · simp only [Array.size_append, List.size_toArray, size_zeroCells, hzl, hxl, hTl, hL]
          show _ = _ * 7
          omega
        · intro j u hj
          have hj' : j < (cur.toList.take (l.length * 7) ++ cur2.toList.take (1 * 7)).length := (List.getElem?_eq_some_iff.1 hj).1
          rw [Array.getElem?_append_left (by simpa using hj')]
          simpa using hj
    · by_cases hroom : l.length + 1 ≤ c
      · refine (ins_shiftE g l.length c i vb 1 vc cur cur2 e e2 w (by omega) (by omega) hroom h5 hne p3 hp6 b3 hb6 hb4 h1c h1v).mono ?_
        rintro e' w' ⟨rfl, rfl⟩
        have hf1 : (i + 1) * 7 + ((cur.toList.take (l.length * 7)).drop (i * 7)).length ≤ cur.size := by rw [hC]; omega
        have hs1 := spl_size hf1
        have hf2 : i * 7 + (cur2.toList.take (1 * 7)).length ≤ (spl cur ((i + 1) * 7) ((cur.toList.take (l.length * 7)).drop (i * 7))).size := by rw [hs1, hxl]; omega
        rw [← hL]
        refine ⟨_, _, rfl, vec_end (show 1 ≤ 3 by omega) hI (((Stp.drew w).mono (fun _ _ h => h.elim)).trans ((Stp.setRow _ g _).trans (Stp.setRow _ g _) (fun _ _ h => h)) (fun _ _ h => h)) (.inl ⟨N0, p1⟩) (setRow_heap _ g _ _ e _ (setRow_heap w.drew g cur _ e _ p3)) (by rw [hL]; exact hroom) p5 (by rw [spl_size hf2, hs1]; exact p6) hall (row_pre (fun j hj => ?_) (fun j hj => ?_) (fun j hj => ?_))⟩
        · rw [hA] at hj
          rw [hAt j hj, spl_at hf2, if_pos hj, spl_at hf1, if_pos (by omega)]
        · rw [hA, spl_at hf2, if_neg (by omega), if_pos (by omega)]
          congr 1
          omega
        · rw [hA, hxl, spl_at hf2, hxl, if_neg (by omega), if_neg (by omega), spl_at hf1, if_neg (by omega), if_pos (by omega)]
          congr 1
          omega
      · refine (ins_growE g l.length c i vb 1 vc cur cur2 e e2 w (by omega) (by omega) p4 (by omega) p3 hp6 b3 hb6 hb4 h1c h1v hbig).mono ?_
        rintro e' w' ⟨row, W, hrs, hra, rfl, hWh, hWo, hWt, hWp, rfl⟩
        have hgc := hge c
        have hcc := hcm c
        generalize grownCap w (l.length + 1) c 113 = G at hrs hgc hcc
        have hf1 : i * 7 + (cur2.toList.take (1 * 7)).length ≤ row.size := by rw [hxl]; omega
        have hs1 := spl_size hf1
        have hf2 : (i + 1) * 7 + ((cur.toList.take (l.length * 7)).drop (i * 7)).length ≤ (spl row (i * 7) (cur2.toList.take (1 * 7))).size := by rw [hs1, hC]; omega
        have hst : Stp (fun _ => False) w W := ⟨hWo, hWt, hWp, by rw [hWh]; simp, fun k hk _ => by rw [hWh]; exact (Stp.alloc w.drew _).block k hk (fun h => h)⟩
        rw [← hL]
        refine ⟨_, _, rfl, vec_end (show 1 ≤ 3 by omega) hI ((hst.mono (fun _ _ h => h.elim)).trans ((Stp.setRow _ w.heap.size _).trans (((Stp.drew _).mono (fun _ _ h => h.elim)).trans (Stp.setRow _ w.heap.size _) (fun _ _ h => h)) (fun _ _ h => h)) (fun _ _ h => h)) (.inr (Nat.le_refl _)) (setRow_heap _ _ _ _ 113 _ (setRow_heap W _ row _ 113 _ (by rw [hWh]; exact heap_alloc_new w.drew _))) (by rw [hL]; exact hgc) hcc (by rw [spl_size hf2, hs1]; exact hrs) hall (row_pre (fun j hj => ?_) (fun j hj => ?_) (fun j hj => ?_))⟩
        · rw [hA] at hj
          rw [hAt j hj, spl_at hf2, if_pos (by omega), spl_at hf1, if_pos hj, hra j hj]
        · rw [hA, spl_at hf2, if_pos (by omega), spl_at hf1, if_neg (by omega), if_pos (by omega)]
          congr 1
          omega
        · rw [hA, hxl, spl_at hf2, if_neg (by omega), if_pos (by omega)]
          congr 1
          omega
end Go.Proofs.YtmfchbkdakmjhaaDoor
end
section
namespace Go.Proofs.YtmfchbkdakmjhaaDoor
set_option linter.unusedSectionVars false
set_option linter.unusedSimpArgs false
set_option linter.unusedVariables false
open Go Go.SX Go.Vl
set_option maxRecDepth 100000
set_option maxHeartbeats 0
section
variable [G : Globs]
theorem w_dropV (l : List Ent) (k : Str) (hl1 : l.length ≤ 100000000) (hn : ∀ p ∈ l, VN 100000000 p.2) : vc Tryd.prog Γ 29 [0, 1, 4, 5, 7, 8, 9, 10, 11, 17, 1000] (Tryd.f83.body.getD .skip) (postBK Γ [.tmp 4] (.vec 1000 .ent (withoutE l k)) []) ⟨argSlots 0 [.rd .ent l, .s k], []⟩ := by
  intro hl
  refine Exists.intro [(5, 5, .ent)] (Exists.intro [] (Exists.intro [] (Exists.intro Nat (Exists.intro (fun i => i ≤ l.length) (Exists.intro (fun i => ⟨[(1, .s k), (5, .vec 5 .ent (withoutE (l.take i) k)), (8, .rd .ent l), (9, .i .i64 l.length), (10, .i .i64 i)], []⟩) (Exists.intro (fun i => l.length - i) (Exists.intro 0 (And.intro (Nat.zero_le _) (And.intro ?_ ?_)))))))))
  · (repeat' (first | exact trivial | exact Or.inl rfl | exact Or.inr (Or.inl ⟨rfl, _, rfl⟩) | exact Or.inr (Or.inr (Or.inr ⟨_, _, _, rfl, rfl⟩)) | refine And.intro ?_ ?_))
  · rintro i hi
    refine And.intro (fun he => ?_) (fun he => ?_)
    · have hi : i < l.length := by have : (i : Int) < (l.length : Int) := of_decide_eq_true he
                                   omega
      have hg : l.getD (Int.toNat (i : Int)) (dflt .ent) = l[i] := by rw [Int.toNat_natCast, List.getD_eq_getElem?_getD, List.getElem?_eq_getElem hi]; rfl
      refine And.intro ⟨by omega, by omega⟩ ?_
      refine And.intro (fun hz => ?_) (fun hz => ?_)
      · have hz : keyIs k l[i] = false := by rw [← hg]; simpa [keyIs] using hz
        have hs := s_Own l[i].2 (hn _ (List.getElem_mem hi))
        rw [← hg] at hs
        refine Exists.intro [.blk [0, 1, 2, 3, 4, 5, 6, 7] [25], .one 8, .take 9] (And.intro (by kernel_rfl) ?_)
        refine Exists.intro _ (And.intro (hs) ?_)
        rw [hg]
        have hfl := filter_len (l := l) (k := k) (i := i)
        refine And.intro (show ((withoutE (l.take i) k).length + 1) * 104 ≤ 140737488355328 by omega) ?_
        (refine And.intro (rng64 (by omega) (by omega)) ?_)
        refine Exists.intro [(26, 5)] (Exists.intro (i + 1) (And.intro hi (And.intro ?_ ?_)))
        · have e : withoutE (l.take i) k ++ [(l[i].1, (⟨l[i].2.kind, l[i].2.n, l[i].2.f, l[i].2.s, l[i].2.l, l[i].2.e⟩ : Val))] = withoutE (l.take (i + 1)) k := by rw [val_eta]; exact (filter_next hi hz).symm
          (repeat' (first | exact trivial | exact Or.inl rfl | exact Or.inl ((congrArg (AV.vec 5 .ent) e)) | refine And.intro ?_ ?_))
        · show l.length - (i + 1) < l.length - i
          omega
      · have hz : keyIs k l[i] = true := by rw [← hg]; simpa [keyIs] using hz
        (refine And.intro (rng64 (by omega) (by omega)) ?_)
        refine Exists.intro [] (Exists.intro (i + 1) (And.intro hi (And.intro ?_ ?_)))
        · (repeat' (first | exact trivial | exact Or.inl rfl | exact Or.inl ((congrArg (AV.vec 5 .ent) (filter_skip hi hz).symm)) | refine And.intro ?_ ?_))
        · show l.length - (i + 1) < l.length - i
          omega
    · have hi : i = l.length := by have : ¬ (i : Int) < (l.length : Int) := of_decide_eq_false he
                                   omega
      subst hi
      rw [List.take_length]
      refine Exists.intro [(5, 1000)] (And.intro rfl (by (repeat' (first | exact trivial | exact Or.inl rfl | exact Or.inr (Or.inl ⟨rfl, _, rfl⟩) | exact Or.inr (Or.inr (Or.inr ⟨_, _, _, rfl, rfl⟩)) | refine And.intro ?_ ?_))))
theorem s_dropV (l : List Ent) (k : Str) (hl1 : l.length ≤ 100000000) (hn : ∀ p ∈ l, VN 100000000 p.2) : CSpec Tryd.prog 83 [.rd .ent l, .s k] [] (.vec 1000 .ent (withoutE l k)) [] :=
  cspec_of_vc Γ_good Tryd.func83 rfl Tryd.call83 Tryd.results83 Tryd.ntmps83 (Nat.le_of_ble_eq_true rfl) (Nat.le_of_ble_eq_true rfl) (by rfl) (w_dropV l k hl1 hn)
theorem w_put (l : List Ent) (k : Str) (a : Val) (hl1 : l.length ≤ 100000000) (hn : ∀ p ∈ l, VN 100000000 p.2) (ha : VN 100000000 a) : VCs Tryd.prog Γ 27 [0, 4, 5, 6, 7, 8, 16] (Tryd.f82.body.getD .skip) (postK Γ [.tmp 6] (fun v => v = .rd .ent (putE l k a))) ⟨argSlots 0 [.rd .ent l, .s k, .agg (encVal a)], []⟩ := by
  refine VCs.seq (by first | exact Γ_good | exact Ctx.good_kp Γ_good _) ?_
  refine VCs.seq (by first | exact Γ_good | exact Ctx.good_kp Γ_good _) ?_
  refine Or.inr (Or.inl (Exists.intro [] (Exists.intro _ (Exists.intro _ (Exists.intro _ (Exists.intro _ (Exists.intro _ (Exists.intro [(1000, 7)] (And.intro (s_dropV l k hl1 hn) ?_)))))))))
  refine (And.intro rfl (And.intro rfl (And.intro rfl (And.intro rfl ?_))))
  have hml : (withoutE l k).length ≤ l.length := List.length_filter_le _ _
  unfold putE
  generalize withoutE l k = m at hml
  refine VCs.seq (by first | exact Γ_good | exact Ctx.good_kp Γ_good _) ?_
  refine Or.inr (Or.inr (Or.inl (Exists.intro _ (And.intro (s_ixE m k (keyGt k) 123 (fun x _ => s_put1 x k)) ?_))))
  refine VCs.cut (by first | exact Γ_good | exact Ctx.good_kp Γ_good _) Unit (fun _ => True) (fun _ => ⟨[(7, .vec 7 .ent m), (4, .pt 4 0), (5, .pt 5 0), (8, .i .i64 (m.findIdx (keyGt k) : Nat))], [(4, [.s k]), (5, encVal a)]⟩) ?_ ?_
  · have hle := List.findIdx_le_length (p := keyGt k) (xs := m)
    refine And.intro (fun hz => ?_) (fun hz => ?_)
    · have hz : ixI m (keyGt k) < 0 := of_decide_eq_true hz
      have e : m.length = m.findIdx (keyGt k) := by
        unfold ixI at hz
        split at hz
        · omega
        · omega
      intro _
      refine Exists.intro () (And.intro trivial ?_)
      (repeat' (first | exact trivial | exact Or.inl rfl | exact Or.inl ((congrArg (fun n : Nat => AV.i .i64 n) e)) | refine And.intro ?_ ?_))
    · have hz : ¬ ixI m (keyGt k) < 0 := of_decide_eq_false hz
      have e : ixI m (keyGt k) = (m.findIdx (keyGt k) : Nat) := by
        unfold ixI at hz ⊢
        split at hz
        · rename_i h; rw [if_pos h]
        · omega
      refine Exists.intro () (And.intro trivial ?_)
      (repeat' (first | exact trivial | exact Or.inl rfl | exact Or.inl ((congrArg (fun n : Int => AV.i .i64 n) e)) | refine And.intro ?_ ?_))
  rintro _ _
  have hle := List.findIdx_le_length (p := keyGt k) (xs := m)
  generalize m.findIdx (keyGt k) = j at hle
  refine VCs.of_vc (by first | exact Γ_good | exact Ctx.good_kp Γ_good _) ?_
  refine Exists.intro [.take 0, .take 1, .blk [2, 3, 4, 5], .one 6, .one 7, .take 8] (And.intro (by kernel_rfl) ?_)
  refine Exists.intro _ (And.intro (s_Own a ha) ?_)
  refine Or.inr (Or.inl (Exists.intro [] (Exists.intro _ (Exists.intro _ (Exists.intro _ (Exists.intro _ (Exists.intro _ (Exists.intro [(1000, 7), (1001, 25)] (And.intro (s_insE m (k, (⟨a.kind, a.n, a.f, a.s, a.l, a.e⟩ : Val)) j hle (by omega)) ?_)))))))))
  refine (And.intro rfl (And.intro rfl (And.intro rfl (And.intro rfl ?_))))
  have e : m.take j ++ (k, (⟨a.kind, a.n, a.f, a.s, a.l, a.e⟩ : Val)) :: m.drop j = m.take j ++ (k, a) :: m.drop j := by rw [val_eta]
  exact congrArg (AV.rd .ent) e
theorem s_put (l : List Ent) (k : Str) (a : Val) (hl1 : l.length ≤ 100000000) (hn : ∀ p ∈ l, VN 100000000 p.2) (ha : VN 100000000 a) : PSpec Tryd.prog 82 [.rd .ent l, .s k, .agg (encVal a)] (.rd .ent (putE l k a)) :=
  pspec_of_VCs Γ_good Tryd.func82 rfl Tryd.call82 Tryd.results82 Tryd.ntmps82 (Nat.le_of_ble_eq_true rfl) (w_put l k a hl1 hn ha) Γ_good
end
end Go.Proofs.YtmfchbkdakmjhaaDoor
end
section
namespace Go.Proofs.YtmfchbkdakmjhaaDoor
set_option linter.unusedSectionVars false
set_option linter.unusedSimpArgs false
set_option linter.unusedVariables false
open Go Go.SX Go.Ck Go.Vl Go.Ut Go.Up
set_option maxRecDepth 100000
set_option maxHeartbeats 1000000
section
variable [G : Globs]
end
end Go.Proofs.YtmfchbkdakmjhaaDoor
end
section
namespace Go.Proofs.YtmfchbkdakmjhaaDoor
set_option linter.unusedSectionVars false
set_option linter.unusedSimpArgs false
set_option linter.unusedVariables false
open Go Go.SX Go.Ck Go.Vl Go.Ut Go.Up
set_option maxRecDepth 100000
set_option maxHeartbeats 1000000
section
variable [G : Globs]
end
end Go.Proofs.YtmfchbkdakmjhaaDoor
end
section
namespace Go.Proofs.YtmfchbkdakmjhaaDoor
set_option linter.unusedSectionVars false
set_option linter.unusedSimpArgs false
set_option linter.unusedVariables false
open Go Go.SX Go.Ck Go.Vl Go.Ut Go.Up
set_option maxRecDepth 100000
set_option maxHeartbeats 1000000
section
variable [G : Globs]
end
end Go.Proofs.YtmfchbkdakmjhaaDoor
end
section
namespace Go.Ck
set_option linter.unusedSectionVars false
set_option linter.unusedSimpArgs false
set_option linter.unusedVariables false
open Go.SX Go.Vl
theorem sum_bulk : ∀ l : List Val, (∀ x ∈ l, (sizV x).2 ≤ (bkV x : Int)) → sumT (l.map fun v => (⟨v, 0⟩ : VPlace)) ≤ ((l.map bkV).sum : Nat)
  | [], _ => by simp [sumT]
  | x :: r, h => by
    have h1 := h x (.head _)
    have h2 := sum_bulk r fun y hy => h y (.tail _ hy)
    rw [List.map_cons, sumT, List.map_cons, List.sum_cons]
    show (sizV x).2 + _ ≤ _
    omega
theorem siz_bulk_n : ∀ (n : Nat) (v : Val), SizeOf.sizeOf v < n → (sizV v).2 ≤ (bkV v : Int) := by
  intro n
  induction n with
  | zero => intro v h; exact absurd h (Nat.not_lt_zero _)
  | succ n ih =>
    intro v h
    have h1 := sum_bulk (partsOf v) fun x hx => ih x (by have := parts_sz hx; omega)
    have h2 := fold_sum (partsOf v) (0, 1) 0
    have h3 : ((partsOf v).map bkV).sum ≤ (v.l.map bkV).sum + (v.e.map bkP).sum := by
      unfold partsOf
      rw [List.map_append, List.sum_append, List.map_map]
      have : (v.e.map (bkV ∘ (·.2))).sum ≤ (v.e.map bkP).sum := by
        generalize v.e = e
        induction e with
        | nil => exact Nat.le_refl _
        | cons p r ih =>
          rw [List.map_cons, List.sum_cons, List.map_cons, List.sum_cons, bkP_eq]
          simp only [Function.comp]
          omega
      omega
    rw [sizV_eq, bkV_eq]
    simp only at h2 ⊢
    omega
theorem siz_bulk (v : Val) : (sizV v).2 ≤ (bkV v : Int) := siz_bulk_n _ v (Nat.lt_succ_self _)
end Go.Ck
end
section
namespace Go.Proofs.YtmfchbkdakmjhaaDoor
set_option linter.unusedSectionVars false
set_option linter.unusedSimpArgs false
set_option linter.unusedVariables false
open Go Go.SX Go.Ck Go.Vl Go.Ut Go.Up
set_option maxRecDepth 100000
set_option maxHeartbeats 1000000
theorem vn_of_vw {n m : Nat} (h : n ≤ m) {v : Val} (hv : VW n v) : VN m v := by
  induction hv with
  | mk v _ _ _ h1 h2 _ _ i1 i2 => exact .mk v (Nat.le_trans h1 h) (Nat.le_trans h2 h) i1 i2
/-- a value that may be updated: numbers in their bounds, not too much of it -/
structure Mod (v : Val) : Prop where
  vb : VB v
  bk : bkV v ≤ 10000000
theorem Mod.siz {v : Val} (h : Mod v) : (sizV v).2 ≤ 1000000000 := by have := siz_bulk v; have := h.bk; omega
theorem Mod.vw {v : Val} (h : Mod v) : VW 10000000 v := (vw_of_vb h.vb).mono h.bk
theorem Mod.vn {v : Val} (h : Mod v) : VN 100000000 v := vn_of_vw (by decide) h.vw
section
variable [G : Globs]
theorem vb_zero : VB zeroV := .mk zeroV ⟨by decide, by decide⟩ ⟨by decide, by decide⟩ ⟨by decide, by decide⟩ (fun _ h => nomatch h) (fun _ h => nomatch h)
end
end Go.Proofs.YtmfchbkdakmjhaaDoor
end
section
namespace Go.Proofs.YtmfchbkdakmjhaaDoor
set_option linter.unusedSectionVars false
set_option linter.unusedSimpArgs false
set_option linter.unusedVariables false
open Go Go.SX Go.Ck Go.Vl Go.Ut Go.Up Go.Sp Go.Nm
set_option maxRecDepth 100000
set_option maxHeartbeats 1000000
/-- a value, and what is wrong -/
def prA (p : Val × Int) : AV := .tup [.agg (encVal p.1), .i .i64 p.2]
theorem prA_eq {p : Val × Int} {w : Val} {e : Int} (h : p = (w, e)) : prA p = .tup [.agg (encVal w), .i .i64 e] := by rw [h]; rfl
theorem bec4 {x : Val} {k : Int} (h : k = 4) : becV x k = if x.kind ≠ 2 then (x, 10) else (⟨4, 0, 0, numT x.n 10, [], []⟩, 0) := by unfold becV; rw [if_pos h]
theorem bec5 {x : Val} {k : Int} (h : k = 5) : becV x k = if x.kind ≠ 4 then (x, 10) else (⟨2, (readV x.s).1, 0, [], [], []⟩, (readV x.s).2) := by unfold becV; rw [if_neg (by omega), if_pos h]
theorem bec6 {x : Val} {k : Int} (h : k = 6) : becV x k = (⟨5, 0, 0, [], [x], []⟩, 0) := by unfold becV; rw [if_neg (by omega), if_neg (by omega), if_pos h]
theorem bec7 {x : Val} {k : Int} (h : k ≠ 4 ∧ k ≠ 5 ∧ k ≠ 6) : becV x k = if x.kind ≠ 5 then (x, 10) else if x.l.length ≠ 1 then (x, 8) else (x.l.getD 0 default, 0) := by unfold becV; rw [if_neg h.1, if_neg h.2.1, if_neg h.2.2]
theorem ve_len {n : Nat} {a : Val} (h : VW n a) : a.e.length ≤ n := by cases h with | mk _ _ _ _ _ h => exact h
theorem vw_entn {n : Nat} {a : Val} (h : VW n a) (hn : n ≤ 100000000) : ∀ p ∈ a.e, VN 100000000 p.2 := fun p hp => vn_of_vw hn (h.part (List.mem_append_right _ (List.mem_map.2 ⟨p, hp, rfl⟩)))
section
variable [G : Globs]
theorem w_bec (hp : HasPow) (x : Val) (k : Int) (h0 : -9223372036854775808 ≤ x.n ∧ x.n ≤ 9223372036854775807) : vc Tryd.prog Γ 54 [1, 2, 4, 5, 6, 7, 8, 9, 13, 19, 23, 34, 39, 44] (Tryd.f84.body.getD .skip) (postK Γ [.cell 4 26, .tmp 5] (fun v => RL v (prA (becV x k)))) ⟨argSlots 0 [.agg (encVal x), .i .i64 k], []⟩ := by
  by_cases h4 : k = 4
  · have hb := bec4 (x := x) h4
    by_cases hk : x.kind ≠ 2
    · rw [if_pos hk] at hb
      rw [prA_eq hb]
      (repeat' (first | (refine And.intro (fun h => ?_) (fun h => ?_) <;> (try simp [-List.getD_eq_getElem?_getD, -Int.pred_toNat] at h) <;> (try (exfalso; first | omega | contradiction))) | (refine And.intro (rng64 (by omega) (by omega)) ?_) | (refine And.intro ⟨by omega, by omega⟩ ?_) | (refine And.intro ⟨by omega, by omega, by omega⟩ ?_) | (intro _)))
      (repeat' (first | exact trivial | exact Or.inl rfl | exact Or.inr ⟨rfl, _, rfl⟩ | refine And.intro ?_ ?_))
    · rw [if_neg hk] at hb
      rw [prA_eq hb]
      have hk : x.kind = 2 := Decidable.not_not.1 hk
      (repeat' (first | (refine And.intro (fun h => ?_) (fun h => ?_) <;> (try simp [-List.getD_eq_getElem?_getD, -Int.pred_toNat] at h) <;> (try (exfalso; first | omega | contradiction))) | (refine And.intro (rng64 (by omega) (by omega)) ?_) | (refine And.intro ⟨by omega, by omega⟩ ?_) | (refine And.intro ⟨by omega, by omega, by omega⟩ ?_) | (intro _)))
      refine Or.inl (Exists.intro _ (And.intro (s_textP hp x.n h0.1 h0.2) ?_))
      (repeat' (first | exact trivial | exact Or.inl rfl | exact Or.inr ⟨rfl, _, rfl⟩ | refine And.intro ?_ ?_))
  · by_cases h5 : k = 5
    · have hb := bec5 (x := x) h5
      by_cases hk : x.kind ≠ 4
      · rw [if_pos hk] at hb
        rw [prA_eq hb]
        (repeat' (first | (refine And.intro (fun h => ?_) (fun h => ?_) <;> (try simp [-List.getD_eq_getElem?_getD, -Int.pred_toNat] at h) <;> (try (exfalso; first | omega | contradiction))) | (refine And.intro (rng64 (by omega) (by omega)) ?_) | (refine And.intro ⟨by omega, by omega⟩ ?_) | (refine And.intro ⟨by omega, by omega, by omega⟩ ?_) | (intro _)))
        (repeat' (first | exact trivial | exact Or.inl rfl | exact Or.inr ⟨rfl, _, rfl⟩ | refine And.intro ?_ ?_))
      · rw [if_neg hk] at hb
        rw [prA_eq hb]
        have hk : x.kind = 4 := Decidable.not_not.1 hk
        (repeat' (first | (refine And.intro (fun h => ?_) (fun h => ?_) <;> (try simp [-List.getD_eq_getElem?_getD, -Int.pred_toNat] at h) <;> (try (exfalso; first | omega | contradiction))) | (refine And.intro (rng64 (by omega) (by omega)) ?_) | (refine And.intro ⟨by omega, by omega⟩ ?_) | (refine And.intro ⟨by omega, by omega, by omega⟩ ?_) | (intro _)))
        refine Or.inl (Exists.intro _ (And.intro (s_readP x.s) ?_))
        (repeat' (first | exact trivial | exact Or.inl rfl | exact Or.inr ⟨rfl, _, rfl⟩ | refine And.intro ?_ ?_))
    · by_cases h6 : k = 6
      · have hb := bec6 (x := x) h6
        rw [prA_eq hb]
        (repeat' (first | (refine And.intro (fun h => ?_) (fun h => ?_) <;> (try simp [-List.getD_eq_getElem?_getD, -Int.pred_toNat] at h) <;> (try (exfalso; first | omega | contradiction))) | (refine And.intro (rng64 (by omega) (by omega)) ?_) | (refine And.intro ⟨by omega, by omega⟩ ?_) | (refine And.intro ⟨by omega, by omega, by omega⟩ ?_) | (intro _)))
        (repeat' (first | exact trivial | exact Or.inl rfl | exact Or.inl (congrArg (fun w => AV.rd .val [w]) (val_eta _)) | exact Or.inr ⟨rfl, _, rfl⟩ | refine And.intro ?_ ?_))
      · have hb := bec7 (x := x) ⟨h4, h5, h6⟩
        by_cases hk : x.kind ≠ 5
        · rw [if_pos hk] at hb
          rw [prA_eq hb]
          (repeat' (first | (refine And.intro (fun h => ?_) (fun h => ?_) <;> (try simp [-List.getD_eq_getElem?_getD, -Int.pred_toNat] at h) <;> (try (exfalso; first | omega | contradiction))) | (refine And.intro (rng64 (by omega) (by omega)) ?_) | (refine And.intro ⟨by omega, by omega⟩ ?_) | (refine And.intro ⟨by omega, by omega, by omega⟩ ?_) | (intro _)))
          (repeat' (first | exact trivial | exact Or.inl rfl | exact Or.inr ⟨rfl, _, rfl⟩ | refine And.intro ?_ ?_))
        · rw [if_neg hk] at hb
          have hk : x.kind = 5 := Decidable.not_not.1 hk
          by_cases hl : x.l.length ≠ 1
          · rw [if_pos hl] at hb
            rw [prA_eq hb]
            (repeat' (first | (refine And.intro (fun h => ?_) (fun h => ?_) <;> (try simp [-List.getD_eq_getElem?_getD, -Int.pred_toNat] at h) <;> (try (exfalso; first | omega | contradiction))) | (refine And.intro (rng64 (by omega) (by omega)) ?_) | (refine And.intro ⟨by omega, by omega⟩ ?_) | (refine And.intro ⟨by omega, by omega, by omega⟩ ?_) | (intro _)))
            (repeat' (first | exact trivial | exact Or.inl rfl | exact Or.inr ⟨rfl, _, rfl⟩ | refine And.intro ?_ ?_))
          · rw [if_neg hl] at hb
            rw [prA_eq hb]
            have hl : x.l.length = 1 := Decidable.not_not.1 hl
            (repeat' (first | (refine And.intro (fun h => ?_) (fun h => ?_) <;> (try simp [-List.getD_eq_getElem?_getD, -Int.pred_toNat] at h) <;> (try (exfalso; first | omega | contradiction))) | (refine And.intro (rng64 (by omega) (by omega)) ?_) | (refine And.intro ⟨by omega, by omega⟩ ?_) | (refine And.intro ⟨by omega, by omega, by omega⟩ ?_) | (intro _)))
            (repeat' (first | exact trivial | exact Or.inl rfl | exact Or.inr ⟨rfl, _, rfl⟩ | refine And.intro ?_ ?_))
theorem s_bec (hp : HasPow) (x : Val) (k : Int) (h0 : -9223372036854775808 ≤ x.n ∧ x.n ≤ 9223372036854775807) : PSpec Tryd.prog 84 [.agg (encVal x), .i .i64 k] (prA (becV x k)) :=
  pspec_of_vcL Γ_good Tryd.func84 rfl Tryd.call84 Tryd.results84 Tryd.ntmps84 (Nat.le_of_ble_eq_true rfl) (w_bec hp x k h0)
theorem w_tab (hp : HasPow) (a : Val) (m : SX.Move) (ha : VW 10000000 a) (hm : VW 10000000 m.v) : vc Tryd.prog Γ 102 [2, 3, 4, 5, 6, 7, 8, 14, 23, 36, 47, 48, 62, 75, 92] (Tryd.f44.body.getD .skip) (postK Γ [.cell 4 26, .tmp 5] (fun v => RL v (prA (tabV a m)))) ⟨argSlots 0 [.agg (encVal a), .agg (enc .move m)], []⟩ := by
  have he := ve_len ha
  have hen := vw_entn ha (by decide)
  have hmn := vn_of_vw (show 10000000 ≤ 100000000 by decide) hm
  refine Or.inl (Exists.intro _ (And.intro (s_find a.e m.key) ?_))
  by_cases h3 : m.kind = 3
  · by_cases hi : 0 ≤ ixI a.e (keyIs m.key)
    · have hr : tabV a m = (a, 9) := by unfold tabV; rw [if_pos h3, if_pos hi]
      rw [prA_eq hr]
      (repeat' (first | (refine And.intro (fun h => ?_) (fun h => ?_) <;> (try simp [-List.getD_eq_getElem?_getD, -Int.pred_toNat] at h) <;> (try (exfalso; first | omega | contradiction))) | (refine And.intro (rng64 (by omega) (by omega)) ?_) | (refine And.intro ⟨by omega, by omega⟩ ?_) | (refine And.intro ⟨by omega, by omega, by omega⟩ ?_) | (intro _)))
      (repeat' (first | exact trivial | exact Or.inl rfl | exact Or.inr ⟨rfl, _, rfl⟩ | refine And.intro ?_ ?_))
    · have hr : tabV a m = ({ a with e := putE a.e m.key m.v }, 0) := by unfold tabV; rw [if_pos h3, if_neg hi]
      rw [prA_eq hr]
      (repeat' (first | (refine And.intro (fun h => ?_) (fun h => ?_) <;> (try simp [-List.getD_eq_getElem?_getD, -Int.pred_toNat] at h) <;> (try (exfalso; first | omega | contradiction))) | (refine And.intro (rng64 (by omega) (by omega)) ?_) | (refine And.intro ⟨by omega, by omega⟩ ?_) | (refine And.intro ⟨by omega, by omega, by omega⟩ ?_) | (intro _)))
      refine Or.inl (Exists.intro _ (And.intro (s_put a.e m.key m.v (by omega) hen hmn) ?_))
      (repeat' (first | exact trivial | exact Or.inl rfl | exact Or.inr ⟨rfl, _, rfl⟩ | refine And.intro ?_ ?_))
  · by_cases hi : ixI a.e (keyIs m.key) < 0
    · have hr : tabV a m = (a, 8) := by unfold tabV; rw [if_neg h3, if_pos hi]
      rw [prA_eq hr]
      (repeat' (first | (refine And.intro (fun h => ?_) (fun h => ?_) <;> (try simp [-List.getD_eq_getElem?_getD, -Int.pred_toNat] at h) <;> (try (exfalso; first | omega | contradiction))) | (refine And.intro (rng64 (by omega) (by omega)) ?_) | (refine And.intro ⟨by omega, by omega⟩ ?_) | (refine And.intro ⟨by omega, by omega, by omega⟩ ?_) | (intro _)))
      (repeat' (first | exact trivial | exact Or.inl rfl | exact Or.inr ⟨rfl, _, rfl⟩ | refine And.intro ?_ ?_))
    · obtain ⟨i0, i1, i2⟩ := ix_bound hi
      have hxn : VW 10000000 (atK a m.key) := ha.part (atK_in hi)
      by_cases h1 : m.kind = 1
      · by_cases ht : m.to ≠ m.key ∧ 0 ≤ ixI a.e (keyIs m.to)
        · have hr : tabV a m = (a, 9) := by unfold tabV; rw [if_neg h3, if_neg hi, if_pos h1, if_pos ht]
          rw [prA_eq hr]
          obtain ⟨t1, t2⟩ := ht
          (repeat' (first | (refine And.intro (fun h => ?_) (fun h => ?_) <;> (try simp [-List.getD_eq_getElem?_getD, -Int.pred_toNat] at h) <;> (try (exfalso; first | omega | contradiction))) | (refine And.intro (rng64 (by omega) (by omega)) ?_) | (refine And.intro ⟨by omega, by omega⟩ ?_) | (refine And.intro ⟨by omega, by omega, by omega⟩ ?_) | (intro _)))
          refine Or.inl (Exists.intro _ (And.intro (s_find a.e m.to) ?_))
          (repeat' (first | (refine And.intro (fun h => ?_) (fun h => ?_) <;> (try simp [-List.getD_eq_getElem?_getD, -Int.pred_toNat] at h) <;> (try (exfalso; first | omega | contradiction))) | (refine And.intro (rng64 (by omega) (by omega)) ?_) | (refine And.intro ⟨by omega, by omega⟩ ?_) | (refine And.intro ⟨by omega, by omega, by omega⟩ ?_) | (intro _)))
          (repeat' (first | exact trivial | exact Or.inl rfl | exact Or.inr ⟨rfl, _, rfl⟩ | refine And.intro ?_ ?_))
        · have hr : tabV a m = ({ a with e := putE (withoutE a.e m.key) m.to (atK a m.key) }, 0) := by unfold tabV; rw [if_neg h3, if_neg hi, if_pos h1, if_neg ht]
          rw [prA_eq hr]
          have hp1 : ((a.e.getD (ixI a.e (keyIs m.key)).toNat (dflt .ent)).2) = atK a m.key := rfl
          have hwl : (withoutE a.e m.key).length ≤ a.e.length := List.length_filter_le _ _
          have hwn : ∀ p ∈ withoutE a.e m.key, VN 100000000 p.2 := fun p hp => hen p (List.mem_filter.1 hp).1
          have hxn2 := vn_of_vw (show 10000000 ≤ 100000000 by decide) hxn
          by_cases ht1 : m.to = m.key
          · (repeat' (first | (refine And.intro (fun h => ?_) (fun h => ?_) <;> (try simp [-List.getD_eq_getElem?_getD, -Int.pred_toNat] at h) <;> (try (exfalso; first | omega | contradiction))) | (refine And.intro (rng64 (by omega) (by omega)) ?_) | (refine And.intro ⟨by omega, by omega⟩ ?_) | (refine And.intro ⟨by omega, by omega, by omega⟩ ?_) | (intro _)))
            refine Exists.intro [.blk [0, 1, 2, 3, 4, 5, 6, 7, 8, 9], .one 10] (And.intro (by kernel_rfl) ?_)
            refine Exists.intro _ (And.intro (s_drop a.e m.key (by omega) hen) ?_)
            refine Exists.intro _ (And.intro (s_put (withoutE a.e m.key) m.to (atK a m.key) (by omega) hwn hxn2) ?_)
            (repeat' (first | exact trivial | exact Or.inl rfl | exact Or.inr ⟨rfl, _, rfl⟩ | refine And.intro ?_ ?_))
          · have ht2 : ixI a.e (keyIs m.to) < 0 := by
              rcases Int.lt_or_le (ixI a.e (keyIs m.to)) 0 with h | h
              · exact h
              · exact absurd ⟨ht1, h⟩ ht
            (repeat' (first | (refine And.intro (fun h => ?_) (fun h => ?_) <;> (try simp [-List.getD_eq_getElem?_getD, -Int.pred_toNat] at h) <;> (try (exfalso; first | omega | contradiction))) | (refine And.intro (rng64 (by omega) (by omega)) ?_) | (refine And.intro ⟨by omega, by omega⟩ ?_) | (refine And.intro ⟨by omega, by omega, by omega⟩ ?_) | (intro _)))
            refine Or.inl (Exists.intro _ (And.intro (s_find a.e m.to) ?_))
            (repeat' (first | (refine And.intro (fun h => ?_) (fun h => ?_) <;> (try simp [-List.getD_eq_getElem?_getD, -Int.pred_toNat] at h) <;> (try (exfalso; first | omega | contradiction))) | (refine And.intro (rng64 (by omega) (by omega)) ?_) | (refine And.intro ⟨by omega, by omega⟩ ?_) | (refine And.intro ⟨by omega, by omega, by omega⟩ ?_) | (intro _)))
            refine Exists.intro [.blk [0, 1, 2, 3, 4, 5, 6, 7, 8, 9], .one 10] (And.intro (by kernel_rfl) ?_)
            refine Exists.intro _ (And.intro (s_drop a.e m.key (by omega) hen) ?_)
            refine Exists.intro _ (And.intro (s_put (withoutE a.e m.key) m.to (atK a m.key) (by omega) hwn hxn2) ?_)
            (repeat' (first | exact trivial | exact Or.inl rfl | exact Or.inr ⟨rfl, _, rfl⟩ | refine And.intro ?_ ?_))
      · by_cases h2 : m.kind = 2
        · have hr : tabV a m = ({ a with e := withoutE a.e m.key }, 0) := by unfold tabV; rw [if_neg h3, if_neg hi, if_neg h1, if_pos h2]
          rw [prA_eq hr]
          (repeat' (first | (refine And.intro (fun h => ?_) (fun h => ?_) <;> (try simp [-List.getD_eq_getElem?_getD, -Int.pred_toNat] at h) <;> (try (exfalso; first | omega | contradiction))) | (refine And.intro (rng64 (by omega) (by omega)) ?_) | (refine And.intro ⟨by omega, by omega⟩ ?_) | (refine And.intro ⟨by omega, by omega, by omega⟩ ?_) | (intro _)))
          refine Or.inl (Exists.intro _ (And.intro (s_drop a.e m.key (by omega) hen) ?_))
          (repeat' (first | exact trivial | exact Or.inl rfl | exact Or.inr ⟨rfl, _, rfl⟩ | refine And.intro ?_ ?_))
        · have hr : tabV a m = if (becV (atK a m.key) m.kind).2 ≠ 0 then (a, (becV (atK a m.key) m.kind).2) else ({ a with e := putE a.e m.key (becV (atK a m.key) m.kind).1 }, 0) := by unfold tabV; rw [if_neg h3, if_neg hi, if_neg h1, if_neg h2]
          have hxv : VB (atK a m.key) := hxn.vb
          have hx0 : -9223372036854775808 ≤ (atK a m.key).n ∧ (atK a m.key).n ≤ 9223372036854775807 := by cases hxv with | mk _ _ b _ _ _ => exact b
          have hB := s_bec hp (atK a m.key) m.kind hx0
          have hbn : VN 100000000 (becV (atK a m.key) m.kind).1 := vn_of_vw (by decide) (vw_bec hxn (by decide) m.kind)
          (repeat' (first | (refine And.intro (fun h => ?_) (fun h => ?_) <;> (try simp [-List.getD_eq_getElem?_getD, -Int.pred_toNat] at h) <;> (try (exfalso; first | omega | contradiction))) | (refine And.intro (rng64 (by omega) (by omega)) ?_) | (refine And.intro ⟨by omega, by omega⟩ ?_) | (refine And.intro ⟨by omega, by omega, by omega⟩ ?_) | (intro _)))
          refine Or.inl (Exists.intro _ (And.intro (hB) ?_))
          by_cases hb : (becV (atK a m.key) m.kind).2 ≠ 0
          · rw [if_pos hb] at hr
            rw [prA_eq hr]
            (repeat' (first | (refine And.intro (fun h => ?_) (fun h => ?_) <;> (try simp [-List.getD_eq_getElem?_getD, -Int.pred_toNat] at h) <;> (try (exfalso; first | omega | contradiction))) | (refine And.intro (rng64 (by omega) (by omega)) ?_) | (refine And.intro ⟨by omega, by omega⟩ ?_) | (refine And.intro ⟨by omega, by omega, by omega⟩ ?_) | (intro _)))
            (repeat' (first | exact trivial | exact Or.inl rfl | exact Or.inr ⟨rfl, _, rfl⟩ | refine And.intro ?_ ?_))
          · rw [if_neg hb] at hr
            rw [prA_eq hr]
            have hb : (becV (atK a m.key) m.kind).2 = 0 := Decidable.not_not.1 hb
            (repeat' (first | (refine And.intro (fun h => ?_) (fun h => ?_) <;> (try simp [-List.getD_eq_getElem?_getD, -Int.pred_toNat] at h) <;> (try (exfalso; first | omega | contradiction))) | (refine And.intro (rng64 (by omega) (by omega)) ?_) | (refine And.intro ⟨by omega, by omega⟩ ?_) | (refine And.intro ⟨by omega, by omega, by omega⟩ ?_) | (intro _)))
            refine Or.inl (Exists.intro _ (And.intro (s_put a.e m.key (becV (atK a m.key) m.kind).1 (by omega) hen hbn) ?_))
            rw [hb]
            (repeat' (first | exact trivial | exact Or.inl rfl | exact Or.inr ⟨rfl, _, rfl⟩ | refine And.intro ?_ ?_))
theorem s_tab (hp : HasPow) (a : Val) (m : SX.Move) (ha : VW 10000000 a) (hm : VW 10000000 m.v) : PSpec Tryd.prog 44 [.agg (encVal a), .agg (enc .move m)] (prA (tabV a m)) :=
  pspec_of_vcL Γ_good Tryd.func44 rfl Tryd.call44 Tryd.results44 Tryd.ntmps44 (Nat.le_of_ble_eq_true rfl) (w_tab hp a m ha hm)
theorem w_app1S (hp : HasPow) (b : Val) (m : SX.Move) (hb : VW 10000000 b) (hm : VW 10000000 m.v) : vc Tryd.prog Γ 10 [1, 2, 3, 4] (Tryd.f43.body.getD .skip) (postK Γ [.cell 3 26, .tmp 4] (fun v => RL v (prA (tabV b m)))) ⟨argSlots 0 [.agg (encVal b), .rp (enc .move m)], []⟩ := by
  refine Or.inl (Exists.intro _ (And.intro (s_tab hp b m hb hm) ?_))
  (repeat' (first | exact trivial | exact Or.inl rfl | exact Or.inr ⟨rfl, _, rfl⟩ | refine And.intro ?_ ?_))
theorem s_app1S (hp : HasPow) (b : Val) (m : SX.Move) (hb : VW 10000000 b) (hm : VW 10000000 m.v) : PSpec Tryd.prog 43 [.agg (encVal b), .rp (enc .move m)] (prA (tabV b m)) :=
  pspec_of_vcL Γ_good Tryd.func43 rfl Tryd.call43 Tryd.results43 Tryd.ntmps43 (Nat.le_of_ble_eq_true rfl) (w_app1S hp b m hb hm)
theorem tail_str (k : Str) (r : List Str) : ((k :: r).take (Int.toNat ((k :: r).length : Int))).drop (Int.toNat 1) = r := by rw [Int.toNat_natCast, List.take_length]; rfl
theorem w_along0 (a : Val) (m : SX.Move) (g : Nat) (cs : List AV) (hc : PSpec Tryd.prog g [.agg (encVal a), .rp cs] (prA (tabV a m))) : vc Tryd.prog Γ 57 [1, 2, 3, 6, 7, 8, 9, 10, 13, 17, 30, 46] (Tryd.f42.body.getD .skip) (postK Γ [.cell 6 26, .tmp 7] (fun v => RL v (prA (alongV a [] m)))) ⟨argSlots 0 [.agg (encVal a), .rd .str [], .fn g [.rp cs]], []⟩ := by
  by_cases h : a.kind ≠ 6
  · have hr : alongV a [] m = (a, 10) := by rw [alongV, if_pos h]
    rw [prA_eq hr]
    (repeat' (first | (refine And.intro (fun h => ?_) (fun h => ?_) <;> (try simp [-List.getD_eq_getElem?_getD, -Int.pred_toNat] at h) <;> (try (exfalso; first | omega | contradiction))) | (refine And.intro (rng64 (by omega) (by omega)) ?_) | (refine And.intro ⟨by omega, by omega⟩ ?_) | (refine And.intro ⟨by omega, by omega, by omega⟩ ?_) | (intro _)))
    (repeat' (first | exact trivial | exact Or.inl rfl | exact Or.inr ⟨rfl, _, rfl⟩ | refine And.intro ?_ ?_))
  · have hr : alongV a [] m = tabV a m := by rw [alongV, if_neg h]
    have h : a.kind = 6 := Decidable.not_not.1 h
    rw [hr]
    (repeat' (first | (refine And.intro (fun h => ?_) (fun h => ?_) <;> (try simp [-List.getD_eq_getElem?_getD, -Int.pred_toNat] at h) <;> (try (exfalso; first | omega | contradiction))) | (refine And.intro (rng64 (by omega) (by omega)) ?_) | (refine And.intro ⟨by omega, by omega⟩ ?_) | (refine And.intro ⟨by omega, by omega, by omega⟩ ?_) | (intro _)))
    refine Or.inl (Exists.intro _ (And.intro (hc) ?_))
    (repeat' (first | exact trivial | exact Or.inl rfl | exact Or.inr ⟨rfl, _, rfl⟩ | refine And.intro ?_ ?_))
theorem s_along0 (a : Val) (m : SX.Move) (g : Nat) (cs : List AV) (hc : PSpec Tryd.prog g [.agg (encVal a), .rp cs] (prA (tabV a m))) : PSpec Tryd.prog 42 [.agg (encVal a), .rd .str [], .fn g [.rp cs]] (prA (alongV a [] m)) :=
  pspec_of_vcL Γ_good Tryd.func42 rfl Tryd.call42 Tryd.results42 Tryd.ntmps42 (Nat.le_of_ble_eq_true rfl) (w_along0 a m g cs hc)
theorem w_along1 (a : Val) (k : Str) (r : List Str) (m : SX.Move) (g : Nat) (cs : List AV) (ha : VW 10000000 a) (hm : VW 10000000 m.v) (ih : ∀ w, VW 10000000 w → PSpec Tryd.prog 42 [.agg (encVal w), .rd .str r, .fn g [.rp cs]] (prA (alongV w r m))) : vc Tryd.prog Γ 57 [1, 2, 3, 6, 7, 8, 9, 10, 13, 17, 30, 46] (Tryd.f42.body.getD .skip) (postK Γ [.cell 6 26, .tmp 7] (fun v => RL v (prA (alongV a (k :: r) m)))) ⟨argSlots 0 [.agg (encVal a), .rd .str (k :: r), .fn g [.rp cs]], []⟩ := by
  have he := ve_len ha
  have hen := vw_entn ha (by decide)
  by_cases h : a.kind ≠ 6
  · have hr : alongV a (k :: r) m = (a, 10) := by rw [alongV, if_pos h]
    rw [prA_eq hr]
    (repeat' (first | (refine And.intro (fun h => ?_) (fun h => ?_) <;> (try simp [-List.getD_eq_getElem?_getD, -Int.pred_toNat] at h) <;> (try (exfalso; first | omega | contradiction))) | (refine And.intro (rng64 (by omega) (by omega)) ?_) | (refine And.intro ⟨by omega, by omega⟩ ?_) | (refine And.intro ⟨by omega, by omega, by omega⟩ ?_) | (intro _)))
    (repeat' (first | exact trivial | exact Or.inl rfl | exact Or.inr ⟨rfl, _, rfl⟩ | refine And.intro ?_ ?_))
  · have hr : alongV a (k :: r) m = if ixI a.e (keyIs k) < 0 then (a, 8) else if (alongV (atK a k) r m).2 ≠ 0 then (a, (alongV (atK a k) r m).2) else ({ a with e := putE a.e k (alongV (atK a k) r m).1 }, 0) := by rw [alongV, if_neg h]
    have h : a.kind = 6 := Decidable.not_not.1 h
    (repeat' (first | (refine And.intro (fun h => ?_) (fun h => ?_) <;> (try simp [-List.getD_eq_getElem?_getD, -Int.pred_toNat] at h) <;> (try (exfalso; first | omega | contradiction))) | (refine And.intro (rng64 (by omega) (by omega)) ?_) | (refine And.intro ⟨by omega, by omega⟩ ?_) | (refine And.intro ⟨by omega, by omega, by omega⟩ ?_) | (intro _)))
    refine Exists.intro [.blk [0, 1, 2, 3, 4, 5, 6]] (And.intro (by kernel_rfl) ?_)
    refine And.intro ⟨by omega, by simp only [List.length_cons]; omega⟩ ?_
    refine Exists.intro _ (And.intro (s_find a.e k) ?_)
    by_cases hi : ixI a.e (keyIs k) < 0
    · rw [if_pos hi] at hr
      rw [prA_eq hr]
      (repeat' (first | (refine And.intro (fun h => ?_) (fun h => ?_) <;> (try simp [-List.getD_eq_getElem?_getD, -Int.pred_toNat] at h) <;> (try (exfalso; first | omega | contradiction))) | (refine And.intro (rng64 (by omega) (by omega)) ?_) | (refine And.intro ⟨by omega, by omega⟩ ?_) | (refine And.intro ⟨by omega, by omega, by omega⟩ ?_) | (intro _)))
      (repeat' (first | exact trivial | exact Or.inl rfl | exact Or.inr ⟨rfl, _, rfl⟩ | refine And.intro ?_ ?_))
    · rw [if_neg hi] at hr
      obtain ⟨i0, i1, i2⟩ := ix_bound hi
      have hxn : VW 10000000 (atK a k) := ha.part (atK_in hi)
      have hrec : PSpec Tryd.prog 42 [.agg (encVal (atK a k)), .rd .str (((k :: r).take (Int.toNat ((k :: r).length : Int))).drop (Int.toNat 1)), .fn g [.rp cs]] (prA (alongV (atK a k) r m)) := by
        rw [tail_str]
        exact ih _ hxn
      have hwn := vn_of_vw (show 10000001 ≤ 100000000 by decide) (vw_along (hm.mono (show 10000000 ≤ 10000000 + 1 by decide)) r (atK a k) hxn)
      (repeat' (first | (refine And.intro (fun h => ?_) (fun h => ?_) <;> (try simp [-List.getD_eq_getElem?_getD, -Int.pred_toNat] at h) <;> (try (exfalso; first | omega | contradiction))) | (refine And.intro (rng64 (by omega) (by omega)) ?_) | (refine And.intro ⟨by omega, by omega⟩ ?_) | (refine And.intro ⟨by omega, by omega, by omega⟩ ?_) | (intro _)))
      refine Exists.intro [.take 0, .take 2, .take 6, .take 7, .take 8, .tree 10 [1, 3, 4, 5, 9, 10, 11, 12, 13, 14] (.opt 1 (.opt 3 (.opt 4 (.opt 5 (.opt 9 (.opt 10 (.opt 11 (.opt 12 (.opt 13 (.opt 14 .fin .non) .non) (.opt 13 (.opt 12 (.opt 14 .fin .non) (.opt 14 (.opt 12 .fin .non) .non)) .non)) (.opt 12 (.opt 11 (.opt 13 (.opt 14 .fin .non) .non) (.opt 13 (.opt 11 (.opt 14 .fin .non) .non) .non)) (.opt 13 (.opt 11 (.opt 12 (.opt 14 .fin .non) (.opt 14 (.opt 12 .fin .non) .non)) (.opt 12 (.opt 11 (.opt 14 .fin .non) .non) .non)) .non))) (.opt 13 (.opt 10 (.opt 11 (.opt 12 (.opt 14 .fin .non) (.opt 14 (.opt 12 .fin .non) .non)) (.opt 12 (.opt 11 (.opt 14 .fin .non) .non) .non)) .non) .non)) (.opt 13 (.opt 9 (.opt 10 (.opt 11 (.opt 12 (.opt 14 .fin .non) (.opt 14 (.opt 12 .fin .non) .non)) (.opt 12 (.opt 11 (.opt 14 .fin .non) .non) .non)) .non) .non) .non)) (.opt 13 (.opt 5 (.opt 9 (.opt 10 (.opt 11 (.opt 12 (.opt 14 .fin .non) (.opt 14 (.opt 12 .fin .non) .non)) (.opt 12 (.opt 11 (.opt 14 .fin .non) .non) .non)) .non) .non) .non) .non)) (.opt 13 (.opt 4 (.opt 5 (.opt 9 (.opt 10 (.opt 11 (.opt 12 (.opt 14 .fin .non) (.opt 14 (.opt 12 .fin .non) .non)) (.opt 12 (.opt 11 (.opt 14 .fin .non) .non) .non)) .non) .non) .non) .non) .non)) (.opt 13 (.opt 3 (.opt 4 (.opt 5 (.opt 9 (.opt 10 (.opt 11 (.opt 12 (.opt 14 .fin .non) (.opt 14 (.opt 12 .fin .non) .non)) (.opt 12 (.opt 11 (.opt 14 .fin .non) .non) .non)) .non) .non) .non) .non) .non) .non)) (.opt 13 (.opt 1 (.opt 3 (.opt 4 (.opt 5 (.opt 9 (.opt 10 (.opt 11 (.opt 12 (.opt 14 .fin .non) (.opt 14 (.opt 12 .fin .non) .non)) (.opt 12 (.opt 11 (.opt 14 .fin .non) .non) .non)) .non) .non) .non) .non) .non) .non) .non)), .take 15] (And.intro (by kernel_rfl) ?_)
      refine And.intro ⟨by omega, by simp only [List.length_cons]; omega, by simp only [List.length_cons]; omega⟩ ?_
      have hbd : (0 : Int) ≤ ixI a.e (keyIs k) ∧ ixI a.e (keyIs k) < (a.e.length : Int) := ⟨i0, by omega⟩
      refine Exists.intro ⟨[(1, .rd .str (k :: r)), (2, .fn g [.rp cs]), (3, .pt 3 0), (6, .pt 6 0), (7, .i .i64 0), (8, .i .i64 (ixI a.e (keyIs k))), (9, .pt 9 0), (44, .i .i64 (alongV (atK a k) r m).2)], [(3, encVal a), (6, [.i .i64 0, .i .i64 0, .i .u64 0, .s [], .nl, .nl]), (9, encVal (alongV (atK a k) r m).1)]⟩ (And.intro ?_ ?_)
      · (repeat' (first | exact trivial | exact Or.inl rfl | exact hbd | refine Or.inl (Exists.intro _ (And.intro hrec ?_)) | refine And.intro ?_ ?_))
      by_cases hb : (alongV (atK a k) r m).2 ≠ 0
      · rw [if_pos hb] at hr
        rw [prA_eq hr]
        (repeat' (first | (refine And.intro (fun h => ?_) (fun h => ?_) <;> (try simp [-List.getD_eq_getElem?_getD, -Int.pred_toNat] at h) <;> (try (exfalso; first | omega | contradiction))) | (refine And.intro (rng64 (by omega) (by omega)) ?_) | (refine And.intro ⟨by omega, by omega⟩ ?_) | (refine And.intro ⟨by omega, by omega, by omega⟩ ?_) | (intro _)))
        (repeat' (first | exact trivial | exact Or.inl rfl | exact Or.inr ⟨rfl, _, rfl⟩ | refine And.intro ?_ ?_))
      · rw [if_neg hb] at hr
        rw [prA_eq hr]
        have hb : (alongV (atK a k) r m).2 = 0 := Decidable.not_not.1 hb
        (repeat' (first | (refine And.intro (fun h => ?_) (fun h => ?_) <;> (try simp [-List.getD_eq_getElem?_getD, -Int.pred_toNat] at h) <;> (try (exfalso; first | omega | contradiction))) | (refine And.intro (rng64 (by omega) (by omega)) ?_) | (refine And.intro ⟨by omega, by omega⟩ ?_) | (refine And.intro ⟨by omega, by omega, by omega⟩ ?_) | (intro _)))
        refine Exists.intro [.blk [0, 1, 2, 3, 4, 5, 6, 7], .one 8] (And.intro (by kernel_rfl) ?_)
        refine And.intro ⟨by omega, by simp only [List.length_cons]; omega⟩ ?_
        refine Exists.intro _ (And.intro (s_put a.e k (alongV (atK a k) r m).1 (by omega) hen hwn) ?_)
        rw [hb]
        (repeat' (first | exact trivial | exact Or.inl rfl | exact Or.inr ⟨rfl, _, rfl⟩ | refine And.intro ?_ ?_))
theorem s_along1 (a : Val) (k : Str) (r : List Str) (m : SX.Move) (g : Nat) (cs : List AV) (ha : VW 10000000 a) (hm : VW 10000000 m.v) (ih : ∀ w, VW 10000000 w → PSpec Tryd.prog 42 [.agg (encVal w), .rd .str r, .fn g [.rp cs]] (prA (alongV w r m))) : PSpec Tryd.prog 42 [.agg (encVal a), .rd .str (k :: r), .fn g [.rp cs]] (prA (alongV a (k :: r) m)) :=
  pspec_of_vcL Γ_good Tryd.func42 rfl Tryd.call42 Tryd.results42 Tryd.ntmps42 (Nat.le_of_ble_eq_true rfl) (w_along1 a k r m g cs ha hm ih)
theorem s_along (hp : HasPow) (m : SX.Move) (hm : VW 10000000 m.v) : ∀ (r : List Str) (a : Val), VW 10000000 a → PSpec Tryd.prog 42 [.agg (encVal a), .rd .str r, .fn 43 [.rp (enc .move m)]] (prA (alongV a r m))
  | [], a, ha => s_along0 a m 43 (enc .move m) (s_app1S hp a m ha hm)
  | k :: r, a, ha => s_along1 a k r m 43 (enc .move m) ha hm (fun w hw => s_along hp m hm r w hw)
end
end Go.Proofs.YtmfchbkdakmjhaaDoor
end
section
namespace Go.Proofs.YtmfchbkdakmjhaaDoor
set_option linter.unusedSectionVars false
set_option linter.unusedSimpArgs false
set_option linter.unusedVariables false
open Go Go.SX Go.Ck Go.Vl Go.Ut Go.Up Go.Sp Go.Nm
set_option maxRecDepth 100000
set_option maxHeartbeats 1000000
/-- the same value, also within a struct; a nil slice may stand for an empty one -/
def AVleA (c e : AV) : Prop := AVle c e ∨ ∃ cs ds, c = .agg cs ∧ e = .agg ds ∧ AVles cs ds
def AVlesA : List AV → List AV → Prop
  | [], [] => True
  | a :: r, b :: t => AVleA a b ∧ AVlesA r t
  | _, _ => False
section
variable [G : Globs]
theorem im_leA {O : Nat → Prop} {w : World} {c e : AV} {v : Value} (hle : AVleA c e) (h : Im O w c v) : Im O w e v := by
  rcases hle with hle | ⟨cs, ds, rfl, rfl, hle⟩
  · have := all_le (All2.cons h (All2.nil _)) (show AVles [c] [e] from ⟨hle, trivial⟩)
    exact this.head
  · cases h with
    | agg _ vs h1 h0 h2 =>
      have := all_le (⟨h1, h2⟩ : All2 (Im O w) cs vs) hle
      exact .agg ds vs this.1 h0 this.2
theorem all_leA {O : Nat → Prop} {w : World} : ∀ {args' args : List AV} {vs : List Value}, All2 (Im O w) args' vs → AVlesA args' args → All2 (Im O w) args vs
  | [], [], _, h, _ => h
  | a :: r, b :: t, _, h, hle => by
    obtain ⟨v, vs', rfl, h1, h2⟩ := h.cons_inv
    exact All2.cons (im_leA hle.1 h1) (all_leA h2 hle.2)
theorem pspec_leA {P : Program} {f : FuncId} {args args' : List AV} {r : AV} (h : PSpec P f args r) (hle : AVlesA args' args) : PSpec P f args' r :=
  ⟨h.1, fun O w vs hO hG hargs => h.2 O w vs hO hG (all_leA hargs hle)⟩
theorem w_textOf (s : Str) : vc Tryd.prog Γ 5 [0, 2] (Tryd.f88.body.getD .skip) (postK Γ [.cell 2 26] (fun v => v = .agg [.i .i64 4, .i .i64 0, .i .u64 0, .s s, .nl, .nl])) ⟨argSlots 0 [.s s], []⟩ := by
  rfl
theorem s_textOf (s : Str) : PSpec Tryd.prog 88 [.s s] (.agg [.i .i64 4, .i .i64 0, .i .u64 0, .s s, .nl, .nl]) :=
  pspec_of_vc Γ_good Tryd.func88 rfl Tryd.call88 Tryd.results88 Tryd.ntmps88 (Nat.le_of_ble_eq_true rfl) (w_textOf s)
theorem w_moved0 (a : Val) (m : SX.Move) (ha : VW 10000000 a) (hk : 1 ≤ m.kind ∧ m.kind ≤ 7) : vc Tryd.prog Γ 177 [1, 3, 5, 6, 7, 8, 9, 10, 11, 12, 13, 14, 17, 21, 29, 61, 63, 75, 84, 85, 99, 112, 121, 125, 131, 135, 144, 149, 154, 158, 163] (Tryd.f47.body.getD .skip) (postK Γ [.cell 6 26, .tmp 7] (fun v => RL v (prA (movedV a [] m)))) ⟨argSlots 0 [.agg (encVal a), .rd .str [], .agg (enc .move m)], []⟩ := by
  have he := ve_len ha
  by_cases h : a.kind ≠ 6
  · have hr : movedV a [] m = (a, 10) := by rw [movedV, if_pos h]
    rw [prA_eq hr]
    (repeat' (first | (refine And.intro (fun h => ?_) (fun h => ?_) <;> (try simp [-List.getD_eq_getElem?_getD, -Int.pred_toNat] at h) <;> (try (exfalso; first | omega | contradiction))) | (refine And.intro (rng64 (by omega) (by omega)) ?_) | (refine And.intro ⟨by omega, by omega⟩ ?_) | (refine And.intro ⟨by omega, by omega, by omega⟩ ?_) | (intro _)))
    (repeat' (first | exact trivial | exact Or.inl rfl | exact Or.inr ⟨rfl, _, rfl⟩ | refine And.intro ?_ ?_))
  · have hr0 : movedV a [] m = tabV a m := by rw [movedV, if_neg h]
    have h : a.kind = 6 := Decidable.not_not.1 h
    rw [hr0]
    (repeat' (first | (refine And.intro (fun h => ?_) (fun h => ?_) <;> (try simp [-List.getD_eq_getElem?_getD, -Int.pred_toNat] at h) <;> (try (exfalso; first | omega | contradiction))) | (refine And.intro (rng64 (by omega) (by omega)) ?_) | (refine And.intro ⟨by omega, by omega⟩ ?_) | (refine And.intro ⟨by omega, by omega, by omega⟩ ?_) | (intro _)))
    refine Or.inl (Exists.intro _ (And.intro (s_entAt a.e m.key) ?_))
    by_cases h3 : m.kind = 3
    · by_cases hi : 0 ≤ ixI a.e (keyIs m.key)
      · have hr : tabV a m = (a, 9) := by unfold tabV; rw [if_pos h3, if_pos hi]
        rw [prA_eq hr]
        (repeat' (first | (refine And.intro (fun h => ?_) (fun h => ?_) <;> (try simp [-List.getD_eq_getElem?_getD, -Int.pred_toNat] at h) <;> (try (exfalso; first | omega | contradiction))) | (refine And.intro (rng64 (by omega) (by omega)) ?_) | (refine And.intro ⟨by omega, by omega⟩ ?_) | (refine And.intro ⟨by omega, by omega, by omega⟩ ?_) | (intro _)))
        (repeat' (first | exact trivial | exact Or.inl rfl | exact Or.inr ⟨rfl, _, rfl⟩ | refine And.intro ?_ ?_))
      · have hr : tabV a m = ({ a with e := putE a.e m.key m.v }, 0) := by unfold tabV; rw [if_pos h3, if_neg hi]
        rw [prA_eq hr]
        (repeat' (first | (refine And.intro (fun h => ?_) (fun h => ?_) <;> (try simp [-List.getD_eq_getElem?_getD, -Int.pred_toNat] at h) <;> (try (exfalso; first | omega | contradiction))) | (refine And.intro (rng64 (by omega) (by omega)) ?_) | (refine And.intro ⟨by omega, by omega⟩ ?_) | (refine And.intro ⟨by omega, by omega, by omega⟩ ?_) | (intro _)))
        refine Or.inl (Exists.intro _ (And.intro (s_with a.e m.key m.v (by omega)) ?_))
        (repeat' (first | exact trivial | exact Or.inl rfl | exact Or.inr ⟨rfl, _, rfl⟩ | refine And.intro ?_ ?_))
    · by_cases hi : ixI a.e (keyIs m.key) < 0
      · have hr : tabV a m = (a, 8) := by unfold tabV; rw [if_neg h3, if_pos hi]
        rw [prA_eq hr]
        (repeat' (first | (refine And.intro (fun h => ?_) (fun h => ?_) <;> (try simp [-List.getD_eq_getElem?_getD, -Int.pred_toNat] at h) <;> (try (exfalso; first | omega | contradiction))) | (refine And.intro (rng64 (by omega) (by omega)) ?_) | (refine And.intro ⟨by omega, by omega⟩ ?_) | (refine And.intro ⟨by omega, by omega, by omega⟩ ?_) | (intro _)))
        (repeat' (first | exact trivial | exact Or.inl rfl | exact Or.inr ⟨rfl, _, rfl⟩ | refine And.intro ?_ ?_))
      · obtain ⟨i0, i1, i2⟩ := ix_bound hi
        have hxn : VW 10000000 (atK a m.key) := ha.part (atK_in hi)
        have hp1 : ((a.e.getD (ixI a.e (keyIs m.key)).toNat (dflt .ent)).2) = atK a m.key := rfl
        by_cases h1 : m.kind = 1
        · by_cases ht : m.to ≠ m.key ∧ 0 ≤ ixI a.e (keyIs m.to)
          · have hr : tabV a m = (a, 9) := by unfold tabV; rw [if_neg h3, if_neg hi, if_pos h1, if_pos ht]
            rw [prA_eq hr]
            obtain ⟨t1, t2⟩ := ht
            (repeat' (first | (refine And.intro (fun h => ?_) (fun h => ?_) <;> (try simp [-List.getD_eq_getElem?_getD, -Int.pred_toNat] at h) <;> (try (exfalso; first | omega | contradiction))) | (refine And.intro (rng64 (by omega) (by omega)) ?_) | (refine And.intro ⟨by omega, by omega⟩ ?_) | (refine And.intro ⟨by omega, by omega, by omega⟩ ?_) | (intro _)))
            refine Or.inl (Exists.intro _ (And.intro (s_entAt a.e m.to) ?_))
            (repeat' (first | (refine And.intro (fun h => ?_) (fun h => ?_) <;> (try simp [-List.getD_eq_getElem?_getD, -Int.pred_toNat] at h) <;> (try (exfalso; first | omega | contradiction))) | (refine And.intro (rng64 (by omega) (by omega)) ?_) | (refine And.intro ⟨by omega, by omega⟩ ?_) | (refine And.intro ⟨by omega, by omega, by omega⟩ ?_) | (intro _)))
            (repeat' (first | exact trivial | exact Or.inl rfl | exact Or.inr ⟨rfl, _, rfl⟩ | refine And.intro ?_ ?_))
          · have hr : tabV a m = ({ a with e := putE (withoutE a.e m.key) m.to (atK a m.key) }, 0) := by unfold tabV; rw [if_neg h3, if_neg hi, if_pos h1, if_neg ht]
            rw [prA_eq hr]
            have hwl : (withoutE a.e m.key).length ≤ a.e.length := List.length_filter_le _ _
            by_cases ht1 : m.to = m.key
            · (repeat' (first | (refine And.intro (fun h => ?_) (fun h => ?_) <;> (try simp [-List.getD_eq_getElem?_getD, -Int.pred_toNat] at h) <;> (try (exfalso; first | omega | contradiction))) | (refine And.intro (rng64 (by omega) (by omega)) ?_) | (refine And.intro ⟨by omega, by omega⟩ ?_) | (refine And.intro ⟨by omega, by omega, by omega⟩ ?_) | (intro _)))
              refine Exists.intro [.blk [0, 1, 2, 3, 4, 5, 6, 7, 8, 9], .one 10] (And.intro (by kernel_rfl) ?_)
              refine Exists.intro _ (And.intro (s_wout a.e m.key (by omega)) ?_)
              refine Exists.intro _ (And.intro (s_with (withoutE a.e m.key) m.to (atK a m.key) (by omega)) ?_)
              (repeat' (first | exact trivial | exact Or.inl rfl | exact Or.inr ⟨rfl, _, rfl⟩ | refine And.intro ?_ ?_))
            · have ht2 : ixI a.e (keyIs m.to) < 0 := by
                rcases Int.lt_or_le (ixI a.e (keyIs m.to)) 0 with h | h
                · exact h
                · exact absurd ⟨ht1, h⟩ ht
              (repeat' (first | (refine And.intro (fun h => ?_) (fun h => ?_) <;> (try simp [-List.getD_eq_getElem?_getD, -Int.pred_toNat] at h) <;> (try (exfalso; first | omega | contradiction))) | (refine And.intro (rng64 (by omega) (by omega)) ?_) | (refine And.intro ⟨by omega, by omega⟩ ?_) | (refine And.intro ⟨by omega, by omega, by omega⟩ ?_) | (intro _)))
              refine Or.inl (Exists.intro _ (And.intro (s_entAt a.e m.to) ?_))
              (repeat' (first | (refine And.intro (fun h => ?_) (fun h => ?_) <;> (try simp [-List.getD_eq_getElem?_getD, -Int.pred_toNat] at h) <;> (try (exfalso; first | omega | contradiction))) | (refine And.intro (rng64 (by omega) (by omega)) ?_) | (refine And.intro ⟨by omega, by omega⟩ ?_) | (refine And.intro ⟨by omega, by omega, by omega⟩ ?_) | (intro _)))
              refine Exists.intro [.blk [0, 1, 2, 3, 4, 5, 6, 7, 8, 9], .one 10] (And.intro (by kernel_rfl) ?_)
              refine Exists.intro _ (And.intro (s_wout a.e m.key (by omega)) ?_)
              refine Exists.intro _ (And.intro (s_with (withoutE a.e m.key) m.to (atK a m.key) (by omega)) ?_)
              (repeat' (first | exact trivial | exact Or.inl rfl | exact Or.inr ⟨rfl, _, rfl⟩ | refine And.intro ?_ ?_))
        · by_cases h2 : m.kind = 2
          · have hr : tabV a m = ({ a with e := withoutE a.e m.key }, 0) := by unfold tabV; rw [if_neg h3, if_neg hi, if_neg h1, if_pos h2]
            rw [prA_eq hr]
            (repeat' (first | (refine And.intro (fun h => ?_) (fun h => ?_) <;> (try simp [-List.getD_eq_getElem?_getD, -Int.pred_toNat] at h) <;> (try (exfalso; first | omega | contradiction))) | (refine And.intro (rng64 (by omega) (by omega)) ?_) | (refine And.intro ⟨by omega, by omega⟩ ?_) | (refine And.intro ⟨by omega, by omega, by omega⟩ ?_) | (intro _)))
            refine Or.inl (Exists.intro _ (And.intro (s_wout a.e m.key (by omega)) ?_))
            (repeat' (first | exact trivial | exact Or.inl rfl | exact Or.inr ⟨rfl, _, rfl⟩ | refine And.intro ?_ ?_))
          · have hr : tabV a m = if (becV (atK a m.key) m.kind).2 ≠ 0 then (a, (becV (atK a m.key) m.kind).2) else ({ a with e := putE a.e m.key (becV (atK a m.key) m.kind).1 }, 0) := by unfold tabV; rw [if_neg h3, if_neg hi, if_neg h1, if_neg h2]
            have hxv : VB (atK a m.key) := hxn.vb
            have hx0 : -9223372036854775808 ≤ (atK a m.key).n ∧ (atK a m.key).n ≤ 9223372036854775807 := by cases hxv with | mk _ _ b _ _ _ => exact b
            rw [← hp1] at hx0
            have hW : ∀ w : Val, ∀ cs : List AV, AVles cs (encVal w) → PSpec Tryd.prog 86 [.rd .ent a.e, .s m.key, .agg cs] (.rd .ent (putE a.e m.key w)) := fun w cs hcs =>
              pspec_leA (s_with a.e m.key w (by omega)) ⟨.inl (.inl rfl), .inl (.inl rfl), .inr ⟨_, _, rfl, rfl, hcs⟩, trivial⟩
            by_cases h4 : m.kind = 4
            · have hbv := bec4 (x := atK a m.key) h4
              by_cases hk2 : (atK a m.key).kind ≠ 2
              · rw [if_pos hk2] at hbv
                rw [hbv] at hr
                rw [prA_eq (hr.trans (if_pos (show (10 : Int) ≠ 0 by decide)))]
                rw [← hp1] at hk2
                (repeat' (first | (refine And.intro (fun h => ?_) (fun h => ?_) <;> (try simp [-List.getD_eq_getElem?_getD, -Int.pred_toNat] at h) <;> (try (exfalso; first | omega | contradiction))) | (refine And.intro (rng64 (by omega) (by omega)) ?_) | (refine And.intro ⟨by omega, by omega⟩ ?_) | (refine And.intro ⟨by omega, by omega, by omega⟩ ?_) | (intro _)))
                (repeat' (first | exact trivial | exact Or.inl rfl | exact Or.inr ⟨rfl, _, rfl⟩ | refine And.intro ?_ ?_))
              · rw [if_neg hk2] at hbv
                rw [hbv] at hr
                rw [prA_eq (hr.trans (if_neg (show ¬ (0 : Int) ≠ 0 by decide)))]
                have hk2 : (atK a m.key).kind = 2 := Decidable.not_not.1 hk2
                rw [← hp1] at hk2
                (repeat' (first | (refine And.intro (fun h => ?_) (fun h => ?_) <;> (try simp [-List.getD_eq_getElem?_getD, -Int.pred_toNat] at h) <;> (try (exfalso; first | omega | contradiction))) | (refine And.intro (rng64 (by omega) (by omega)) ?_) | (refine And.intro ⟨by omega, by omega⟩ ?_) | (refine And.intro ⟨by omega, by omega, by omega⟩ ?_) | (intro _)))
                refine Or.inl (Exists.intro _ (And.intro (s_numText (atK a m.key).n 10 (by decide) hx0.1 hx0.2) ?_))
                refine Or.inl (Exists.intro _ (And.intro (s_textOf (numT (atK a m.key).n 10)) ?_))
                refine Or.inl (Exists.intro _ (And.intro (hW ⟨4, 0, 0, numT (atK a m.key).n 10, [], []⟩ _ ⟨.inl rfl, .inl rfl, .inl rfl, .inl rfl, .inr ⟨rfl, _, rfl⟩, .inr ⟨rfl, _, rfl⟩, trivial⟩) ?_))
                (repeat' (first | exact trivial | exact Or.inl rfl | exact Or.inr ⟨rfl, _, rfl⟩ | refine And.intro ?_ ?_))
            · by_cases h5 : m.kind = 5
              · have hbv := bec5 (x := atK a m.key) h5
                by_cases hk2 : (atK a m.key).kind ≠ 4
                · rw [if_pos hk2] at hbv
                  rw [hbv] at hr
                  rw [prA_eq (hr.trans (if_pos (show (10 : Int) ≠ 0 by decide)))]
                  rw [← hp1] at hk2
                  (repeat' (first | (refine And.intro (fun h => ?_) (fun h => ?_) <;> (try simp [-List.getD_eq_getElem?_getD, -Int.pred_toNat] at h) <;> (try (exfalso; first | omega | contradiction))) | (refine And.intro (rng64 (by omega) (by omega)) ?_) | (refine And.intro ⟨by omega, by omega⟩ ?_) | (refine And.intro ⟨by omega, by omega, by omega⟩ ?_) | (intro _)))
                  (repeat' (first | exact trivial | exact Or.inl rfl | exact Or.inr ⟨rfl, _, rfl⟩ | refine And.intro ?_ ?_))
                · rw [if_neg hk2] at hbv
                  rw [hbv] at hr
                  have hk2 : (atK a m.key).kind = 4 := Decidable.not_not.1 hk2
                  rw [← hp1] at hk2
                  by_cases hq : (readV (atK a m.key).s).2 ≠ 0
                  · rw [prA_eq (hr.trans (if_pos hq))]
                    (repeat' (first | (refine And.intro (fun h => ?_) (fun h => ?_) <;> (try simp [-List.getD_eq_getElem?_getD, -Int.pred_toNat] at h) <;> (try (exfalso; first | omega | contradiction))) | (refine And.intro (rng64 (by omega) (by omega)) ?_) | (refine And.intro ⟨by omega, by omega⟩ ?_) | (refine And.intro ⟨by omega, by omega, by omega⟩ ?_) | (intro _)))
                    refine Or.inl (Exists.intro _ (And.intro (s_readNum (atK a m.key).s) ?_))
                    (repeat' (first | (refine And.intro (fun h => ?_) (fun h => ?_) <;> (try simp [-List.getD_eq_getElem?_getD, -Int.pred_toNat] at h) <;> (try (exfalso; first | omega | contradiction))) | (refine And.intro (rng64 (by omega) (by omega)) ?_) | (refine And.intro ⟨by omega, by omega⟩ ?_) | (refine And.intro ⟨by omega, by omega, by omega⟩ ?_) | (intro _)))
                    (repeat' (first | exact trivial | exact Or.inl rfl | exact Or.inr ⟨rfl, _, rfl⟩ | refine And.intro ?_ ?_))
                  · rw [prA_eq (hr.trans (if_neg hq))]
                    have hq : (readV (atK a m.key).s).2 = 0 := Decidable.not_not.1 hq
                    (repeat' (first | (refine And.intro (fun h => ?_) (fun h => ?_) <;> (try simp [-List.getD_eq_getElem?_getD, -Int.pred_toNat] at h) <;> (try (exfalso; first | omega | contradiction))) | (refine And.intro (rng64 (by omega) (by omega)) ?_) | (refine And.intro ⟨by omega, by omega⟩ ?_) | (refine And.intro ⟨by omega, by omega, by omega⟩ ?_) | (intro _)))
                    refine Or.inl (Exists.intro _ (And.intro (s_readNum (atK a m.key).s) ?_))
                    (repeat' (first | (refine And.intro (fun h => ?_) (fun h => ?_) <;> (try simp [-List.getD_eq_getElem?_getD, -Int.pred_toNat] at h) <;> (try (exfalso; first | omega | contradiction))) | (refine And.intro (rng64 (by omega) (by omega)) ?_) | (refine And.intro ⟨by omega, by omega⟩ ?_) | (refine And.intro ⟨by omega, by omega, by omega⟩ ?_) | (intro _)))
                    refine Or.inl (Exists.intro _ (And.intro (hW ⟨2, (readV (atK a m.key).s).1, 0, [], [], []⟩ _ ⟨.inl rfl, .inl rfl, .inl rfl, .inl rfl, .inr ⟨rfl, _, rfl⟩, .inr ⟨rfl, _, rfl⟩, trivial⟩) ?_))
                    (repeat' (first | exact trivial | exact Or.inl rfl | exact Or.inr ⟨rfl, _, rfl⟩ | refine And.intro ?_ ?_))
              · by_cases h6 : m.kind = 6
                · have hbv := bec6 (x := atK a m.key) h6
                  rw [hbv] at hr
                  rw [prA_eq (hr.trans (if_neg (show ¬ (0 : Int) ≠ 0 by decide)))]
                  (repeat' (first | (refine And.intro (fun h => ?_) (fun h => ?_) <;> (try simp [-List.getD_eq_getElem?_getD, -Int.pred_toNat] at h) <;> (try (exfalso; first | omega | contradiction))) | (refine And.intro (rng64 (by omega) (by omega)) ?_) | (refine And.intro ⟨by omega, by omega⟩ ?_) | (refine And.intro ⟨by omega, by omega, by omega⟩ ?_) | (intro _)))
                  refine Or.inl (Exists.intro _ (And.intro (hW ⟨5, 0, 0, [], [atK a m.key], []⟩ _ ⟨.inl rfl, .inl rfl, .inl rfl, .inl rfl, .inl (congrArg (fun w => AV.rd .val [w]) (val_eta _)), .inr ⟨rfl, _, rfl⟩, trivial⟩) ?_))
                  (repeat' (first | exact trivial | exact Or.inl rfl | exact Or.inr ⟨rfl, _, rfl⟩ | refine And.intro ?_ ?_))
                · have h7 : m.kind = 7 := by omega
                  have hbv := bec7 (x := atK a m.key) ⟨h4, h5, h6⟩
                  by_cases hk2 : (atK a m.key).kind ≠ 5
                  · rw [if_pos hk2] at hbv
                    rw [hbv] at hr
                    rw [prA_eq (hr.trans (if_pos (show (10 : Int) ≠ 0 by decide)))]
                    rw [← hp1] at hk2
                    (repeat' (first | (refine And.intro (fun h => ?_) (fun h => ?_) <;> (try simp [-List.getD_eq_getElem?_getD, -Int.pred_toNat] at h) <;> (try (exfalso; first | omega | contradiction))) | (refine And.intro (rng64 (by omega) (by omega)) ?_) | (refine And.intro ⟨by omega, by omega⟩ ?_) | (refine And.intro ⟨by omega, by omega, by omega⟩ ?_) | (intro _)))
                    (repeat' (first | exact trivial | exact Or.inl rfl | exact Or.inr ⟨rfl, _, rfl⟩ | refine And.intro ?_ ?_))
                  · rw [if_neg hk2] at hbv
                    have hk2 : (atK a m.key).kind = 5 := Decidable.not_not.1 hk2
                    by_cases hl : (atK a m.key).l.length ≠ 1
                    · rw [if_pos hl] at hbv
                      rw [hbv] at hr
                      rw [prA_eq (hr.trans (if_pos (show (8 : Int) ≠ 0 by decide)))]
                      rw [← hp1] at hk2 hl
                      (repeat' (first | (refine And.intro (fun h => ?_) (fun h => ?_) <;> (try simp [-List.getD_eq_getElem?_getD, -Int.pred_toNat] at h) <;> (try (exfalso; first | omega | contradiction))) | (refine And.intro (rng64 (by omega) (by omega)) ?_) | (refine And.intro ⟨by omega, by omega⟩ ?_) | (refine And.intro ⟨by omega, by omega, by omega⟩ ?_) | (intro _)))
                      (repeat' (first | exact trivial | exact Or.inl rfl | exact Or.inr ⟨rfl, _, rfl⟩ | refine And.intro ?_ ?_))
                    · rw [if_neg hl] at hbv
                      rw [hbv] at hr
                      rw [prA_eq (hr.trans (if_neg (show ¬ (0 : Int) ≠ 0 by decide)))]
                      have hl : (atK a m.key).l.length = 1 := Decidable.not_not.1 hl
                      rw [← hp1] at hk2 hl
                      (repeat' (first | (refine And.intro (fun h => ?_) (fun h => ?_) <;> (try simp [-List.getD_eq_getElem?_getD, -Int.pred_toNat] at h) <;> (try (exfalso; first | omega | contradiction))) | (refine And.intro (rng64 (by omega) (by omega)) ?_) | (refine And.intro ⟨by omega, by omega⟩ ?_) | (refine And.intro ⟨by omega, by omega, by omega⟩ ?_) | (intro _)))
                      refine Or.inl (Exists.intro _ (And.intro (s_with a.e m.key ((atK a m.key).l.getD 0 default) (by omega)) ?_))
                      (repeat' (first | exact trivial | exact Or.inl rfl | exact Or.inr ⟨rfl, _, rfl⟩ | refine And.intro ?_ ?_))
theorem s_moved0 (a : Val) (m : SX.Move) (ha : VW 10000000 a) (hk : 1 ≤ m.kind ∧ m.kind ≤ 7) : PSpec Tryd.prog 47 [.agg (encVal a), .rd .str [], .agg (enc .move m)] (prA (movedV a [] m)) :=
  pspec_of_vcL Γ_good Tryd.func47 rfl Tryd.call47 Tryd.results47 Tryd.ntmps47 (Nat.le_of_ble_eq_true rfl) (w_moved0 a m ha hk)
end
end Go.Proofs.YtmfchbkdakmjhaaDoor
end
section
namespace Go.Proofs.YtmfchbkdakmjhaaDoor
set_option linter.unusedSectionVars false
set_option linter.unusedSimpArgs false
set_option linter.unusedVariables false
open Go Go.SX Go.Ck Go.Vl Go.Ut Go.Up Go.Sp Go.Nm
set_option maxRecDepth 100000
set_option maxHeartbeats 10000000
section
variable [G : Globs]
theorem w_moved1 (a : Val) (k : Str) (r : List Str) (m : SX.Move) (ha : VW 10000000 a) (ih : ∀ w, VW 10000000 w → PSpec Tryd.prog 47 [.agg (encVal w), .rd .str r, .agg (enc .move m)] (prA (movedV w r m))) : vc Tryd.prog Γ 177 [1, 3, 5, 6, 7, 8, 9, 10, 11, 12, 13, 14, 17, 21, 29, 61, 63, 75, 84, 85, 99, 112, 121, 125, 131, 135, 144, 149, 154, 158, 163] (Tryd.f47.body.getD .skip) (postK Γ [.cell 6 26, .tmp 7] (fun v => RL v (prA (movedV a (k :: r) m)))) ⟨argSlots 0 [.agg (encVal a), .rd .str (k :: r), .agg (enc .move m)], []⟩ := by
  have he := ve_len ha
  by_cases h : a.kind ≠ 6
  · have hr : movedV a (k :: r) m = (a, 10) := by rw [movedV, if_pos h]
    rw [prA_eq hr]
    (repeat' (first | (refine And.intro (fun h => ?_) (fun h => ?_) <;> (try simp [-List.getD_eq_getElem?_getD, -Int.pred_toNat] at h) <;> (try (exfalso; first | omega | contradiction))) | (refine And.intro (rng64 (by omega) (by omega)) ?_) | (refine And.intro ⟨by omega, by omega⟩ ?_) | (refine And.intro ⟨by omega, by omega, by omega⟩ ?_) | (intro _)))
    (repeat' (first | exact trivial | exact Or.inl rfl | exact Or.inr ⟨rfl, _, rfl⟩ | refine And.intro ?_ ?_))
  · have hr : movedV a (k :: r) m = if ixI a.e (keyIs k) < 0 then (a, 8) else ({ a with e := putE a.e k (movedV (atK a k) r m).1 }, (movedV (atK a k) r m).2) := by rw [movedV, if_neg h]
    have h : a.kind = 6 := Decidable.not_not.1 h
    have hl0 : (0 : Int) < (((k :: r).length : Nat) : Int) := by simp only [List.length_cons]; omega
    (repeat' (first | (refine And.intro (fun h => ?_) (fun h => ?_) <;> (try simp [-List.getD_eq_getElem?_getD, -Int.pred_toNat] at h) <;> (try (exfalso; first | omega | contradiction))) | (refine And.intro (rng64 (by omega) (by omega)) ?_) | (refine And.intro ⟨by omega, by omega⟩ ?_) | (refine And.intro ⟨by omega, by omega, by omega⟩ ?_) | (intro _)))
    refine Exists.intro [.blk [0, 1, 2, 3, 4, 5, 6]] (And.intro (by kernel_rfl) ?_)
    refine And.intro ⟨by omega, by simp only [List.length_cons]; omega⟩ ?_
    refine Exists.intro _ (And.intro (s_entAt a.e k) ?_)
    by_cases hi : ixI a.e (keyIs k) < 0
    · rw [if_pos hi] at hr
      rw [prA_eq hr]
      (repeat' (first | (refine And.intro (fun h => ?_) (fun h => ?_) <;> (try simp [-List.getD_eq_getElem?_getD, -Int.pred_toNat] at h) <;> (try (exfalso; first | omega | contradiction))) | (refine And.intro (rng64 (by omega) (by omega)) ?_) | (refine And.intro ⟨by omega, by omega⟩ ?_) | (refine And.intro ⟨by omega, by omega, by omega⟩ ?_) | (intro _)))
      (repeat' (first | exact trivial | exact Or.inl rfl | exact Or.inr ⟨rfl, _, rfl⟩ | refine And.intro ?_ ?_))
    · rw [if_neg hi] at hr
      rw [prA_eq hr]
      obtain ⟨i0, i1, i2⟩ := ix_bound hi
      have hxn : VW 10000000 (atK a k) := ha.part (atK_in hi)
      have hrec : PSpec Tryd.prog 47 [.agg (encVal (atK a k)), .rd .str (((k :: r).take (Int.toNat ((k :: r).length : Int))).drop (Int.toNat 1)), .agg (enc .move m)] (prA (movedV (atK a k) r m)) := by
        rw [tail_str]
        exact ih _ hxn
      (repeat' (first | (refine And.intro (fun h => ?_) (fun h => ?_) <;> (try simp [-List.getD_eq_getElem?_getD, -Int.pred_toNat] at h) <;> (try (exfalso; first | omega | contradiction))) | (refine And.intro (rng64 (by omega) (by omega)) ?_) | (refine And.intro ⟨by omega, by omega⟩ ?_) | (refine And.intro ⟨by omega, by omega, by omega⟩ ?_) | (intro _)))
      refine Exists.intro [.take 0, .take 2, .take 6, .take 7, .tree 11 [1, 3, 4, 5, 8, 9, 10, 11, 12, 13, 14] (.opt 1 (.opt 3 (.opt 4 (.opt 5 (.opt 8 (.opt 9 (.opt 10 (.opt 11 (.opt 12 (.opt 13 (.opt 14 .fin .non) .non) (.opt 13 (.opt 12 (.opt 14 .fin .non) (.opt 14 (.opt 12 .fin .non) .non)) .non)) (.opt 12 (.opt 11 (.opt 13 (.opt 14 .fin .non) .non) (.opt 13 (.opt 11 (.opt 14 .fin .non) .non) .non)) (.opt 13 (.opt 11 (.opt 12 (.opt 14 .fin .non) (.opt 14 (.opt 12 .fin .non) .non)) (.opt 12 (.opt 11 (.opt 14 .fin .non) .non) .non)) .non))) (.opt 13 (.opt 10 (.opt 11 (.opt 12 (.opt 14 .fin .non) (.opt 14 (.opt 12 .fin .non) .non)) (.opt 12 (.opt 11 (.opt 14 .fin .non) .non) .non)) .non) .non)) (.opt 13 (.opt 9 (.opt 10 (.opt 11 (.opt 12 (.opt 14 .fin .non) (.opt 14 (.opt 12 .fin .non) .non)) (.opt 12 (.opt 11 (.opt 14 .fin .non) .non) .non)) .non) .non) .non)) (.opt 13 (.opt 8 (.opt 9 (.opt 10 (.opt 11 (.opt 12 (.opt 14 .fin .non) (.opt 14 (.opt 12 .fin .non) .non)) (.opt 12 (.opt 11 (.opt 14 .fin .non) .non) .non)) .non) .non) .non) .non)) (.opt 8 (.opt 5 (.opt 9 (.opt 10 (.opt 11 (.opt 12 (.opt 13 (.opt 14 .fin .non) .non) (.opt 13 (.opt 12 (.opt 14 .fin .non) (.opt 14 (.opt 12 .fin .non) .non)) .non)) (.opt 12 (.opt 11 (.opt 13 (.opt 14 .fin .non) .non) (.opt 13 (.opt 11 (.opt 14 .fin .non) .non) .non)) (.opt 13 (.opt 11 (.opt 12 (.opt 14 .fin .non) (.opt 14 (.opt 12 .fin .non) .non)) (.opt 12 (.opt 11 (.opt 14 .fin .non) .non) .non)) .non))) (.opt 13 (.opt 10 (.opt 11 (.opt 12 (.opt 14 .fin .non) (.opt 14 (.opt 12 .fin .non) .non)) (.opt 12 (.opt 11 (.opt 14 .fin .non) .non) .non)) .non) .non)) (.opt 13 (.opt 9 (.opt 10 (.opt 11 (.opt 12 (.opt 14 .fin .non) (.opt 14 (.opt 12 .fin .non) .non)) (.opt 12 (.opt 11 (.opt 14 .fin .non) .non) .non)) .non) .non) .non)) (.opt 13 (.opt 5 (.opt 9 (.opt 10 (.opt 11 (.opt 12 (.opt 14 .fin .non) (.opt 14 (.opt 12 .fin .non) .non)) (.opt 12 (.opt 11 (.opt 14 .fin .non) .non) .non)) .non) .non) .non) .non)) (.opt 13 (.opt 5 (.opt 8 (.opt 9 (.opt 10 (.opt 11 (.opt 12 (.opt 14 .fin .non) (.opt 14 (.opt 12 .fin .non) .non)) (.opt 12 (.opt 11 (.opt 14 .fin .non) .non) .non)) .non) .non) .non) (.opt 8 (.opt 5 (.opt 9 (.opt 10 (.opt 11 (.opt 12 (.opt 14 .fin .non) (.opt 14 (.opt 12 .fin .non) .non)) (.opt 12 (.opt 11 (.opt 14 .fin .non) .non) .non)) .non) .non) .non) .non)) .non))) (.opt 8 (.opt 4 (.opt 5 (.opt 9 (.opt 10 (.opt 11 (.opt 12 (.opt 13 (.opt 14 .fin .non) .non) (.opt 13 (.opt 12 (.opt 14 .fin .non) (.opt 14 (.opt 12 .fin .non) .non)) .non)) (.opt 12 (.opt 11 (.opt 13 (.opt 14 .fin .non) .non) (.opt 13 (.opt 11 (.opt 14 .fin .non) .non) .non)) (.opt 13 (.opt 11 (.opt 12 (.opt 14 .fin .non) (.opt 14 (.opt 12 .fin .non) .non)) (.opt 12 (.opt 11 (.opt 14 .fin .non) .non) .non)) .non))) (.opt 13 (.opt 10 (.opt 11 (.opt 12 (.opt 14 .fin .non) (.opt 14 (.opt 12 .fin .non) .non)) (.opt 12 (.opt 11 (.opt 14 .fin .non) .non) .non)) .non) .non)) (.opt 13 (.opt 9 (.opt 10 (.opt 11 (.opt 12 (.opt 14 .fin .non) (.opt 14 (.opt 12 .fin .non) .non)) (.opt 12 (.opt 11 (.opt 14 .fin .non) .non) .non)) .non) .non) .non)) (.opt 13 (.opt 5 (.opt 9 (.opt 10 (.opt 11 (.opt 12 (.opt 14 .fin .non) (.opt 14 (.opt 12 .fin .non) .non)) (.opt 12 (.opt 11 (.opt 14 .fin .non) .non) .non)) .non) .non) .non) .non)) (.opt 13 (.opt 4 (.opt 5 (.opt 9 (.opt 10 (.opt 11 (.opt 12 (.opt 14 .fin .non) (.opt 14 (.opt 12 .fin .non) .non)) (.opt 12 (.opt 11 (.opt 14 .fin .non) .non) .non)) .non) .non) .non) .non) .non)) (.opt 13 (.opt 4 (.opt 5 (.opt 8 (.opt 9 (.opt 10 (.opt 11 (.opt 12 (.opt 14 .fin .non) (.opt 14 (.opt 12 .fin .non) .non)) (.opt 12 (.opt 11 (.opt 14 .fin .non) .non) .non)) .non) .non) .non) (.opt 8 (.opt 5 (.opt 9 (.opt 10 (.opt 11 (.opt 12 (.opt 14 .fin .non) (.opt 14 (.opt 12 .fin .non) .non)) (.opt 12 (.opt 11 (.opt 14 .fin .non) .non) .non)) .non) .non) .non) .non)) (.opt 8 (.opt 4 (.opt 5 (.opt 9 (.opt 10 (.opt 11 (.opt 12 (.opt 14 .fin .non) (.opt 14 (.opt 12 .fin .non) .non)) (.opt 12 (.opt 11 (.opt 14 .fin .non) .non) .non)) .non) .non) .non) .non) .non)) .non))) (.opt 8 (.opt 3 (.opt 4 (.opt 5 (.opt 9 (.opt 10 (.opt 11 (.opt 12 (.opt 13 (.opt 14 .fin .non) .non) (.opt 13 (.opt 12 (.opt 14 .fin .non) (.opt 14 (.opt 12 .fin .non) .non)) .non)) (.opt 12 (.opt 11 (.opt 13 (.opt 14 .fin .non) .non) (.opt 13 (.opt 11 (.opt 14 .fin .non) .non) .non)) (.opt 13 (.opt 11 (.opt 12 (.opt 14 .fin .non) (.opt 14 (.opt 12 .fin .non) .non)) (.opt 12 (.opt 11 (.opt 14 .fin .non) .non) .non)) .non))) (.opt 13 (.opt 10 (.opt 11 (.opt 12 (.opt 14 .fin .non) (.opt 14 (.opt 12 .fin .non) .non)) (.opt 12 (.opt 11 (.opt 14 .fin .non) .non) .non)) .non) .non)) (.opt 13 (.opt 9 (.opt 10 (.opt 11 (.opt 12 (.opt 14 .fin .non) (.opt 14 (.opt 12 .fin .non) .non)) (.opt 12 (.opt 11 (.opt 14 .fin .non) .non) .non)) .non) .non) .non)) (.opt 13 (.opt 5 (.opt 9 (.opt 10 (.opt 11 (.opt 12 (.opt 14 .fin .non) (.opt 14 (.opt 12 .fin .non) .non)) (.opt 12 (.opt 11 (.opt 14 .fin .non) .non) .non)) .non) .non) .non) .non)) (.opt 13 (.opt 4 (.opt 5 (.opt 9 (.opt 10 (.opt 11 (.opt 12 (.opt 14 .fin .non) (.opt 14 (.opt 12 .fin .non) .non)) (.opt 12 (.opt 11 (.opt 14 .fin .non) .non) .non)) .non) .non) .non) .non) .non)) (.opt 13 (.opt 3 (.opt 4 (.opt 5 (.opt 9 (.opt 10 (.opt 11 (.opt 12 (.opt 14 .fin .non) (.opt 14 (.opt 12 .fin .non) .non)) (.opt 12 (.opt 11 (.opt 14 .fin .non) .non) .non)) .non) .non) .non) .non) .non) .non)) (.opt 13 (.opt 3 (.opt 4 (.opt 5 (.opt 8 (.opt 9 (.opt 10 (.opt 11 (.opt 12 (.opt 14 .fin .non) (.opt 14 (.opt 12 .fin .non) .non)) (.opt 12 (.opt 11 (.opt 14 .fin .non) .non) .non)) .non) .non) .non) (.opt 8 (.opt 5 (.opt 9 (.opt 10 (.opt 11 (.opt 12 (.opt 14 .fin .non) (.opt 14 (.opt 12 .fin .non) .non)) (.opt 12 (.opt 11 (.opt 14 .fin .non) .non) .non)) .non) .non) .non) .non)) (.opt 8 (.opt 4 (.opt 5 (.opt 9 (.opt 10 (.opt 11 (.opt 12 (.opt 14 .fin .non) (.opt 14 (.opt 12 .fin .non) .non)) (.opt 12 (.opt 11 (.opt 14 .fin .non) .non) .non)) .non) .non) .non) .non) .non)) (.opt 8 (.opt 3 (.opt 4 (.opt 5 (.opt 9 (.opt 10 (.opt 11 (.opt 12 (.opt 14 .fin .non) (.opt 14 (.opt 12 .fin .non) .non)) (.opt 12 (.opt 11 (.opt 14 .fin .non) .non) .non)) .non) .non) .non) .non) .non) .non)) .non))) (.opt 8 (.opt 1 (.opt 3 (.opt 4 (.opt 5 (.opt 9 (.opt 10 (.opt 11 (.opt 12 (.opt 13 (.opt 14 .fin .non) .non) (.opt 13 (.opt 12 (.opt 14 .fin .non) (.opt 14 (.opt 12 .fin .non) .non)) .non)) (.opt 12 (.opt 11 (.opt 13 (.opt 14 .fin .non) .non) (.opt 13 (.opt 11 (.opt 14 .fin .non) .non) .non)) (.opt 13 (.opt 11 (.opt 12 (.opt 14 .fin .non) (.opt 14 (.opt 12 .fin .non) .non)) (.opt 12 (.opt 11 (.opt 14 .fin .non) .non) .non)) .non))) (.opt 13 (.opt 10 (.opt 11 (.opt 12 (.opt 14 .fin .non) (.opt 14 (.opt 12 .fin .non) .non)) (.opt 12 (.opt 11 (.opt 14 .fin .non) .non) .non)) .non) .non)) (.opt 13 (.opt 9 (.opt 10 (.opt 11 (.opt 12 (.opt 14 .fin .non) (.opt 14 (.opt 12 .fin .non) .non)) (.opt 12 (.opt 11 (.opt 14 .fin .non) .non) .non)) .non) .non) .non)) (.opt 13 (.opt 5 (.opt 9 (.opt 10 (.opt 11 (.opt 12 (.opt 14 .fin .non) (.opt 14 (.opt 12 .fin .non) .non)) (.opt 12 (.opt 11 (.opt 14 .fin .non) .non) .non)) .non) .non) .non) .non)) (.opt 13 (.opt 4 (.opt 5 (.opt 9 (.opt 10 (.opt 11 (.opt 12 (.opt 14 .fin .non) (.opt 14 (.opt 12 .fin .non) .non)) (.opt 12 (.opt 11 (.opt 14 .fin .non) .non) .non)) .non) .non) .non) .non) .non)) (.opt 13 (.opt 3 (.opt 4 (.opt 5 (.opt 9 (.opt 10 (.opt 11 (.opt 12 (.opt 14 .fin .non) (.opt 14 (.opt 12 .fin .non) .non)) (.opt 12 (.opt 11 (.opt 14 .fin .non) .non) .non)) .non) .non) .non) .non) .non) .non)) (.opt 13 (.opt 1 (.opt 3 (.opt 4 (.opt 5 (.opt 9 (.opt 10 (.opt 11 (.opt 12 (.opt 14 .fin .non) (.opt 14 (.opt 12 .fin .non) .non)) (.opt 12 (.opt 11 (.opt 14 .fin .non) .non) .non)) .non) .non) .non) .non) .non) .non) .non)) (.opt 13 (.opt 1 (.opt 3 (.opt 4 (.opt 5 (.opt 8 (.opt 9 (.opt 10 (.opt 11 (.opt 12 (.opt 14 .fin .non) (.opt 14 (.opt 12 .fin .non) .non)) (.opt 12 (.opt 11 (.opt 14 .fin .non) .non) .non)) .non) .non) .non) (.opt 8 (.opt 5 (.opt 9 (.opt 10 (.opt 11 (.opt 12 (.opt 14 .fin .non) (.opt 14 (.opt 12 .fin .non) .non)) (.opt 12 (.opt 11 (.opt 14 .fin .non) .non) .non)) .non) .non) .non) .non)) (.opt 8 (.opt 4 (.opt 5 (.opt 9 (.opt 10 (.opt 11 (.opt 12 (.opt 14 .fin .non) (.opt 14 (.opt 12 .fin .non) .non)) (.opt 12 (.opt 11 (.opt 14 .fin .non) .non) .non)) .non) .non) .non) .non) .non)) (.opt 8 (.opt 3 (.opt 4 (.opt 5 (.opt 9 (.opt 10 (.opt 11 (.opt 12 (.opt 14 .fin .non) (.opt 14 (.opt 12 .fin .non) .non)) (.opt 12 (.opt 11 (.opt 14 .fin .non) .non) .non)) .non) .non) .non) .non) .non) .non)) (.opt 8 (.opt 1 (.opt 3 (.opt 4 (.opt 5 (.opt 9 (.opt 10 (.opt 11 (.opt 12 (.opt 14 .fin .non) (.opt 14 (.opt 12 .fin .non) .non)) (.opt 12 (.opt 11 (.opt 14 .fin .non) .non) .non)) .non) .non) .non) .non) .non) .non) .non)) .non))), .take 15] (And.intro (by kernel_rfl) ?_)
      refine And.intro ⟨by omega, by simp only [List.length_cons]; omega, by simp only [List.length_cons]; omega⟩ ?_
      have hbd : (0 : Int) ≤ ixI a.e (keyIs k) ∧ ixI a.e (keyIs k) < (a.e.length : Int) := ⟨i0, by omega⟩
      refine Exists.intro ⟨[(1, .rd .str (k :: r)), (3, .pt 3 0), (5, .pt 5 0), (6, .pt 6 0), (7, .i .i64 0), (8, .i .i64 (ixI a.e (keyIs k))), (9, .pt 9 0), (43, .i .i64 (movedV (atK a k) r m).2)], [(3, encVal a), (5, enc .move m), (6, [.i .i64 0, .i .i64 0, .i .u64 0, .s [], .nl, .nl]), (9, encVal (movedV (atK a k) r m).1)]⟩ (And.intro ?_ ?_)
      · (repeat' (first | exact trivial | exact Or.inl rfl | exact hbd | refine Or.inl (Exists.intro _ (And.intro hrec ?_)) | refine And.intro ?_ ?_))
      refine Exists.intro [.blk [0, 1, 2, 3, 4, 5, 6, 7], .one 8] (And.intro (by kernel_rfl) ?_)
      refine And.intro ⟨by omega, by simp only [List.length_cons]; omega⟩ ?_
      refine Exists.intro _ (And.intro (s_with a.e k (movedV (atK a k) r m).1 (by omega)) ?_)
      (repeat' (first | exact trivial | exact Or.inl rfl | exact Or.inr ⟨rfl, _, rfl⟩ | refine And.intro ?_ ?_))
theorem s_moved1 (a : Val) (k : Str) (r : List Str) (m : SX.Move) (ha : VW 10000000 a) (ih : ∀ w, VW 10000000 w → PSpec Tryd.prog 47 [.agg (encVal w), .rd .str r, .agg (enc .move m)] (prA (movedV w r m))) : PSpec Tryd.prog 47 [.agg (encVal a), .rd .str (k :: r), .agg (enc .move m)] (prA (movedV a (k :: r) m)) :=
  pspec_of_vcL Γ_good Tryd.func47 rfl Tryd.call47 Tryd.results47 Tryd.ntmps47 (Nat.le_of_ble_eq_true rfl) (w_moved1 a k r m ha ih)
theorem s_moved (m : SX.Move) (hk : 1 ≤ m.kind ∧ m.kind ≤ 7) : ∀ (r : List Str) (a : Val), VW 10000000 a → PSpec Tryd.prog 47 [.agg (encVal a), .rd .str r, .agg (enc .move m)] (prA (movedV a r m))
  | [], a, ha => s_moved0 a m ha hk
  | k :: r, a, ha => s_moved1 a k r m ha (fun w hw => s_moved m hk r w hw)
end
end Go.Proofs.YtmfchbkdakmjhaaDoor
end
section
namespace Go.Proofs.YtmfchbkdakmjhaaDoor
set_option linter.unusedSectionVars false
set_option linter.unusedSimpArgs false
set_option linter.unusedVariables false
open Go Go.SX Go.Ck Go.Vl Go.Ut Go.Up Go.Sp Go.Nm
set_option maxRecDepth 100000
set_option maxHeartbeats 1000000
/-- a step that may be applied -/
structure ModM (m : SX.Move) : Prop where
  v : Mod m.v
  k : m.key.length ≤ 10000000
  t : m.to.length ≤ 10000000
theorem along_ok {a : Val} {m : SX.Move} (ha : Mod a) (hm : ModM m) (hp : moveF m = 0) : VB (alongV a m.p m).1 ∧ (sizV (alongV a m.p m).1).2 ≤ 1000000000 ∧ VN 100000000 (alongV a m.p m).1 := by
  obtain ⟨h1, h2, h3, _⟩ := moveF_ok hp
  have g3 := vw_along (n := 10000000) (hm.v.vw.mono (Nat.le_succ _)) m.p a ha.vw
  have g4 := along_bulk (m := m) (B := 10000000) m.p a h3 ha.vb ha.bk
  have g5 := siz_bulk (alongV a m.p m).1
  have g6 : (m.p.length + 1) * (2 * 10000000 + 110) ≤ 21 * (2 * 10000000 + 110) := Nat.mul_le_mul_right _ (by omega)
  have := hm.v.bk
  have := hm.k
  have := hm.t
  exact ⟨g3.vb, by omega, vn_of_vw (by decide) g3⟩
theorem mod_step {a : Val} {m : SX.Move} (ha : Mod a) (hm : ModM m) (h : (stepV a m).2 = 0) : Mod (stepV a m).1 := by
  obtain ⟨h1, h2, h3, _⟩ := stepV_good h
  exact ⟨by rw [h2]; exact (along_ok ha hm h3).1, good_bulk h1⟩
theorem step_bad1 {a : Val} {m : SX.Move} (h : faultV a ≠ 0) : stepV a m = (zeroV, faultV a) := if_pos h
theorem step_bad2 {a : Val} {m : SX.Move} (h : ¬ faultV a ≠ 0) (h2 : moveF m ≠ 0) : stepV a m = (zeroV, moveF m) := by unfold stepV; rw [if_neg h, if_pos h2]
theorem step_bad3 {a : Val} {m : SX.Move} (h : ¬ faultV a ≠ 0) (h2 : ¬ moveF m ≠ 0) (h3 : (alongV a m.p m).2 ≠ 0) : stepV a m = (zeroV, (alongV a m.p m).2) := by unfold stepV; rw [if_neg h, if_neg h2, if_pos h3]
theorem step_bad4 {a : Val} {m : SX.Move} (h : ¬ faultV a ≠ 0) (h2 : ¬ moveF m ≠ 0) (h3 : ¬ (alongV a m.p m).2 ≠ 0) (h4 : faultV (alongV a m.p m).1 ≠ 0) : stepV a m = (zeroV, faultV (alongV a m.p m).1) := by unfold stepV; rw [if_neg h, if_neg h2, if_neg h3, if_pos h4]
theorem step_ok {a : Val} {m : SX.Move} (h : ¬ faultV a ≠ 0) (h2 : ¬ moveF m ≠ 0) (h3 : ¬ (alongV a m.p m).2 ≠ 0) (h4 : ¬ faultV (alongV a m.p m).1 ≠ 0) : stepV a m = ((alongV a m.p m).1, 0) := by unfold stepV; rw [if_neg h, if_neg h2, if_neg h3, if_neg h4]
section
variable [G : Globs]
theorem w_applyT (hp : HasPow) (hu : HasU8) (a : Val) (m : SX.Move) (ha : Mod a) (hm : ModM m) : vc Tryd.prog Γ 40 [2, 3, 4, 5, 6, 7, 8, 9, 13, 19, 31, 35] (Tryd.f9.body.getD .skip) (postK Γ [.cell 4 26, .tmp 5] (fun v => RL v (prA (stepV a m)))) ⟨argSlots 0 [.agg (encVal a), .agg (enc .move m)], []⟩ := by
  have hC := s_Check hu a ha.vb ha.siz
  rw [chk_T] at hC
  refine Or.inl (Exists.intro _ (And.intro (hC) ?_))
  refine And.intro (fun hq => ?_) (fun hq => ?_)
  · have hq : faultV a ≠ 0 := by simpa using hq
    rw [prA_eq (step_bad1 hq)]
    (repeat' (first | exact trivial | exact Or.inl rfl | exact Or.inr ⟨rfl, _, rfl⟩ | refine And.intro ?_ ?_))
  have hq : ¬ faultV a ≠ 0 := by simpa using hq
  refine Or.inl (Exists.intro _ (And.intro (s_stepCheck hu m hm.v.vb hm.v.siz) ?_))
  refine And.intro (fun hq2 => ?_) (fun hq2 => ?_)
  · have hq2 : moveF m ≠ 0 := by simpa using hq2
    rw [prA_eq (step_bad2 hq hq2)]
    (repeat' (first | exact trivial | exact Or.inl rfl | exact Or.inr ⟨rfl, _, rfl⟩ | refine And.intro ?_ ?_))
  have hq2 : ¬ moveF m ≠ 0 := by simpa using hq2
  obtain ⟨o1, o2, o3⟩ := along_ok ha hm (Decidable.not_not.1 hq2)
  have hC2 := s_Check hu (alongV a m.p m).1 o1 o2
  rw [chk_T] at hC2
  refine Or.inr (Or.inr (Or.inr (Or.inl (Exists.intro [3] (Exists.intro _ (And.intro ((s_along hp m hm.v.vw m.p a ha.vw)) ?_))))))
  refine And.intro (fun hq3 => ?_) (fun hq3 => ?_)
  · have hq3 : ¬ (alongV a m.p m).2 ≠ 0 := by simpa using hq3
    refine Or.inl (Exists.intro _ (And.intro (hC2) ?_))
    refine And.intro (fun hq4 => ?_) (fun hq4 => ?_)
    · have hq4 : faultV (alongV a m.p m).1 ≠ 0 := by simpa using hq4
      rw [prA_eq (step_bad4 hq hq2 hq3 hq4)]
      (repeat' (first | exact trivial | exact Or.inl rfl | exact Or.inr ⟨rfl, _, rfl⟩ | refine And.intro ?_ ?_))
    · have hq4 : ¬ faultV (alongV a m.p m).1 ≠ 0 := by simpa using hq4
      rw [prA_eq (step_ok hq hq2 hq3 hq4)]
      refine Or.inl (Exists.intro _ (And.intro (s_Own (alongV a m.p m).1 o3) ?_))
      (repeat' (first | exact trivial | exact Or.inl rfl | exact Or.inr ⟨rfl, _, rfl⟩ | refine And.intro ?_ ?_))
  · have hq3 : (alongV a m.p m).2 ≠ 0 := by simpa using hq3
    rw [prA_eq (step_bad3 hq hq2 hq3)]
    refine And.intro (fun _ => ?_) (fun h => absurd h (by simpa using hq3))
    (repeat' (first | exact trivial | exact Or.inl rfl | exact Or.inr ⟨rfl, _, rfl⟩ | refine And.intro ?_ ?_))
theorem s_applyT (hp : HasPow) (hu : HasU8) (a : Val) (m : SX.Move) (ha : Mod a) (hm : ModM m) : PSpec Tryd.prog 9 [.agg (encVal a), .agg (enc .move m)] (prA (stepV a m)) :=
  pspec_of_vcL Γ_good Tryd.func9 rfl Tryd.call9 Tryd.results9 Tryd.ntmps9 (Nat.le_of_ble_eq_true rfl) (w_applyT hp hu a m ha hm)
theorem w_movedT (a : Val) (m : SX.Move) (ha : Mod a) (hm : ModM m) : vc Tryd.prog Γ 39 [2, 3, 4, 5, 6, 7, 8, 9, 13, 19, 31, 35] (Tryd.f10.body.getD .skip) (postK Γ [.cell 4 26, .tmp 5] (fun v => RL v (prA (stepV a m)))) ⟨argSlots 0 [.agg (encVal a), .agg (enc .move m)], []⟩ := by
  refine Or.inl (Exists.intro _ (And.intro (s_fault a ha.vb ha.siz) ?_))
  refine And.intro (fun hq => ?_) (fun hq => ?_)
  · have hq : faultV a ≠ 0 := by simpa using hq
    rw [prA_eq (step_bad1 hq)]
    (repeat' (first | exact trivial | exact Or.inl rfl | exact Or.inr ⟨rfl, _, rfl⟩ | refine And.intro ?_ ?_))
  have hq : ¬ faultV a ≠ 0 := by simpa using hq
  refine Or.inl (Exists.intro _ (And.intro (s_moveFault m hm.v.vb hm.v.siz) ?_))
  refine And.intro (fun hq2 => ?_) (fun hq2 => ?_)
  · have hq2 : moveF m ≠ 0 := by simpa using hq2
    rw [prA_eq (step_bad2 hq hq2)]
    (repeat' (first | exact trivial | exact Or.inl rfl | exact Or.inr ⟨rfl, _, rfl⟩ | refine And.intro ?_ ?_))
  have hq2 : ¬ moveF m ≠ 0 := by simpa using hq2
  obtain ⟨o1, o2, o3⟩ := along_ok ha hm (Decidable.not_not.1 hq2)
  obtain ⟨e1, e2⟩ := moved_along m.p a m
  have hM := s_moved m (moveF_ok (Decidable.not_not.1 hq2)).1 m.p a ha.vw
  unfold prA at hM
  rw [e1] at hM
  by_cases hq3 : (alongV a m.p m).2 ≠ 0
  · rw [prA_eq (step_bad3 hq hq2 hq3)]
    refine Or.inl (Exists.intro _ (And.intro (hM) ?_))
    refine And.intro (fun h => absurd hq3 (by simpa using h)) (fun _ => ?_)
    refine And.intro (fun _ => ?_) (fun h => absurd h (by simpa using hq3))
    (repeat' (first | exact trivial | exact Or.inl rfl | exact Or.inr ⟨rfl, _, rfl⟩ | refine And.intro ?_ ?_))
  · rw [e2 (Decidable.not_not.1 hq3)] at hM
    refine Or.inl (Exists.intro _ (And.intro (hM) ?_))
    refine And.intro (fun _ => ?_) (fun h => absurd h (by simpa using hq3))
    refine Or.inl (Exists.intro _ (And.intro (s_fault (alongV a m.p m).1 o1 o2) ?_))
    refine And.intro (fun hq4 => ?_) (fun hq4 => ?_)
    · have hq4 : faultV (alongV a m.p m).1 ≠ 0 := by simpa using hq4
      rw [prA_eq (step_bad4 hq hq2 hq3 hq4)]
      (repeat' (first | exact trivial | exact Or.inl rfl | exact Or.inr ⟨rfl, _, rfl⟩ | refine And.intro ?_ ?_))
    · have hq4 : ¬ faultV (alongV a m.p m).1 ≠ 0 := by simpa using hq4
      rw [prA_eq (step_ok hq hq2 hq3 hq4)]
      (repeat' (first | exact trivial | exact Or.inl rfl | exact Or.inr ⟨rfl, _, rfl⟩ | refine And.intro ?_ ?_))
theorem s_movedT (a : Val) (m : SX.Move) (ha : Mod a) (hm : ModM m) : PSpec Tryd.prog 10 [.agg (encVal a), .agg (enc .move m)] (prA (stepV a m)) :=
  pspec_of_vcL Γ_good Tryd.func10 rfl Tryd.call10 Tryd.results10 Tryd.ntmps10 (Nat.le_of_ble_eq_true rfl) (w_movedT a m ha hm)
def allS (r : Val × Int × Int) : AV := .tup [.agg (encVal r.1), .i .i64 r.2.1, .i .i64 r.2.2]
theorem w_movedAll (a : Val) (l : List SX.Move) (ha : Mod a) (hl : ∀ m ∈ l, ModM m) : vc Tryd.prog Γ 39 [1, 2, 4, 5, 6, 7, 8, 9, 10, 11, 15, 18, 19, 20, 21, 32] (Tryd.f15.body.getD .skip) (postK Γ [.cell 4 26, .tmp 5, .tmp 6] (fun v => RL v (allS (stepsV a l)))) ⟨argSlots 0 [.agg (encVal a), .rd .move l], []⟩ := by
  refine Or.inl (Exists.intro _ (And.intro (s_fault a ha.vb ha.siz) ?_))
  refine And.intro (fun hq => ?_) (fun hq => ?_)
  · have hq : faultV a ≠ 0 := by simpa using hq
    rw [show stepsV a l = (zeroV, 0, faultV a) from if_pos hq]
    (repeat' (first | exact trivial | exact Or.inl rfl | exact Or.inr ⟨rfl, _, rfl⟩ | refine And.intro ?_ ?_))
  have hq : ¬ faultV a ≠ 0 := by simpa using hq
  rw [show stepsV a l = stepsAll a 0 l from if_neg hq]
  generalize hR : stepsAll a 0 l = R
  intro hml
  refine Exists.intro [] (Exists.intro [] (Exists.intro [] (Exists.intro (Nat × Val) (Exists.intro (fun q => q.1 ≤ l.length ∧ Mod q.2 ∧ R = stepsAll q.2 q.1 (l.drop q.1)) (Exists.intro (fun ⟨i, v⟩ => ⟨[(2, .pt 2 0), (4, .pt 4 0), (5, .i .i64 0), (6, .i .i64 0), (18, .rd .move l), (19, .i .i64 l.length), (20, .i .i64 i)], [(2, encVal v), (4, [.i .i64 0, .i .i64 0, .i .u64 0, .s [], .nl, .nl])]⟩) (Exists.intro (fun q => l.length - q.1) (Exists.intro (0, a) (And.intro ⟨Nat.zero_le _, ha, hR.symm⟩ (And.intro ?_ ?_)))))))))
  · (repeat' (first | exact trivial | exact Or.inl rfl | exact Or.inr (Or.inl ⟨rfl, _, rfl⟩) | exact Or.inr (Or.inr (Or.inr ⟨_, _, _, rfl, rfl⟩)) | refine And.intro ?_ ?_))
  rintro ⟨i, v⟩ ⟨hi, hv, hI⟩
  simp only at hi hv hI
  refine And.intro (fun hz => ?_) (fun hz => ?_)
  · have hi := ltD hz
    have hg := getI (τ := .move) hi
    refine And.intro ⟨by omega, by omega⟩ ?_
    rw [hg]
    have ho := hl l[i] (List.getElem_mem hi)
    have hlen := len_le hml
    rw [List.drop_eq_getElem_cons hi, stepsAll] at hI
    refine Or.inl (Exists.intro _ (And.intro (s_movedT v l[i] hv ho) ?_))
    refine And.intro (fun hq => ?_) (fun hq => ?_)
    · have hq : (stepV v l[i]).2 ≠ 0 := by simpa using hq
      rw [if_pos hq] at hI
      rw [hI]
      (repeat' (first | exact trivial | exact Or.inl rfl | exact Or.inr ⟨rfl, _, rfl⟩ | refine And.intro ?_ ?_))
    · have hq : ¬ (stepV v l[i]).2 ≠ 0 := by simpa using hq
      rw [if_neg hq] at hI
      (refine And.intro (rng64 (by omega) (by omega)) ?_)
      refine Exists.intro [] (Exists.intro (i + 1, (stepV v l[i]).1) (And.intro ⟨hi, mod_step hv ho (by simpa using hq), hI⟩ (And.intro ?_ ?_)))
      · (repeat' (first | exact trivial | exact Or.inl rfl | exact Or.inr (Or.inl ⟨rfl, _, rfl⟩) | exact Or.inr (Or.inr (Or.inr ⟨_, _, _, rfl, rfl⟩)) | refine And.intro ?_ ?_))
      · (exact Nat.sub_lt_sub_left (by omega) (by omega))
  · have hi := geD hi hz
    rw [List.drop_eq_nil_of_le (by omega), stepsAll] at hI
    rw [hI]
    (repeat' (first | exact trivial | exact Or.inl rfl | exact Or.inr ⟨rfl, _, rfl⟩ | refine And.intro ?_ ?_))
theorem s_movedAll (a : Val) (l : List SX.Move) (ha : Mod a) (hl : ∀ m ∈ l, ModM m) : PSpec Tryd.prog 15 [.agg (encVal a), .rd .move l] (allS (stepsV a l)) :=
  pspec_of_vcL Γ_good Tryd.func15 rfl Tryd.call15 Tryd.results15 Tryd.ntmps15 (Nat.le_of_ble_eq_true rfl) (w_movedAll a l ha hl)
theorem w_allT (hp : HasPow) (hu : HasU8) (a : Val) (l : List SX.Move) (ha : Mod a) (hl : ∀ m ∈ l, ModM m) : vc Tryd.prog Γ 39 [1, 2, 4, 5, 6, 7, 8, 9, 10, 14, 19, 20, 21, 22, 33] (Tryd.f14.body.getD .skip) (postK Γ [.cell 4 26, .tmp 5, .tmp 6] (fun v => RL v (allS (stepsV a l)))) ⟨argSlots 0 [.agg (encVal a), .rd .move l], []⟩ := by
  have hC := s_Check hu a ha.vb ha.siz
  rw [chk_T] at hC
  refine Or.inl (Exists.intro _ (And.intro (hC) ?_))
  refine And.intro (fun hq => ?_) (fun hq => ?_)
  · have hq : faultV a ≠ 0 := by simpa using hq
    rw [show stepsV a l = (zeroV, 0, faultV a) from if_pos hq]
    (repeat' (first | exact trivial | exact Or.inl rfl | exact Or.inr ⟨rfl, _, rfl⟩ | refine And.intro ?_ ?_))
  have hq : ¬ faultV a ≠ 0 := by simpa using hq
  rw [show stepsV a l = stepsAll a 0 l from if_neg hq]
  generalize hR : stepsAll a 0 l = R
  refine Or.inl (Exists.intro _ (And.intro (s_Own a ha.vn) ?_))
  intro hml
  refine Exists.intro [] (Exists.intro [] (Exists.intro [] (Exists.intro (Nat × Val) (Exists.intro (fun q => q.1 ≤ l.length ∧ Mod q.2 ∧ R = stepsAll q.2 q.1 (l.drop q.1)) (Exists.intro (fun ⟨i, v⟩ => ⟨[(2, .pt 2 0), (4, .pt 4 0), (5, .i .i64 0), (6, .i .i64 0), (19, .rd .move l), (20, .i .i64 l.length), (21, .i .i64 i)], [(2, encVal v), (4, [.i .i64 0, .i .i64 0, .i .u64 0, .s [], .nl, .nl])]⟩) (Exists.intro (fun q => l.length - q.1) (Exists.intro (0, a) (And.intro ⟨Nat.zero_le _, ha, hR.symm⟩ (And.intro ?_ ?_)))))))))
  · (repeat' (first | exact trivial | exact Or.inl rfl | exact Or.inr (Or.inl ⟨rfl, _, rfl⟩) | exact Or.inr (Or.inr (Or.inr ⟨_, _, _, rfl, rfl⟩)) | refine And.intro ?_ ?_))
  rintro ⟨i, v⟩ ⟨hi, hv, hI⟩
  simp only at hi hv hI
  refine And.intro (fun hz => ?_) (fun hz => ?_)
  · have hi := ltD hz
    have hg := getI (τ := .move) hi
    refine And.intro ⟨by omega, by omega⟩ ?_
    rw [hg]
    have ho := hl l[i] (List.getElem_mem hi)
    have hlen := len_le hml
    rw [List.drop_eq_getElem_cons hi, stepsAll] at hI
    refine Or.inl (Exists.intro _ (And.intro (s_applyT hp hu v l[i] hv ho) ?_))
    refine And.intro (fun hq => ?_) (fun hq => ?_)
    · have hq : (stepV v l[i]).2 ≠ 0 := by simpa using hq
      rw [if_pos hq] at hI
      rw [hI]
      (repeat' (first | exact trivial | exact Or.inl rfl | exact Or.inr ⟨rfl, _, rfl⟩ | refine And.intro ?_ ?_))
    · have hq : ¬ (stepV v l[i]).2 ≠ 0 := by simpa using hq
      rw [if_neg hq] at hI
      (refine And.intro (rng64 (by omega) (by omega)) ?_)
      refine Exists.intro [] (Exists.intro (i + 1, (stepV v l[i]).1) (And.intro ⟨hi, mod_step hv ho (by simpa using hq), hI⟩ (And.intro ?_ ?_)))
      · (repeat' (first | exact trivial | exact Or.inl rfl | exact Or.inr (Or.inl ⟨rfl, _, rfl⟩) | exact Or.inr (Or.inr (Or.inr ⟨_, _, _, rfl, rfl⟩)) | refine And.intro ?_ ?_))
      · (exact Nat.sub_lt_sub_left (by omega) (by omega))
  · have hi := geD hi hz
    rw [List.drop_eq_nil_of_le (by omega), stepsAll] at hI
    rw [hI]
    (repeat' (first | exact trivial | exact Or.inl rfl | exact Or.inr ⟨rfl, _, rfl⟩ | refine And.intro ?_ ?_))
theorem s_allT (hp : HasPow) (hu : HasU8) (a : Val) (l : List SX.Move) (ha : Mod a) (hl : ∀ m ∈ l, ModM m) : PSpec Tryd.prog 14 [.agg (encVal a), .rd .move l] (allS (stepsV a l)) :=
  pspec_of_vcL Γ_good Tryd.func14 rfl Tryd.call14 Tryd.results14 Tryd.ntmps14 (Nat.le_of_ble_eq_true rfl) (w_allT hp hu a l ha hl)
theorem s_sameV (v : Val) (h : VB v) : PSpec Tryd.prog 13 [.agg (encVal v), .agg (encVal v)] (.b true) := by
  have := s_same v v h h
  rw [cmpV_self] at this
  exact this
theorem modZ : Mod zeroV := ⟨vb_zero, by decide⟩
theorem mod_stepV {a : Val} {m : SX.Move} (ha : Mod a) (hm : ModM m) : Mod (stepV a m).1 := by
  by_cases h : (stepV a m).2 = 0
  · exact mod_step ha hm h
  · have hz : (stepV a m).1 = zeroV := by
      unfold stepV at h ⊢
      (repeat' split) <;> first | rfl | (rename_i h1 h2 h3 h4; rw [if_neg h1, if_neg h2, if_neg h3, if_neg h4] at h; exact absurd rfl h)
    rw [hz]
    exact modZ
theorem mod_stepsAll : ∀ (l : List SX.Move) (a : Val) (i : Nat), Mod a → (∀ m ∈ l, ModM m) → Mod (stepsAll a i l).1
  | [], a, i, ha, _ => by rw [stepsAll]; exact ha
  | m :: r, a, i, ha, hl => by
    rw [stepsAll]
    have hm := hl m (List.mem_cons_self ..)
    split
    · exact modZ
    · exact mod_stepsAll r _ _ (mod_stepV ha hm) fun x hx => hl x (List.mem_cons_of_mem _ hx)
theorem mod_stepsV {a : Val} {l : List SX.Move} (ha : Mod a) (hl : ∀ m ∈ l, ModM m) : Mod (stepsV a l).1 := by
  unfold stepsV
  split
  · exact modZ
  · exact mod_stepsAll l a 0 ha hl
theorem w_lawS (hp : HasPow) (hu : HasU8) (a : Val) (l : List SX.Move) (ha : Mod a) (hl : ∀ m ∈ l, ModM m) : vc Tryd.prog Γ 41 [1, 2, 4, 5, 6, 7, 8, 9, 10, 13] (Tryd.f4.body.getD .skip) (postK Γ [.tmp 4] (fun v => v = .b true)) ⟨argSlots 0 [.agg (encVal a), .rd .move l], []⟩ := by
  intro _
  refine And.intro (fun _ => rfl) (fun _ => ?_)
  refine Or.inl (Exists.intro _ (And.intro (s_allT hp hu a l ha hl) ?_))
  refine Or.inl (Exists.intro _ (And.intro (s_movedAll a l ha hl) ?_))
  refine Or.inl (Exists.intro _ (And.intro (s_sameV (stepsV a l).1 (mod_stepsV ha hl).vb) ?_))
  refine And.intro (fun _ => ?_) (fun h => by cases h)
  refine And.intro (fun _ => ?_) (fun h => absurd ((beq_self_eq_true (stepsV a l).2.1).symm.trans h) (by decide))
  exact congrArg AV.b (beq_self_eq_true (stepsV a l).2.2)
theorem s_lawS (hp : HasPow) (hu : HasU8) (a : Val) (l : List SX.Move) (ha : Mod a) (hl : ∀ m ∈ l, ModM m) : PSpec Tryd.prog 4 [.agg (encVal a), .rd .move l] (.b true) :=
  pspec_of_vc Γ_good Tryd.func4 rfl Tryd.call4 Tryd.results4 Tryd.ntmps4 (Nat.le_of_ble_eq_true rfl) (w_lawS hp hu a l ha hl)
end
end Go.Proofs.YtmfchbkdakmjhaaDoor
end
section
namespace Go.SX
set_option linter.unusedSectionVars false
set_option linter.unusedVariables false
set_option linter.unusedSimpArgs false
open Go.RowKit Go.WideShapes Go.ChangeShapes Go.Deep
/-- the types that a step, an update are made of -/
structure STy (P : Program) (T : TypeId) where
  (fs : Array Field) (K S : TypeId)
  hT : P.underlying T = some (.struct fs)
  sz : fs.size = 2
  cT : P.cellsOf T = 2
  h0 : HasF fs 0 0 S
  h1 : HasF fs 1 1 K
  uK : P.underlying K = some (.int .i64)
  uS : P.underlying S = some .string
  c : P.cellsOf K = 1 ∧ P.cellsOf S = 1
structure OTy (P : Program) (T : TypeId) where
  (fs : Array Field) (K S Q V St : TypeId) (Tv : VTy P V) (S' : STy P St)
  hT : P.underlying T = some (.struct fs)
  sz : fs.size = 4
  cT : P.cellsOf T = 9
  h0 : HasF fs 0 0 K
  h1 : HasF fs 1 1 Q
  h2 : HasF fs 2 2 V
  h3 : HasF fs 3 8 S
  uK : P.underlying K = some (.int .i64)
  uS : P.underlying S = some .string
  uQ : P.underlying Q = some (.slice St)
  c : P.cellsOf K = 1 ∧ P.cellsOf S = 1 ∧ P.cellsOf Q = 1
section
variable [Globs]
variable {H : Type} {encH : TypeId × Value → H} {P : Program} {W : World} {sp : Nat → Bool} {hd : Bool} {O : Nat → Prop} {bk : DataW H → Nat}
end
end Go.SX
end
section
namespace Go.SX
set_option linter.unusedSectionVars false
set_option linter.unusedVariables false
set_option linter.unusedSimpArgs false
open Go.RowKit Go.WideShapes Go.ChangeShapes Go.Deep
def bkT (s : Str) : Nat := s.length + 1
def bkM (m : Move) : Nat := bkV m.v + m.key.length + m.to.length + (m.p.map bkT).sum + 1
section
variable [Globs]
variable {H : Type} {encH : TypeId × Value → H} {P : Program} {W : World} {sp : Nat → Bool} {hd : Bool} {O : Nat → Prop} {bk : DataW H → Nat}
theorem arg_moveS {T : TypeId} (hbk : BulkS bk) (S : MTy P T) (hs : S.T.fs.size = 6) (hs2 : S.T.gs.size = 2) (hs3 : S.fs.size = 5) (hO : ∀ k, ¬ O k) {fuel : Nat} {cs : List Value} {x : DataW H × List MemPlace} (h : DataW.trod encH P W 0 sp hd fuel T cs = some x) :
    ∃ y : Move, All2 (Im O W) (enc .move y) cs ∧ bkM y ≤ bk x.1 ∧ MB y := by
  obtain ⟨n, ds, rfl, hl, hag, hds, hf⟩ := one_fieldS S.hM h
  rw [S.cM] at hl
  rw [hs3] at hds
  obtain ⟨c0, c1, c2⟩ := S.c
  match cs, hl, ds, hds with
  | [u0, u1, u2, u3, u4, u5, u6, u7, u8, u9], _, [d0, d1, d2, d3, d4], _ =>
    obtain ⟨y0, q0, k0⟩ := hf 0 0 _ S.h0
    obtain ⟨y1, q1, k1⟩ := hf 1 1 _ S.h1
    obtain ⟨y2, q2, k2⟩ := hf 2 2 _ S.h2
    obtain ⟨y3, q3, k3⟩ := hf 3 3 _ S.h3
    obtain ⟨y4, q4, k4⟩ := hf 4 4 _ S.h4
    simp only [List.getElem?_cons_zero, List.getElem?_cons_succ, Option.some.injEq] at k0 k1 k2 k3 k4
    subst k0 k1 k2 k3 k4
    rw [c0] at q0
    rw [c1] at q1
    rw [c2] at q2 q3
    rw [S.T.cV] at q4
    obtain ⟨k, e0, i0, w0⟩ := arg_int (O := O) S.uK q0
    obtain ⟨p, vp, e1, i1, z1, _⟩ := arg_sliceS (O := O) (τ := .str) (m := bkT) (R := fun _ => True) hbk hO S.uQ c2 (fun n' hn cs' x' hx => by
      obtain ⟨ks, kv, d0, j0, zz⟩ := arg_strS (O := O) hbk S.uS hx
      subst d0
      exact ⟨ks, All2.cons j0 (All2.nil _), zz, trivial⟩) q1
    obtain ⟨s, vs, e2, i2, z2⟩ := arg_strS (O := O) hbk S.uS q2
    obtain ⟨s', vs', e3, i3, z3⟩ := arg_strS (O := O) hbk S.uS q3
    obtain ⟨y, j1, hyb, hy⟩ := arg_valS (O := O) hbk S.T hs hs2 hO _ _ _ q4
    simp at e0 e1 e2 e3
    subst e0 e1 e2 e3
    refine ⟨⟨k, p, s, s', y⟩, All2.cons i0 (All2.cons i1 (All2.cons i2 (All2.cons i3 (by simpa using j1)))), ?_, wf_i64 w0, hy⟩
    have h9 := hbk.ag [y0.1, y1.1, y2.1, y3.1, y4.1]
    have p0 := hbk.pos y0.1
    rw [hag]
    refine Nat.le_trans ?_ h9
    simp only [bkM, List.map_cons, List.map_nil, List.sum_cons, List.sum_nil]
    omega
end
end Go.SX
end
section
namespace Go.Proofs.YtmfchbkdakmjhaaDoor.stepAll
set_option linter.unusedSectionVars false
set_option linter.unusedSimpArgs false
set_option linter.unusedVariables false
open Go Go.SX Go.Ck Go.Vl Go.Up Go.Sp
open Go.ChangeShapes Go.WideShapes Go.ChangeAt Go.RowKit
set_option maxRecDepth 100000
theorem own : ownKnob Tryd.prog.godebug = none := by kernel_rfl
theorem laidOut : laidOutB Tryd.prog = true := by kernel_rfl
theorem cell_block {w : World} {g o : Nat} {k : IntKind} {n : Int} (h : w.cell? ⟨g, o, none⟩ = some (.int k n)) : ∃ cur e fz, w.heap[g]? = some (.cells cur e fz) ∧ cur[o]? = some (.int k n) := by
  unfold World.cell? at h
  split at h
  · rename_i cur e fz hh
    exact ⟨_, _, _, hh, by simpa using h⟩
  · cases h
noncomputable def vty [G : Globs] : VTy Tryd.prog 26 where
  fs := _
  gs := _
  K := 3
  N := 2
  U := 22
  S := 9
  L := 23
  E := 24
  En := 113
  hV := Tryd.underlying26
  cV := by kernel_rfl
  h0 := ⟨_, rfl, rfl, rfl⟩
  h1 := ⟨_, rfl, rfl, rfl⟩
  h2 := ⟨_, rfl, rfl, rfl⟩
  h3 := ⟨_, rfl, rfl, rfl⟩
  h4 := ⟨_, rfl, rfl, rfl⟩
  h5 := ⟨_, rfl, rfl, rfl⟩
  uK := Tryd.underlying3
  uN := Tryd.underlying2
  uU := Tryd.underlying22
  uS := Tryd.underlying9
  uL := Tryd.underlying23
  uE := Tryd.underlying24
  c := ⟨by kernel_rfl, by kernel_rfl, by kernel_rfl, by kernel_rfl, by kernel_rfl, by kernel_rfl⟩
  hE := Tryd.underlying113
  cE := by kernel_rfl
  g0 := ⟨_, rfl, rfl, rfl⟩
  g1 := ⟨_, rfl, rfl, rfl⟩
noncomputable def mty [G : Globs] : MTy Tryd.prog 29 where
  fs := _
  K := 3
  Q := 27
  S := 9
  V := 26
  T := vty
  hM := Tryd.underlying29
  cM := by kernel_rfl
  h0 := ⟨_, rfl, rfl, rfl⟩
  h1 := ⟨_, rfl, rfl, rfl⟩
  h2 := ⟨_, rfl, rfl, rfl⟩
  h3 := ⟨_, rfl, rfl, rfl⟩
  h4 := ⟨_, rfl, rfl, rfl⟩
  uK := Tryd.underlying3
  uQ := Tryd.underlying27
  uS := Tryd.underlying9
  c := ⟨by kernel_rfl, by kernel_rfl, by kernel_rfl⟩
theorem bulk_pos {H : Type} (d : DataW H) : 1 ≤ Rows.uptoBulk d := by
  cases d with
  | lit l => cases l <;> simp [Rows.uptoBulk]
  | _ => simp [Rows.uptoBulk]
theorem bulk_sum {H : Type} : ∀ ds : List (DataW H), Rows.uptoBulkAll ds = (ds.map Rows.uptoBulk).sum
  | [] => by simp [Rows.uptoBulkAll]
  | d :: ds => by simp [Rows.uptoBulkAll, bulk_sum ds]
theorem bulk_law {H : Type} : BulkS (H := H) Rows.uptoBulk where
  sl := fun els rest => by
    have := bulk_sum els
    simp only [Rows.uptoBulk]
    omega
  ag := fun ds => by
    have := bulk_sum ds
    simp only [Rows.uptoBulk]
    omega
  st := fun b => by simp [Rows.uptoBulk]
  pos := bulk_pos
/-- an argument that is a value -/
theorem arg_vl {H : Type} {enc : TypeId × Value → H} {W : World} {v : Value} {d : DataW H} {ps : List MemPlace} {r : Reach} {b : Nat} (hval : Value.okWide Tryd.prog W r b 26 v)
    (h : DataW.Trod enc Tryd.prog W 0 (fun _ => true) true 26 v d ps) : ∃ y : Val, Im (fun _ => False) W (.agg (encVal y)) v ∧ VB y ∧ bkV y ≤ Rows.uptoBulk d := by
  obtain ⟨cs, rfl, _⟩ := okWide_struct Tryd.underlying26 hval
  obtain ⟨fuel, hf⟩ := h
  letI : Globs := ⟨[]⟩
  obtain ⟨y, h1, h3, h2⟩ := arg_valS (O := fun _ => False) bulk_law vty rfl rfl (fun _ h => h) fuel _ _ hf
  have h1 : All2 (Im (fun _ => False) W) (encVal y) cs.toList := h1
  obtain ⟨l⟩ := cs
  refine ⟨y, .agg _ l h1.1 (fun v hv => ?_) h1.2, h2, h3⟩
  obtain ⟨j, hj, rfl⟩ := List.getElem_of_mem hv
  have hj' : j < (encVal y).length := by rw [h1.1]; exact hj
  exact plain_one (h1.2 j _ _ (List.getElem?_eq_getElem hj') (List.getElem?_eq_getElem hj)) (enc_plain .val y _ (List.getElem_mem hj'))
/-- an argument that is a list -/
theorem arg_mvs {H : Type} {enc : TypeId × Value → H} {W : World} {v : Value} {d : DataW H} {ps : List MemPlace} {r : Reach} {b : Nat} (hval : Value.okWide Tryd.prog W r b 36 v)
    (h : DataW.Trod enc Tryd.prog W 0 (fun _ => true) true 36 v d ps) : ∃ l : List (den .move), Im (fun _ => False) W (.rd .move l) v ∧ (l.map bkM).sum + 1 ≤ Rows.uptoBulk d ∧ ∀ x ∈ l, (MB) x := by
  obtain ⟨a, n, c, rfl⟩ := okWide_slice Tryd.underlying36 hval
  obtain ⟨fuel, hf⟩ := h
  letI : Globs := ⟨[]⟩
  obtain ⟨l, v', h1, h2, h3, h4⟩ := arg_sliceS (O := fun _ => False) (τ := .move) (m := bkM) (R := MB) bulk_law (fun _ h => h) Tryd.underlying36 (by kernel_rfl) (fun n' hn cs' x' hx => arg_moveS bulk_law mty rfl rfl rfl (fun _ h => h) hx) hf
  have : [Value.slice a n c] = [v'] := by simpa [Value.cells] using h1
  injection this with h5
  subst h5
  exact ⟨l, h2, h3, h4⟩
theorem tabIs_of_reads {P : Program} {W : World} {name : String} {k : IntKind} {zs : List Int} {g : Nat} {t e : TypeId} {n : Nat}
    (hg : P.globalNamed name = some g) (hty : (P.globals[g]?).map (·.type) = some t) (ht : P.underlying t = some (.array n e)) (he : P.underlying e = some (.int k)) (hce : P.cellsOf e = 1) (hct : P.cellsOf t = n)
    (h : Lib.VarReads P W name (Lib.tabData k zs)) : Lib.TabIs P W name k zs := by
  obtain ⟨g', t', cs, fuel, p, hg', ht', hvar, hd⟩ := h
  obtain rfl := Option.some.inj (hg.symm.trans hg')
  obtain rfl := Option.some.inj (hty.symm.trans ht')
  unfold Lib.TabIs
  rw [hvar, ← Lib.cells_of_tab ht he hce hct hd]
theorem tabIs_block {P : Program} {W w : World} {name : String} {k : IntKind} {zs : List Int} {g : Nat} (hg : P.globalNamed name = some g) (hh : w.heap[g]? = W.heap[g]?) (h : Lib.TabIs P W name k zs) : Lib.TabIs P w name k zs := by
  unfold Lib.TabIs World.var? at *
  rw [hg] at h ⊢
  simp only [Option.bind_some] at h ⊢
  rw [hh]
  exact h
theorem contract (H : Type) (enc : TypeId × Value → H) (W : World) (base : Nat) (args : Array Value) (ds gs : List (DataW H)) (before : List MemPlace)
    (hval : ∀ (j : Nat) t v, Tryd.f4.params[j]? = some t → args[j]? = some v → Value.okWide Tryd.prog W .any base t v)
    (hW : DataW.Whole enc Tryd.prog Tryd.f4.params.toList Rows.stepAllSpec.vars false W args.toList ds gs before) (hk : Rows.uptoSmall H (ds ++ gs) = true) (hL : laidMetH Tryd.prog Rows.stepAllUptoRow.laid W) :
    Calls Tryd.prog 4 args W fun e W' => ∃ v, e = .returned v ∧ Rows.stepAllSpec.post enc Tryd.prog Tryd.f4 false true false false W args v W' := by
  have hW' := hW
  obtain ⟨p, q, hA0, hV, rfl, hfz, hnd⟩ := hW
  have hA : DataW.TrodAll enc Tryd.prog W 0 (fun _ => true) true Tryd.f4.params.toList args.toList ds p := hA0
  rw [Tryd.params4] at hA hval
  obtain ⟨v0, vs0, d0, ds0, p0, q0, hargs0, rfl, rfl, h0, r0⟩ := trodAll_cons hA
  obtain ⟨v1, vs1, d1, ds1, p1, q1, hargs1, rfl, rfl, h1, r1⟩ := trodAll_cons r0
  obtain ⟨rfl, rfl, rfl⟩ := trodAll_nil r1
  obtain rfl : args = #[v0, v1] := by cases args; simp_all
  obtain ⟨rfl, rfl⟩ := trodVars_none hV
  obtain ⟨a0, i0, b0, bn0⟩ := arg_vl (hval 0 26 v0 rfl rfl) h0
  obtain ⟨l1, i1, bl1, b1⟩ := arg_mvs (hval 1 36 v1 rfl rfl) h1
  have hW'' := hW'
  have bk : Rows.uptoBulkAll _ ≤ 1048576 := of_decide_eq_true hk
  simp only [List.append_nil, List.cons_append, List.nil_append, Rows.uptoBulkAll, Rows.uptoBulk, Array.length_toList] at bk
  have hL' : laidMet Tryd.prog Rows.stepAllUptoRow.laid W := hL
  have hU : Lib.Utf8Tabs 1 2 W := utf8Tabs_of_reads (ρ := Tryd.lays260_ren) Tryd.lays260 ⟨by kernel_rfl, by kernel_rfl, by kernel_rfl, by kernel_rfl, by kernel_rfl, by kernel_rfl, by kernel_rfl⟩ (by have := Lib.laidMet.reads hL' (.tail _ (.tail _ (.tail _ (.tail _ (.head _))))); rw [show Rows.laid_unicode_utf8_first = Lib.firstData from Pinned.utf8First_eq] at this; exact this) (by have := Lib.laidMet.reads hL' (.tail _ (.tail _ (.tail _ (.head _)))); rw [show Rows.laid_unicode_utf8_acceptRanges = Lib.acceptData by kernel_rfl] at this; exact this)
  have hp10 : Lib.TabIs Tryd.prog W "internal/strconv.uint64pow10" .u64 Lib.pow10Tab := tabIs_of_reads (g := 0) (t := 199) (e := 22) (n := 20) (by kernel_rfl) (by kernel_rfl) Tryd.underlying199 Tryd.underlying22 (by kernel_rfl) (by kernel_rfl) (by have := Lib.laidMet.reads hL' (.tail _ (.tail _ (.head _))); rw [show Rows.laid_internal_strconv_uint64pow10 = Lib.tabData .u64 Lib.pow10Tab by kernel_rfl] at this; exact this)
  have g0 : Tryd.prog.globalNamed "internal/strconv.uint64pow10" = some 0 := by kernel_rfl
  obtain ⟨curp, ep, fzp, hhp, _⟩ := cell_block (hp10.cell g0 0 (by decide))
  obtain ⟨cur0, e0, fz0, hh0, _⟩ := cell_block (hU.1 0 (by decide))
  obtain ⟨cur1, e1, fz1, hh1, _⟩ := cell_block (hU.2 0 (by decide)).1
  let G : Globs := ⟨[(0, .cells curp ep fzp), (1, .cells cur0 e0 fz0), (2, .cells cur1 e1 fz1)]⟩
  have hpw : @HasPow G := ⟨_, .head _, fun w k0 => tabIs_block g0 (k0.trans hhp.symm) hp10⟩
  have hu : @HasU8 G := ⟨_, _, .tail _ (.head _), .tail _ (.tail _ (.head _)), fun w k0 k1 => by
    have c0 : ∀ o, w.cell? ⟨1, o, none⟩ = W.cell? ⟨1, o, none⟩ := fun o => World.cell?_of_block (k0.trans hh0.symm)
    have c1 : ∀ o, w.cell? ⟨2, o, none⟩ = W.cell? ⟨2, o, none⟩ := fun o => World.cell?_of_block (k1.trans hh1.symm)
    exact ⟨fun c hc => (c0 c).trans (hU.1 c hc), fun i hi => ⟨(c1 _).trans (hU.2 i hi).1, (c1 _).trans (hU.2 i hi).2⟩⟩⟩
  have hG : @GlobOK G (fun _ => False) W := fun p hp => by
    rcases List.mem_cons.1 hp with rfl | hp
    · exact ⟨fun h => h, hhp⟩
    rcases List.mem_cons.1 hp with rfl | hp
    · exact ⟨fun h => h, hh0⟩
    · cases List.mem_singleton.1 hp
      exact ⟨fun h => h, hh1⟩
  refine ((s_lawS (G := G) hpw hu a0 l1 ⟨b0, by omega⟩ (fun m hm => by
    have h0 := sum_mem (m := bkM) hm
    have h1 : bkM m = bkV m.v + m.key.length + m.to.length + (m.p.map bkT).sum + 1 := rfl
    exact ⟨⟨(b1 m hm).2, by omega⟩, by omega, by omega⟩)).2 (fun _ => False) W [v0, v1] (fun _ h => h.elim) hG (All2.cons i0 (All2.cons i1 (All2.nil _)))).mono fun e W' ⟨v, he, hst, hv⟩ => ?_
  subst he
  cases hv
  have hb := hst.below
  have hlt : ∀ x : MemPlace, x ∈ (p0 ++ (p1 ++ [])) ++ [] → x.block < W.heap.size := fun x hx => hW''.lt x hx
  have hargs' : ∀ sp : Nat → Bool, (∀ x : MemPlace, x ∈ (p0 ++ (p1 ++ [])) ++ [] → sp x.block = true) → DataW.TrodAll enc Tryd.prog W' 0 sp true [26, 36] [v0, v1] [d0, d1] (p0 ++ (p1 ++ [])) := fun sp hsp =>
    trodAll_cons_mk (WideElems.Trod_stays laidOut (by kernel_rfl) (of_decide_eq_true (by kernel_rfl)) h0 (fun x hx => hb.same (hlt x (by simp [hx]))) (fun x hx => hsp x (by simp [hx]))) (trodAll_cons_mk (WideElems.Trod_stays laidOut (by kernel_rfl) (of_decide_eq_true (by kernel_rfl)) h1 (fun x hx => hb.same (hlt x (by simp [hx]))) (fun x hx => hsp x (by simp [hx]))) (trodAll_mk0))
  exact ⟨_, rfl, post_of_below (pa := p0 ++ (p1 ++ [])) (pv := []) hW'' (fun _ _ _ => (trodAll_cons_mk (shut_bool Tryd.underlying4 _) trodAll_mk0)) (fun sp hsp => hargs' sp hsp) (fun _ _ => rfl) rfl
    hb (ok_one (by kernel_rfl) rfl (okWide_bool_mk Tryd.underlying4 _))⟩
/-- a world for the witness: the tables as their initialisers lay them -/
def layB (cs : List Value) : Obj → Obj
  | .cells _ t frozen => .cells cs.toArray t frozen
  | o => o
noncomputable def laidWorld (os : Os) : World :=
  { World.holding Tryd.prog os ⟨#[], #[], []⟩ with
    heap := (((((World.holding Tryd.prog os ⟨#[], #[], []⟩).heap.modify 0 (layB (Lib.pow10Tab.map fun n => Value.int .u64 n))).modify 1 (layB (Pinned.utf8FirstZ.map fun (n : Nat) => Value.int .u8 (n : Int)))).modify 2
      (layB ([128, 191, 160, 191, 128, 159, 144, 191, 128, 143, 0, 0, 0, 0, 0, 0, 0, 0, 0, 0, 0, 0, 0, 0, 0, 0, 0, 0, 0, 0, 0, 0].map fun n => Value.int .u8 n))).modify 6
      (layB (Lib.deBruijn32tab.map fun (n : Nat) => Value.int .u8 (n : Int)))).modify 7 (layB (Lib.deBruijn64tab.map fun (n : Nat) => Value.int .u8 (n : Int))) }
theorem laid_met (os : Os) : laidMet Tryd.prog Rows.stepAllUptoRow.laid ((laidWorld os).forCall (fun _ _ => 0) ⟨#[], #[.agg #[.int .i64 0, .int .i64 0, .int .u64 0, .string .empty, .slice none 0 0, .slice none 0 0], .slice none 0 0], []⟩).memory :=
  laidMet_of_run' 8 (by kernel_rfl) (by kernel_rfl)
theorem reads (os : Os) {H : Type} (enc : TypeId × Value → H) : ∃ places, DataW.whole enc Tryd.prog ((laidWorld os).forCall (fun _ _ => 0) ⟨#[], #[.agg #[.int .i64 0, .int .i64 0, .int .u64 0, .string .empty, .slice none 0 0, .slice none 0 0], .slice none 0 0], []⟩).memory Tryd.f4.params.toList Rows.stepAllSpec.vars false #[.agg #[.int .i64 0, .int .i64 0, .int .u64 0, .string .empty, .slice none 0 0, .slice none 0 0], .slice none 0 0].toList 8 = some ([.agg [.lit (.int .i64 0), .lit (.int .i64 0), .lit (.int .u64 0), .lit (.string []), .nil, .nil], .nil], [], places) :=
  ⟨[], by kernel_rfl⟩
set_option maxRecDepth 100000 in
theorem lifted (os : Os) (started : os.Started) (H : Type) (enc : TypeId × Value → H) (F : Stop.Interp) :
    ReturnsInHanded {} Tryd.checked os 4 .any ((Rows.OpenSpec.upto Rows.stepAllSpec).preRow enc Tryd.prog Tryd.f4 Rows.stepAllUptoRow.domain false Rows.stepAllUptoRow.laid) (((Rows.OpenSpec.upto Rows.stepAllSpec).at F).post enc Tryd.prog Tryd.f4 false true false false) := by
  obtain ⟨places, hx⟩ := reads os enc
  refine returnsInHanded_of_row (C := Tryd.checked) (s := Rows.OpenSpec.upto Rows.stepAllSpec) own started (by kernel_rfl) Tryd.func4
    (witness_row_at (enc := enc) (C := Tryd.checked) false (laidWorld os) #[.agg #[.int .i64 0, .int .i64 0, .int .u64 0, .string .empty, .slice none 0 0, .slice none 0 0], .slice none 0 0] rfl (by kernel_rfl) (by kernel_rfl) (by kernel_rfl)
      (OpenSpec.preRow_of_cond 8 hx (by kernel_rfl) (fun k hk => by cases hk; kernel_rfl) (by kernel_rfl) (laid_met os))) ?_
  intro W base args ds gs before hval hW _ hcond _ hL _ _
  exact contract H enc W base args ds gs before hval hW (hcond _ rfl) hL
theorem said : Rows.StepAllUptoSaid :=
  OpenClaim.holds_of_cond 4 Tryd.f4 rfl rfl rfl rfl rfl rfl rfl ⟨rfl, rfl, rfl, rfl, rfl⟩ rfl rfl rfl rfl rfl (by kernel_rfl) Tryd.func4 (by kernel_rfl)
    (of_decide_eq_true (by kernel_rfl)) (by unfold Func.isWrapper; first | (rw [if_pos (by decide +kernel)]; kernel_rfl) | (rw [if_neg (by decide +kernel)]; exact ⟨rfl, rfl⟩))
    (fun os started H enc _ F => by rw [OpenClaim.pre_eq_preRow]; exact lifted os started H enc F)
theorem plain (f : FuncId) (fn : Func) (hf : Tryd.pinned.checked.prog.funcNamed "typecase/typecaselaw.StepAll" = some f) (hfn : Tryd.pinned.checked.prog.funcs[f]? = some fn) :
    true = Tryd.pinned.checked.prog.looks [] ∧ ∀ (j : Nat) t, fn.params[j]? = some t → Tryd.pinned.checked.prog.wantsStandIn t = false := by
  obtain rfl : f = 4 := Option.some.inj ((show Tryd.prog.funcNamed "typecase/typecaselaw.StepAll" = some 4 by kernel_rfl).symm.trans hf) |>.symm
  obtain rfl : fn = Tryd.f4 := (Option.some.inj (Tryd.func4.symm.trans hfn)).symm
  refine ⟨by kernel_rfl, fun j t ht => ?_⟩
  rw [Tryd.params4] at ht
  have hm := Array.mem_of_getElem? ht
  simp only [List.mem_toArray, List.mem_cons, List.not_mem_nil, or_false] at hm
  rcases hm with rfl | rfl
  · exact (show Tryd.prog.wantsStandIn 26 = false by kernel_rfl)
  · exact (show Tryd.prog.wantsStandIn 36 = false by kernel_rfl)
theorem proved : Rows.StepAllUptoCardSaid :=
  Claim7.holds_tied_plain_at .later [] _ _ _ _ said (fun _ h => by cases h) (by kernel_rfl) (fun _ h => by cases h) stepAllUpto_row_tie rfl ⟨rfl, rfl⟩ (by kernel_rfl) rfl plain (by kernel_rfl)

end Go.Proofs.YtmfchbkdakmjhaaDoor.stepAll
end
