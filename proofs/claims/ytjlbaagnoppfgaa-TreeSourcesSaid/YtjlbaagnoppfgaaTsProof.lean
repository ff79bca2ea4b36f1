/-
  'typecaselaw.TreeSources' returns true, whatever the input, and the input reads as it did. No conditions.
-/
import Derived.Test.YtjlbaagnoppfgaaTsA
import Derived.Test.YtjlbaagnoppfgaaSxArg
import Derived.Test.YtjlbaagnoppfgaaRows
import Derived.WalkKit
import Derived.ProofKit
import Derived.OpenShut
import Derived.JoinedCond
import Derived.ChangeMaps5
import Derived.HandedShaped
namespace Go.Proofs.Ytjlbaagnoppfgaa.treeSources
set_option linter.unusedSectionVars false
set_option linter.unusedSimpArgs false
set_option linter.unusedVariables false
open Go Go.SX Go.Spl
open Go.ChangeShapes Go.WideShapes Go.ChangeAt Go.RowKit
set_option maxRecDepth 100000
theorem own : ownKnob Try.prog.godebug = none := by kernel_rfl
theorem laidOut : laidOutB Try.prog = true := by kernel_rfl
theorem cell_block {w : World} {g o : Nat} {k : IntKind} {n : Int} (h : w.cell? ⟨g, o, none⟩ = some (.int k n)) : ∃ cur e fz, w.heap[g]? = some (.cells cur e fz) ∧ cur[o]? = some (.int k n) := by
  unfold World.cell? at h
  split at h
  · rename_i cur e fz hh
    exact ⟨_, _, _, hh, by simpa using h⟩
  · cases h
/-- an argument that is a node -/
theorem arg_nd {H : Type} {enc : TypeId × Value → H} {W : World} {v : Value} {d : DataW H} {ps : List MemPlace} {r : Reach} {b : Nat} (hval : Value.okWide Try.prog W r b 83 v)
    (h : DataW.Trod enc Try.prog W 0 (fun _ => true) true 83 v d ps) : ∃ k a e : Int, Im (fun _ => False) W (.agg [.i .i64 k, .i .i64 a, .i .i64 e, .x]) v ∧ (-9223372036854775808 : Int) ≤ e ∧ e ≤ (9223372036854775807 : Int) := by
  obtain ⟨cs, rfl, _⟩ := okWide_struct Try.underlying83 hval
  obtain ⟨fuel, hf⟩ := h
  obtain ⟨k, a, e, u, h1, h2, h3⟩ := arg_node (e := 83) Try.underlying83 (by kernel_rfl) ⟨rfl, rfl, rfl, rfl⟩ ⟨by kernel_rfl, by kernel_rfl, by kernel_rfl, by kernel_rfl⟩ (by kernel_rfl) (by kernel_rfl) (by kernel_rfl) (by kernel_rfl) hf
  obtain ⟨l⟩ := cs
  have h1 : l = [.int .i64 k, .int .i64 a, .int .i64 e, u] := by simpa [Value.cells] using h1
  subst h1
  refine ⟨k, a, e, .agg _ [.int .i64 k, .int .i64 a, .int .i64 e, u] rfl (fun v hv => ?_) (fun j av v hav hv => ?_), wf_i64 h3⟩
  · simp only [List.mem_cons, List.not_mem_nil, or_false] at hv
    rcases hv with rfl | rfl | rfl | rfl
    · rfl
    · rfl
    · rfl
    · exact h2
  · match j with
    | 0 => simp at hav hv; subst hav hv; exact .i _ _
    | 1 => simp at hav hv; subst hav hv; exact .i _ _
    | 2 => simp at hav hv; subst hav hv; exact .i _ _
    | 3 => simp at hav hv; subst hav hv; exact .x _
    | j + 4 => simp at hav
theorem contract (H : Type) (enc : TypeId × Value → H) (W : World) (base : Nat) (args : Array Value) (ds gs : List (DataW H)) (before : List MemPlace)
    (hval : ∀ (j : Nat) t v, Try.f10.params[j]? = some t → args[j]? = some v → Value.okWide Try.prog W .any base t v)
    (hW : DataW.Whole enc Try.prog Try.f10.params.toList Rows.treeSourcesSpec.vars false W args.toList ds gs before) (hsh : W.ShapedOpen Try.prog) :
    Calls Try.prog 10 args W fun e W' => ∃ v, e = .returned v ∧ Rows.treeSourcesSpec.post enc Try.prog Try.f10 false true false false W args v W' := by
  have hW' := hW
  obtain ⟨p, q, hA0, hV, rfl, hfz, hnd⟩ := hW
  have hA : DataW.TrodAll enc Try.prog W 0 (fun _ => true) true Try.f10.params.toList args.toList ds p := hA0
  rw [Try.params10] at hA hval
  obtain ⟨v0, vs0, d0, ds0, p0, q0, hargs0, rfl, rfl, h0, r0⟩ := trodAll_cons hA
  obtain ⟨v1, vs1, d1, ds1, p1, q1, hargs1, rfl, rfl, h1, r1⟩ := trodAll_cons r0
  obtain ⟨rfl, rfl, rfl⟩ := trodAll_nil r1
  obtain rfl : args = #[v0, v1] := by cases args; simp_all
  obtain ⟨rfl, rfl⟩ := trodVars_none hV
  obtain ⟨s0, rfl, rfl, rfl, hmax0⟩ := Go.ChangeMaps.open_string Try.underlying9 (hval 0 9 v0 rfl rfl) h0
  have i0 : Im (fun _ => False) W (.s s0.data.toList) (.string s0) := by have := Im.s (O := fun _ => False) (w := W) s0.data.toList (by rw [Array.length_toList]; exact hmax0); simpa using this
  obtain ⟨k1, a1, e1, i1, b1⟩ := arg_nd (hval 1 83 v1 rfl rfl) h1
  have hW'' := hW'
  obtain ⟨m, hm⟩ := Try.laysM143.s1_3 W hsh
  obtain ⟨cur, e0, fz, hh, hcur⟩ := cell_block hm
  let G : Globs := ⟨[(1, .cells cur e0 fz)]⟩
  have hml : @HasML G := ⟨m, cur, e0, fz, List.mem_singleton.2 rfl, hcur⟩
  have hG : @GlobOK G (fun _ => False) W := fun p hp => by
    cases List.mem_singleton.1 hp
    exact ⟨fun h => h, hh⟩
  refine ((s_tsLaw (G := G) hml s0.data.toList k1 a1 e1 b1.2).2 (fun _ => False) W [.string s0, v1] (fun _ h => h.elim) hG (All2.cons i0 (All2.cons i1 (All2.nil _)))).mono fun e W' ⟨v, he, hst, hv⟩ => ?_
  subst he
  cases hv
  have hb := hst.below
  have hlt : ∀ x : MemPlace, x ∈ ([] ++ (p1 ++ [])) ++ [] → x.block < W.heap.size := fun x hx => hW''.lt x hx
  have hargs' : ∀ sp : Nat → Bool, (∀ x : MemPlace, x ∈ ([] ++ (p1 ++ [])) ++ [] → sp x.block = true) → DataW.TrodAll enc Try.prog W' 0 sp true [9, 83] [.string s0, v1] [.lit (.string s0.data.toList), d1] ([] ++ (p1 ++ [])) := fun sp hsp =>
    trodAll_cons_mk (Go.ChangeMaps.shut_string Try.underlying9 hmax0) (trodAll_cons_mk (WideElems.Trod_stays laidOut (by kernel_rfl) (of_decide_eq_true (by kernel_rfl)) h1 (fun x hx => hb.same (hlt x (by simp [hx]))) (fun x hx => hsp x (by simp [hx]))) (trodAll_mk0))
  exact ⟨_, rfl, post_of_below (pa := [] ++ (p1 ++ [])) (pv := []) hW'' (fun _ _ _ => (trodAll_cons_mk (shut_bool Try.underlying4 _) trodAll_mk0)) (fun sp hsp => hargs' sp hsp) (fun _ _ => rfl) rfl
    hb (ok_one (by kernel_rfl) rfl (okWide_bool_mk Try.underlying4 _))⟩
theorem lifted (os : Os) (started : os.Started) (H : Type) (enc : TypeId × Value → H) :
    ReturnsInHanded {} Try.checked os 10 .any (Rows.treeSourcesSpec.pre6 enc Try.prog Try.f10 Rows.treeSourcesRow.domain false) (Rows.treeSourcesSpec.post enc Try.prog Try.f10 false true false false) := by
  refine returnsInHanded_of_change_shaped (C := Try.checked) own started (by kernel_rfl) Try.func10
    (ChangeSpec.witness6 (enc := enc) (C := Try.checked) false ⟨#[], #[.string .empty, .agg #[.int .i64 0, .int .i64 0, .int .i64 0, .slice none 0 0]], []⟩ 8 (by kernel_rfl) (by kernel_rfl) (by kernel_rfl) (by kernel_rfl)) ?_
  intro W base args ds gs before hval hW _ _ hsh _
  exact contract H enc W base args ds gs before hval hW hsh

theorem proved : Rows.TreeSourcesSaid :=
  OpenClaim.holds_of_wide 10 Try.f10 rfl rfl rfl rfl rfl rfl rfl ⟨rfl, rfl, rfl, rfl, rfl⟩ rfl rfl rfl rfl rfl (by kernel_rfl) Try.func10 (by kernel_rfl)
    (of_decide_eq_true (by kernel_rfl)) (by unfold Func.isWrapper; first | (rw [if_pos (by decide +kernel)]; kernel_rfl) | (rw [if_neg (by decide +kernel)]; exact ⟨rfl, rfl⟩))
    (fun os started H enc _ => lifted os started H enc)
#print axioms proved
end Go.Proofs.Ytjlbaagnoppfgaa.treeSources
