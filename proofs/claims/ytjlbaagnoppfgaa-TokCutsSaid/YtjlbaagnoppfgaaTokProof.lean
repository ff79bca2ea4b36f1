/-
  'typecaselaw.TokCuts' returns true, whatever the input, and the input reads as it did. No conditions.
-/
import Derived.Test.YtjlbaagnoppfgaaTokE
import Derived.Test.YtjlbaagnoppfgaaSxArg
import Derived.Test.YtjlbaagnoppfgaaRows
import Derived.WalkKit
import Derived.ProofKit
import Derived.OpenShut
import Derived.JoinedCond
import Derived.ChangeMaps5
import Derived.HandedShaped
namespace Go.Proofs.Ytjlbaagnoppfgaa.tokCuts
set_option linter.unusedSectionVars false
set_option linter.unusedSimpArgs false
set_option linter.unusedVariables false
open Go Go.SX Go.Spl
open Go.ChangeShapes Go.WideShapes Go.ChangeAt Go.RowKit
set_option maxRecDepth 100000
theorem own : ownKnob Try.prog.godebug = none := by kernel_rfl
theorem laidOut : laidOutB Try.prog = true := by kernel_rfl
theorem cell_block {w : World} {g o : Nat} {k : IntKind} {n : Int} (h : w.cell? ⟨g, o, none⟩ = some (.int k n)) : ∃ cur e fz, w.heap[g]? = some (.cells cur e fz) ∧ cur[o]? = some (.int k n) := by
  unfold World.cell? at h
  split at h
  · rename_i cur e fz hh
    exact ⟨_, _, _, hh, by simpa using h⟩
  · cases h
theorem contract (H : Type) (enc : TypeId × Value → H) (W : World) (base : Nat) (args : Array Value) (ds gs : List (DataW H)) (before : List MemPlace)
    (hval : ∀ (j : Nat) t v, Try.f12.params[j]? = some t → args[j]? = some v → Value.okWide Try.prog W .any base t v)
    (hW : DataW.Whole enc Try.prog Try.f12.params.toList Rows.tokCutsSpec.vars false W args.toList ds gs before) (hsh : W.ShapedOpen Try.prog) :
    Calls Try.prog 12 args W fun e W' => ∃ v, e = .returned v ∧ Rows.tokCutsSpec.post enc Try.prog Try.f12 false true false false W args v W' := by
  have hW' := hW
  obtain ⟨p, q, hA0, hV, rfl, hfz, hnd⟩ := hW
  have hA : DataW.TrodAll enc Try.prog W 0 (fun _ => true) true Try.f12.params.toList args.toList ds p := hA0
  rw [Try.params12] at hA hval
  obtain ⟨v0, vs0, d0, ds0, p0, q0, hargs0, rfl, rfl, h0, r0⟩ := trodAll_cons hA
  obtain ⟨v1, vs1, d1, ds1, p1, q1, hargs1, rfl, rfl, h1, r1⟩ := trodAll_cons r0
  obtain ⟨rfl, rfl, rfl⟩ := trodAll_nil r1
  obtain rfl : args = #[v0, v1] := by cases args; simp_all
  obtain ⟨rfl, rfl⟩ := trodVars_none hV
  obtain ⟨s0, rfl, rfl, rfl, hmax0⟩ := Go.ChangeMaps.open_string Try.underlying9 (hval 0 9 v0 rfl rfl) h0
  have i0 : Im (fun _ => False) W (.s s0.data.toList) (.string s0) := by have := Im.s (O := fun _ => False) (w := W) s0.data.toList (by rw [Array.length_toList]; exact hmax0); simpa using this
  obtain ⟨n1, rfl, rfl, rfl, hwf1⟩ := open_int Try.underlying3 (hval 1 3 v1 rfl rfl) h1
  have i1 : Im (fun _ => False) W (.i .i64 n1) (.int .i64 n1) := .i _ _
  have b1 : (-9223372036854775808 : Int) ≤ n1 ∧ n1 ≤ (9223372036854775807 : Int) := wf_i64 hwf1
  have hW'' := hW'
  obtain ⟨m, hm⟩ := Try.laysM143.s1_3 W hsh
  obtain ⟨cur, e0, fz, hh, hcur⟩ := cell_block hm
  let G : Globs := ⟨[(1, .cells cur e0 fz)]⟩
  have hml : @HasML G := ⟨m, cur, e0, fz, List.mem_singleton.2 rfl, hcur⟩
  have hG : @GlobOK G (fun _ => False) W := fun p hp => by
    cases List.mem_singleton.1 hp
    exact ⟨fun h => h, hh⟩
  refine ((s_law (G := G) hml s0.data.toList n1).2 (fun _ => False) W [.string s0, .int .i64 n1] (fun _ h => h.elim) hG (All2.cons i0 (All2.cons i1 (All2.nil _)))).mono fun e W' ⟨v, he, hst, hv⟩ => ?_
  subst he
  cases hv
  have hb := hst.below
  have hlt : ∀ x : MemPlace, x ∈ ([] ++ ([] ++ [])) ++ [] → x.block < W.heap.size := fun x hx => hW''.lt x hx
  have hargs' : ∀ sp : Nat → Bool, (∀ x : MemPlace, x ∈ ([] ++ ([] ++ [])) ++ [] → sp x.block = true) → DataW.TrodAll enc Try.prog W' 0 sp true [9, 3] [.string s0, .int .i64 n1] [.lit (.string s0.data.toList), .lit (.int .i64 n1)] ([] ++ ([] ++ [])) := fun sp hsp =>
    trodAll_cons_mk (Go.ChangeMaps.shut_string Try.underlying9 hmax0) (trodAll_cons_mk (shut_int Try.underlying3 hwf1) (trodAll_mk0))
  exact ⟨_, rfl, post_of_below (pa := [] ++ ([] ++ [])) (pv := []) hW'' (fun _ _ _ => (trodAll_cons_mk (shut_bool Try.underlying4 _) trodAll_mk0)) (fun sp hsp => hargs' sp hsp) (fun _ _ => rfl) rfl
    hb (ok_one (by kernel_rfl) rfl (okWide_bool_mk Try.underlying4 _))⟩
theorem lifted (os : Os) (started : os.Started) (H : Type) (enc : TypeId × Value → H) :
    ReturnsInHanded {} Try.checked os 12 .any (Rows.tokCutsSpec.pre6 enc Try.prog Try.f12 Rows.tokCutsRow.domain false) (Rows.tokCutsSpec.post enc Try.prog Try.f12 false true false false) := by
  refine returnsInHanded_of_change_shaped (C := Try.checked) own started (by kernel_rfl) Try.func12
    (ChangeSpec.witness6 (enc := enc) (C := Try.checked) false ⟨#[], #[.string .empty, .int .i64 0], []⟩ 8 (by kernel_rfl) (by kernel_rfl) (by kernel_rfl) (by kernel_rfl)) ?_
  intro W base args ds gs before hval hW _ _ hsh _
  exact contract H enc W base args ds gs before hval hW hsh

theorem proved : Rows.TokCutsSaid :=
  OpenClaim.holds_of_wide 12 Try.f12 rfl rfl rfl rfl rfl rfl rfl ⟨rfl, rfl, rfl, rfl, rfl⟩ rfl rfl rfl rfl rfl (by kernel_rfl) Try.func12 (by kernel_rfl)
    (of_decide_eq_true (by kernel_rfl)) (by unfold Func.isWrapper; first | (rw [if_pos (by decide +kernel)]; kernel_rfl) | (rw [if_neg (by decide +kernel)]; exact ⟨rfl, rfl⟩))
    (fun os started H enc _ => lifted os started H enc)
#print axioms proved
end Go.Proofs.Ytjlbaagnoppfgaa.tokCuts
