/-
  'typecaselaw.PlaceTells' returns true, whatever the input, where what comes in is of bulk at most 1048576, and the input reads as it did. No conditions.
-/
import Derived.Test.YtjlbaagnoppfgaaPlD
import Derived.Test.YtjlbaagnoppfgaaSxArg
import Derived.Test.YtjlbaagnoppfgaaRows
import Derived.WalkKit
import Derived.ProofKit
import Derived.OpenShut
import Derived.JoinedCond
import Derived.ChangeMaps5
namespace Go.Proofs.Ytjlbaagnoppfgaa.placetells
open Go Go.SX Go.Spl
open Go.ChangeShapes Go.WideShapes Go.ChangeAt Go.RowKit
set_option maxRecDepth 100000
theorem own : ownKnob Try.prog.godebug = none := by kernel_rfl
theorem laidOut : laidOutB Try.prog = true := by kernel_rfl
theorem contract (H : Type) (enc : TypeId × Value → H) (W : World) (base : Nat) (args : Array Value) (ds gs : List (DataW H)) (before : List MemPlace)
    (hval : ∀ (j : Nat) t v, Try.f9.params[j]? = some t → args[j]? = some v → Value.okWide Try.prog W .any base t v)
    (hW : DataW.Whole enc Try.prog Try.f9.params.toList Rows.placeTellsSpec.vars false W args.toList ds gs before) (hk : Rows.uptoSmall H (ds ++ gs) = true) :
    Calls Try.prog 9 args W fun e W' => ∃ v, e = .returned v ∧ Rows.placeTellsSpec.post enc Try.prog Try.f9 false true false false W args v W' := by
  have hW' := hW
  obtain ⟨p, q, hA0, hV, rfl, hfz, hnd⟩ := hW
  have hA : DataW.TrodAll enc Try.prog W 0 (fun _ => true) true Try.f9.params.toList args.toList ds p := hA0
  rw [Try.params9] at hA hval
  obtain ⟨v0, vs0, d0, ds0, p0, q0, hargs0, rfl, rfl, h0, r0⟩ := trodAll_cons hA
  obtain ⟨v1, vs1, d1, ds1, p1, q1, hargs1, rfl, rfl, h1, r1⟩ := trodAll_cons r0
  obtain ⟨v2, vs2, d2, ds2, p2, q2, hargs2, rfl, rfl, h2, r2⟩ := trodAll_cons r1
  obtain ⟨v3, vs3, d3, ds3, p3, q3, hargs3, rfl, rfl, h3, r3⟩ := trodAll_cons r2
  obtain ⟨rfl, rfl, rfl⟩ := trodAll_nil r3
  obtain rfl : args = #[v0, v1, v2, v3] := by cases args; simp_all
  obtain ⟨rfl, rfl⟩ := trodVars_none hV
  obtain ⟨s0, rfl, rfl, rfl, hmax0⟩ := Go.ChangeMaps.open_string Try.underlying9 (hval 0 9 v0 rfl rfl) h0
  have i0 : Im (fun _ => False) W (.s s0.data.toList) (.string s0) := by have := Im.s (O := fun _ => False) (w := W) s0.data.toList (by rw [Array.length_toList]; exact hmax0); simpa using this
  obtain ⟨n1, rfl, rfl, rfl, hwf1⟩ := open_int Try.underlying3 (hval 1 3 v1 rfl rfl) h1
  have i1 : Im (fun _ => False) W (.i .i64 n1) (.int .i64 n1) := .i _ _
  have b1 : (-9223372036854775808 : Int) ≤ n1 ∧ n1 ≤ (9223372036854775807 : Int) := wf_i64 hwf1
  obtain ⟨n2, rfl, rfl, rfl, hwf2⟩ := open_int Try.underlying3 (hval 2 3 v2 rfl rfl) h2
  have i2 : Im (fun _ => False) W (.i .i64 n2) (.int .i64 n2) := .i _ _
  have b2 : (-9223372036854775808 : Int) ≤ n2 ∧ n2 ≤ (9223372036854775807 : Int) := wf_i64 hwf2
  obtain ⟨n3, rfl, rfl, rfl, hwf3⟩ := open_int Try.underlying3 (hval 3 3 v3 rfl rfl) h3
  have i3 : Im (fun _ => False) W (.i .i64 n3) (.int .i64 n3) := .i _ _
  have b3 : (-9223372036854775808 : Int) ≤ n3 ∧ n3 ≤ (9223372036854775807 : Int) := wf_i64 hwf3
  have hW'' := hW'
  have bk : Rows.uptoBulkAll _ ≤ 1048576 := of_decide_eq_true hk
  simp only [List.append_nil, List.cons_append, List.nil_append, Rows.uptoBulkAll, Rows.uptoBulk, Array.length_toList] at bk
  refine ((spec9 s0.data.toList n1 n2 n3 (by rw [Array.length_toList]; omega) b3.2 b2.1).2 (fun _ => False) W [.string s0, .int .i64 n1, .int .i64 n2, .int .i64 n3] (fun _ h => h.elim) (All2.cons i0 (All2.cons i1 (All2.cons i2 (All2.cons i3 (All2.nil _)))))).mono fun e W' ⟨v, he, hst, hv⟩ => ?_
  subst he
  cases hv
  have hb := hst.below
  have hlt : ∀ x : MemPlace, x ∈ ([] ++ ([] ++ ([] ++ ([] ++ [])))) ++ [] → x.block < W.heap.size := fun x hx => hW''.lt x hx
  have hargs' : ∀ sp : Nat → Bool, (∀ x : MemPlace, x ∈ ([] ++ ([] ++ ([] ++ ([] ++ [])))) ++ [] → sp x.block = true) → DataW.TrodAll enc Try.prog W' 0 sp true [9, 3, 3, 3] [.string s0, .int .i64 n1, .int .i64 n2, .int .i64 n3] [.lit (.string s0.data.toList), .lit (.int .i64 n1), .lit (.int .i64 n2), .lit (.int .i64 n3)] ([] ++ ([] ++ ([] ++ ([] ++ [])))) := fun sp hsp =>
    trodAll_cons_mk (Go.ChangeMaps.shut_string Try.underlying9 hmax0) (trodAll_cons_mk (shut_int Try.underlying3 hwf1) (trodAll_cons_mk (shut_int Try.underlying3 hwf2) (trodAll_cons_mk (shut_int Try.underlying3 hwf3) (trodAll_mk0))))
  exact ⟨_, rfl, post_of_below (pa := [] ++ ([] ++ ([] ++ ([] ++ [])))) (pv := []) hW'' (fun _ _ _ => (trodAll_cons_mk (shut_bool Try.underlying4 _) trodAll_mk0)) (fun sp hsp => hargs' sp hsp) (fun _ _ => rfl) rfl
    hb (ok_one (by kernel_rfl) rfl (okWide_bool_mk Try.underlying4 _))⟩
set_option maxRecDepth 100000 in
theorem lifted (os : Os) (started : os.Started) (H : Type) (enc : TypeId × Value → H) (F : Stop.Interp) :
    ReturnsInHanded {} Try.checked os 9 .any ((Rows.OpenSpec.upto Rows.placeTellsSpec).pre6 enc Try.prog Try.f9 Rows.placeTellsUptoRow.domain false) (((Rows.OpenSpec.upto Rows.placeTellsSpec).at F).post enc Try.prog Try.f9 false true false false) := by
  refine returnsInHanded_of_cond (C := Try.checked) (s := Rows.OpenSpec.upto Rows.placeTellsSpec) (k := Rows.uptoSmall) rfl own started (by kernel_rfl) Try.func9
    (OpenSpec.witness (enc := enc) (C := Try.checked) (s := Rows.OpenSpec.upto Rows.placeTellsSpec) (k := Rows.uptoSmall) rfl false ⟨#[], #[.string .empty, .int .i64 0, .int .i64 0, .int .i64 0], []⟩ 8 (by kernel_rfl) (by kernel_rfl) (by kernel_rfl)
      (x := ([.lit (.string []), .lit (.int .i64 0), .lit (.int .i64 0), .lit (.int .i64 0)], [], [])) (by kernel_rfl) rfl (by kernel_rfl)) ?_
  intro W base args ds gs before hval hW _ hk _
  exact contract H enc W base args ds gs before hval hW hk

theorem proved : Rows.PlaceTellsUptoSaid :=
  OpenClaim.holds_of_cond 9 Try.f9 rfl rfl rfl rfl rfl rfl rfl ⟨rfl, rfl, rfl, rfl, rfl⟩ rfl rfl rfl rfl rfl (by kernel_rfl) Try.func9 (by kernel_rfl)
    (of_decide_eq_true (by kernel_rfl)) (by unfold Func.isWrapper; first | (rw [if_pos (by decide +kernel)]; kernel_rfl) | (rw [if_neg (by decide +kernel)]; exact ⟨rfl, rfl⟩))
    (fun os started H enc _ F => lifted os started H enc F)
#print axioms proved
end Go.Proofs.Ytjlbaagnoppfgaa.placetells
