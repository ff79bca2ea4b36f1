/-
  'typecaselaw.ChainPlans' returns true, whatever the input, and the input reads as it did. No conditions.
-/
import Derived.Test.YtjlbaagnoppfgaaChainD
import Derived.Test.YtjlbaagnoppfgaaSxArg3
import Derived.Test.YtjlbaagnoppfgaaRows
import Derived.WalkKit
import Derived.ProofKit
import Derived.OpenShut
import Derived.JoinedCond
import Derived.ChangeMaps5
namespace Go.Proofs.Ytjlbaagnoppfgaa.chainPlans
set_option linter.unusedSectionVars false
set_option linter.unusedSimpArgs false
set_option linter.unusedVariables false
open Go Go.SX Go.Ch
open Go.ChangeShapes Go.WideShapes Go.ChangeAt Go.RowKit
set_option maxRecDepth 100000
theorem own : ownKnob Try.prog.godebug = none := by kernel_rfl
theorem laidOut : laidOutB Try.prog = true := by kernel_rfl
noncomputable def vty [G : Globs] : VTy Try.prog 94 where
  fs := _
  gs := _
  K := 3
  N := 2
  U := 61
  S := 9
  L := 91
  E := 92
  En := 167
  hV := Try.underlying94
  cV := by kernel_rfl
  h0 := ⟨_, rfl, rfl, rfl⟩
  h1 := ⟨_, rfl, rfl, rfl⟩
  h2 := ⟨_, rfl, rfl, rfl⟩
  h3 := ⟨_, rfl, rfl, rfl⟩
  h4 := ⟨_, rfl, rfl, rfl⟩
  h5 := ⟨_, rfl, rfl, rfl⟩
  uK := Try.underlying3
  uN := Try.underlying2
  uU := Try.underlying61
  uS := Try.underlying9
  uL := Try.underlying91
  uE := Try.underlying92
  c := ⟨by kernel_rfl, by kernel_rfl, by kernel_rfl, by kernel_rfl, by kernel_rfl, by kernel_rfl⟩
  hE := Try.underlying167
  cE := by kernel_rfl
  g0 := ⟨_, rfl, rfl, rfl⟩
  g1 := ⟨_, rfl, rfl, rfl⟩
noncomputable def mty [G : Globs] : MTy Try.prog 215 where
  fs := _
  K := 3
  Q := 72
  S := 9
  V := 94
  T := vty
  hM := Try.underlying215
  cM := by kernel_rfl
  h0 := ⟨_, rfl, rfl, rfl⟩
  h1 := ⟨_, rfl, rfl, rfl⟩
  h2 := ⟨_, rfl, rfl, rfl⟩
  h3 := ⟨_, rfl, rfl, rfl⟩
  h4 := ⟨_, rfl, rfl, rfl⟩
  uK := Try.underlying3
  uQ := Try.underlying72
  uS := Try.underlying9
  c := ⟨by kernel_rfl, by kernel_rfl, by kernel_rfl⟩
noncomputable def kty [G : Globs] : KTy Try.prog 107 where
  fs := _
  K := 3
  Q := 105
  M := 215
  T := mty
  hL := Try.underlying107
  cL := by kernel_rfl
  h0 := ⟨_, rfl, rfl, rfl⟩
  h1 := ⟨_, rfl, rfl, rfl⟩
  h2 := ⟨_, rfl, rfl, rfl⟩
  uK := Try.underlying3
  uQ := Try.underlying105
  c := ⟨by kernel_rfl, by kernel_rfl⟩
/-- an argument that is a list -/
theorem arg_links {H : Type} {enc : TypeId × Value → H} {W : World} {v : Value} {d : DataW H} {ps : List MemPlace} {r : Reach} {b : Nat} (hval : Value.okWide Try.prog W r b 27 v)
    (h : DataW.Trod enc Try.prog W 0 (fun _ => true) true 27 v d ps) : ∃ l : List (den .link), Im (fun _ => False) W (.rd .link l) v ∧ ∀ x ∈ l, KB x := by
  obtain ⟨a, n, c, rfl⟩ := okWide_slice Try.underlying27 hval
  obtain ⟨fuel, hf⟩ := h
  letI : Globs := ⟨[]⟩
  obtain ⟨l, v', h1, h2, h3⟩ := arg_sliceF (O := fun _ => False) (τ := .link) (R := KB) (fun _ h => h) Try.underlying27 (by kernel_rfl) (fun n _ cs x hx => arg_link kty (fun _ h => h) hx) hf
  have : [Value.slice a n c] = [v'] := by simpa [Value.cells] using h1
  injection this with h4
  subst h4
  exact ⟨l, h2, h3⟩
theorem contract (H : Type) (enc : TypeId × Value → H) (W : World) (base : Nat) (args : Array Value) (ds gs : List (DataW H)) (before : List MemPlace)
    (hval : ∀ (j : Nat) t v, Try.f4.params[j]? = some t → args[j]? = some v → Value.okWide Try.prog W .any base t v)
    (hW : DataW.Whole enc Try.prog Try.f4.params.toList Rows.chainPlansSpec.vars false W args.toList ds gs before) :
    Calls Try.prog 4 args W fun e W' => ∃ v, e = .returned v ∧ Rows.chainPlansSpec.post enc Try.prog Try.f4 false true false false W args v W' := by
  have hW' := hW
  obtain ⟨p, q, hA0, hV, rfl, hfz, hnd⟩ := hW
  have hA : DataW.TrodAll enc Try.prog W 0 (fun _ => true) true Try.f4.params.toList args.toList ds p := hA0
  rw [Try.params4] at hA hval
  obtain ⟨v0, vs0, d0, ds0, p0, q0, hargs0, rfl, rfl, h0, r0⟩ := trodAll_cons hA
  obtain ⟨v1, vs1, d1, ds1, p1, q1, hargs1, rfl, rfl, h1, r1⟩ := trodAll_cons r0
  obtain ⟨v2, vs2, d2, ds2, p2, q2, hargs2, rfl, rfl, h2, r2⟩ := trodAll_cons r1
  obtain ⟨rfl, rfl, rfl⟩ := trodAll_nil r2
  obtain rfl : args = #[v0, v1, v2] := by cases args; simp_all
  obtain ⟨rfl, rfl⟩ := trodVars_none hV
  obtain ⟨l0, i0, b0⟩ := arg_links (hval 0 27 v0 rfl rfl) h0
  obtain ⟨n1, rfl, rfl, rfl, hwf1⟩ := open_int Try.underlying3 (hval 1 3 v1 rfl rfl) h1
  have i1 : Im (fun _ => False) W (.i .i64 n1) (.int .i64 n1) := .i _ _
  have b1 : (-9223372036854775808 : Int) ≤ n1 ∧ n1 ≤ (9223372036854775807 : Int) := (letI : Globs := ⟨[]⟩; wf_i64 hwf1)
  obtain ⟨n2, rfl, rfl, rfl, hwf2⟩ := open_int Try.underlying3 (hval 2 3 v2 rfl rfl) h2
  have i2 : Im (fun _ => False) W (.i .i64 n2) (.int .i64 n2) := .i _ _
  have b2 : (-9223372036854775808 : Int) ≤ n2 ∧ n2 ≤ (9223372036854775807 : Int) := (letI : Globs := ⟨[]⟩; wf_i64 hwf2)
  have hW'' := hW'
  refine (((s_chainPlans l0 n1 n2)).2 (fun _ => False) W [v0, .int .i64 n1, .int .i64 n2] (fun _ h => h.elim) (fun _ hp => nomatch hp) (All2.cons i0 (All2.cons i1 (All2.cons i2 (All2.nil _))))).mono fun e W' ⟨v, he, hst, hv⟩ => ?_
  subst he
  cases hv
  have hb := hst.below
  have hlt : ∀ x : MemPlace, x ∈ (p0 ++ ([] ++ ([] ++ []))) ++ [] → x.block < W.heap.size := fun x hx => hW''.lt x hx
  have hargs' : ∀ sp : Nat → Bool, (∀ x : MemPlace, x ∈ (p0 ++ ([] ++ ([] ++ []))) ++ [] → sp x.block = true) → DataW.TrodAll enc Try.prog W' 0 sp true [27, 3, 3] [v0, .int .i64 n1, .int .i64 n2] [d0, .lit (.int .i64 n1), .lit (.int .i64 n2)] (p0 ++ ([] ++ ([] ++ []))) := fun sp hsp =>
    trodAll_cons_mk (WideElems.Trod_stays laidOut (by kernel_rfl) (of_decide_eq_true (by kernel_rfl)) h0 (fun x hx => hb.same (hlt x (by simp [hx]))) (fun x hx => hsp x (by simp [hx]))) (trodAll_cons_mk (shut_int Try.underlying3 hwf1) (trodAll_cons_mk (shut_int Try.underlying3 hwf2) (trodAll_mk0)))
  exact ⟨_, rfl, post_of_below (pa := p0 ++ ([] ++ ([] ++ []))) (pv := []) hW'' (fun _ _ _ => (trodAll_cons_mk (shut_bool Try.underlying4 _) trodAll_mk0)) (fun sp hsp => hargs' sp hsp) (fun _ _ => rfl) rfl
    hb (ok_one (by kernel_rfl) rfl (okWide_bool_mk Try.underlying4 _))⟩
theorem lifted (os : Os) (started : os.Started) (H : Type) (enc : TypeId × Value → H) :
    ReturnsInHanded {} Try.checked os 4 .any (Rows.chainPlansSpec.pre6 enc Try.prog Try.f4 Rows.chainPlansRow.domain false) (Rows.chainPlansSpec.post enc Try.prog Try.f4 false true false false) := by
  refine returnsInHanded_of_change (C := Try.checked) own started (by kernel_rfl) Try.func4
    (ChangeSpec.witness6 (enc := enc) (C := Try.checked) false ⟨#[], #[.slice none 0 0, .int .i64 0, .int .i64 0], []⟩ 8 (by kernel_rfl) (by kernel_rfl) (by kernel_rfl) (by kernel_rfl)) ?_
  intro W base args ds gs before hval hW _ _
  exact contract H enc W base args ds gs before hval hW

theorem proved : Rows.ChainPlansSaid :=
  OpenClaim.holds_of_wide 4 Try.f4 rfl rfl rfl rfl rfl rfl rfl ⟨rfl, rfl, rfl, rfl, rfl⟩ rfl rfl rfl rfl rfl (by kernel_rfl) Try.func4 (by kernel_rfl)
    (of_decide_eq_true (by kernel_rfl)) (by unfold Func.isWrapper; first | (rw [if_pos (by decide +kernel)]; kernel_rfl) | (rw [if_neg (by decide +kernel)]; exact ⟨rfl, rfl⟩))
    (fun os started H enc _ => lifted os started H enc)
#print axioms proved
end Go.Proofs.Ytjlbaagnoppfgaa.chainPlans
