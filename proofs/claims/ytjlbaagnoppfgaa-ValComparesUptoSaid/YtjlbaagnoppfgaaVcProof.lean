/-
  'typecaselaw.ValCompares' returns true, whatever the input, where what comes in is of bulk at most 1048576, and the input reads as it did. No conditions.
-/
import Derived.Test.YtjlbaagnoppfgaaValH
import Derived.Test.YtjlbaagnoppfgaaSxArg4
import Derived.Test.YtjlbaagnoppfgaaRows
import Derived.WalkKit
import Derived.ProofKit
import Derived.OpenShut
import Derived.JoinedCond
import Derived.ChangeMaps5
namespace Go.Proofs.Ytjlbaagnoppfgaa.valCompares
set_option linter.unusedSectionVars false
set_option linter.unusedSimpArgs false
set_option linter.unusedVariables false
open Go Go.SX Go.Vl
open Go.ChangeShapes Go.WideShapes Go.ChangeAt Go.RowKit
set_option maxRecDepth 100000
theorem own : ownKnob Try.prog.godebug = none := by kernel_rfl
theorem laidOut : laidOutB Try.prog = true := by kernel_rfl
noncomputable def vty [G : Globs] : VTy Try.prog 94 where
  fs := _
  gs := _
  K := 3
  N := 2
  U := 61
  S := 9
  L := 91
  E := 92
  En := 167
  hV := Try.underlying94
  cV := by kernel_rfl
  h0 := ⟨_, rfl, rfl, rfl⟩
  h1 := ⟨_, rfl, rfl, rfl⟩
  h2 := ⟨_, rfl, rfl, rfl⟩
  h3 := ⟨_, rfl, rfl, rfl⟩
  h4 := ⟨_, rfl, rfl, rfl⟩
  h5 := ⟨_, rfl, rfl, rfl⟩
  uK := Try.underlying3
  uN := Try.underlying2
  uU := Try.underlying61
  uS := Try.underlying9
  uL := Try.underlying91
  uE := Try.underlying92
  c := ⟨by kernel_rfl, by kernel_rfl, by kernel_rfl, by kernel_rfl, by kernel_rfl, by kernel_rfl⟩
  hE := Try.underlying167
  cE := by kernel_rfl
  g0 := ⟨_, rfl, rfl, rfl⟩
  g1 := ⟨_, rfl, rfl, rfl⟩
theorem bulk_pos {H : Type} (d : DataW H) : 1 ≤ Rows.uptoBulk d := by
  cases d with
  | lit l => cases l <;> simp [Rows.uptoBulk]
  | _ => simp [Rows.uptoBulk]
theorem bulk_len {H : Type} : ∀ ds : List (DataW H), ds.length ≤ Rows.uptoBulkAll ds
  | [] => Nat.zero_le _
  | d :: ds => by
    have h1 := bulk_pos d
    have h2 := bulk_len ds
    simp only [List.length_cons, Rows.uptoBulkAll]
    omega
theorem bulk_mem {H : Type} : ∀ (ds : List (DataW H)) (d : DataW H), d ∈ ds → Rows.uptoBulk d ≤ Rows.uptoBulkAll ds
  | [], d, h => nomatch h
  | e :: ds, d, h => by
    simp only [Rows.uptoBulkAll]
    rcases List.mem_cons.1 h with rfl | h
    · omega
    · have := bulk_mem ds d h
      omega
theorem bulk_law {H : Type} : Bulk (H := H) Rows.uptoBulk where
  len := fun els rest => by
    have := bulk_len els
    simp only [Rows.uptoBulk]
    omega
  el := fun els rest d hd => by
    have := bulk_mem els d hd
    simp only [Rows.uptoBulk]
    omega
  part := fun ds d hd => by
    have := bulk_mem ds d hd
    simp only [Rows.uptoBulk]
    omega
/-- an argument that is a value -/
theorem arg_vl {H : Type} {enc : TypeId × Value → H} {W : World} {v : Value} {d : DataW H} {ps : List MemPlace} {r : Reach} {b : Nat} (hval : Value.okWide Try.prog W r b 94 v)
    (h : DataW.Trod enc Try.prog W 0 (fun _ => true) true 94 v d ps) : ∃ y : Val, Im (fun _ => False) W (.agg (encVal y)) v ∧ VB y ∧ VN (Rows.uptoBulk d) y := by
  obtain ⟨cs, rfl, _⟩ := okWide_struct Try.underlying94 hval
  obtain ⟨fuel, hf⟩ := h
  letI : Globs := ⟨[]⟩
  obtain ⟨y, h1, h2, h3⟩ := arg_valB (O := fun _ => False) bulk_law vty (fun _ h => h) fuel _ _ hf
  have h1 : All2 (Im (fun _ => False) W) (encVal y) cs.toList := h1
  obtain ⟨l⟩ := cs
  refine ⟨y, .agg _ l h1.1 (fun v hv => ?_) h1.2, h2, h3⟩
  obtain ⟨j, hj, rfl⟩ := List.getElem_of_mem hv
  have hj' : j < (encVal y).length := by rw [h1.1]; exact hj
  exact plain_one (h1.2 j _ _ (List.getElem?_eq_getElem hj') (List.getElem?_eq_getElem hj)) (enc_plain .val y _ (List.getElem_mem hj'))
/-- an argument that is a list of entries -/
theorem arg_ents {H : Type} {enc : TypeId × Value → H} {W : World} {v : Value} {d : DataW H} {ps : List MemPlace} {r : Reach} {b : Nat} (hval : Value.okWide Try.prog W r b 92 v)
    (h : DataW.Trod enc Try.prog W 0 (fun _ => true) true 92 v d ps) : ∃ l : List (Str × Val), Im (fun _ => False) W (.rd .ent l) v ∧ l.length ≤ Rows.uptoBulk d ∧ ∀ p ∈ l, VB p.2 ∧ VN (Rows.uptoBulk d) p.2 := by
  obtain ⟨a, n, c, rfl⟩ := okWide_slice Try.underlying92 hval
  obtain ⟨fuel, hf⟩ := h
  letI : Globs := ⟨[]⟩
  obtain ⟨l, v', h1, h2, h3, h4⟩ := arg_sliceB (O := fun _ => False) (τ := .ent) (R := fun n p => VB p.2 ∧ VN n p.2) bulk_law (fun _ _ _ hle hy => ⟨hy.1, hy.2.mono hle⟩) (fun _ h => h) Try.underlying92 (by kernel_rfl) (fun n' hn cs' x' hx => arg_entB bulk_law vty (fun _ h => h) hx) hf
  have : [Value.slice a n c] = [v'] := by simpa [Value.cells] using h1
  injection this with h5
  subst h5
  exact ⟨l, h2, h3, h4⟩
theorem contract (H : Type) (enc : TypeId × Value → H) (W : World) (base : Nat) (args : Array Value) (ds gs : List (DataW H)) (before : List MemPlace)
    (hval : ∀ (j : Nat) t v, Try.f11.params[j]? = some t → args[j]? = some v → Value.okWide Try.prog W .any base t v)
    (hW : DataW.Whole enc Try.prog Try.f11.params.toList Rows.valComparesSpec.vars false W args.toList ds gs before) (hk : Rows.uptoSmall H (ds ++ gs) = true) :
    Calls Try.prog 11 args W fun e W' => ∃ v, e = .returned v ∧ Rows.valComparesSpec.post enc Try.prog Try.f11 false true false false W args v W' := by
  have hW' := hW
  obtain ⟨p, q, hA0, hV, rfl, hfz, hnd⟩ := hW
  have hA : DataW.TrodAll enc Try.prog W 0 (fun _ => true) true Try.f11.params.toList args.toList ds p := hA0
  rw [Try.params11] at hA hval
  obtain ⟨v0, vs0, d0, ds0, p0, q0, hargs0, rfl, rfl, h0, r0⟩ := trodAll_cons hA
  obtain ⟨v1, vs1, d1, ds1, p1, q1, hargs1, rfl, rfl, h1, r1⟩ := trodAll_cons r0
  obtain ⟨v2, vs2, d2, ds2, p2, q2, hargs2, rfl, rfl, h2, r2⟩ := trodAll_cons r1
  obtain ⟨v3, vs3, d3, ds3, p3, q3, hargs3, rfl, rfl, h3, r3⟩ := trodAll_cons r2
  obtain ⟨rfl, rfl, rfl⟩ := trodAll_nil r3
  obtain rfl : args = #[v0, v1, v2, v3] := by cases args; simp_all
  obtain ⟨rfl, rfl⟩ := trodVars_none hV
  obtain ⟨a0, i0, b0, bn0⟩ := arg_vl (hval 0 94 v0 rfl rfl) h0
  obtain ⟨a1, i1, b1, bn1⟩ := arg_vl (hval 1 94 v1 rfl rfl) h1
  obtain ⟨l2, i2, bl2, b2⟩ := arg_ents (hval 2 92 v2 rfl rfl) h2
  obtain ⟨s3, rfl, rfl, rfl, hmax3⟩ := Go.ChangeMaps.open_string Try.underlying9 (hval 3 9 v3 rfl rfl) h3
  have i3 : Im (fun _ => False) W (.s s3.data.toList) (.string s3) := by have := Im.s (O := fun _ => False) (w := W) s3.data.toList (by rw [Array.length_toList]; exact hmax3); simpa using this
  have hW'' := hW'
  have bk : Rows.uptoBulkAll _ ≤ 1048576 := of_decide_eq_true hk
  simp only [List.append_nil, List.cons_append, List.nil_append, Rows.uptoBulkAll, Rows.uptoBulk, Array.length_toList] at bk
  refine ((s_law a0 a1 l2 s3.data.toList b0 b1 (fun p hp => (b2 p hp).1) (by omega) (fun p hp => (b2 p hp).2.mono (by omega)) (bn0.mono (by omega))).2 (fun _ => False) W [v0, v1, v2, .string s3] (fun _ h => h.elim) (fun _ hp => nomatch hp) (All2.cons i0 (All2.cons i1 (All2.cons i2 (All2.cons i3 (All2.nil _)))))).mono fun e W' ⟨v, he, hst, hv⟩ => ?_
  subst he
  cases hv
  have hb := hst.below
  have hlt : ∀ x : MemPlace, x ∈ (p0 ++ (p1 ++ (p2 ++ ([] ++ [])))) ++ [] → x.block < W.heap.size := fun x hx => hW''.lt x hx
  have hargs' : ∀ sp : Nat → Bool, (∀ x : MemPlace, x ∈ (p0 ++ (p1 ++ (p2 ++ ([] ++ [])))) ++ [] → sp x.block = true) → DataW.TrodAll enc Try.prog W' 0 sp true [94, 94, 92, 9] [v0, v1, v2, .string s3] [d0, d1, d2, .lit (.string s3.data.toList)] (p0 ++ (p1 ++ (p2 ++ ([] ++ [])))) := fun sp hsp =>
    trodAll_cons_mk (WideElems.Trod_stays laidOut (by kernel_rfl) (of_decide_eq_true (by kernel_rfl)) h0 (fun x hx => hb.same (hlt x (by simp [hx]))) (fun x hx => hsp x (by simp [hx]))) (trodAll_cons_mk (WideElems.Trod_stays laidOut (by kernel_rfl) (of_decide_eq_true (by kernel_rfl)) h1 (fun x hx => hb.same (hlt x (by simp [hx]))) (fun x hx => hsp x (by simp [hx]))) (trodAll_cons_mk (WideElems.Trod_stays laidOut (by kernel_rfl) (of_decide_eq_true (by kernel_rfl)) h2 (fun x hx => hb.same (hlt x (by simp [hx]))) (fun x hx => hsp x (by simp [hx]))) (trodAll_cons_mk (Go.ChangeMaps.shut_string Try.underlying9 hmax3) (trodAll_mk0))))
  exact ⟨_, rfl, post_of_below (pa := p0 ++ (p1 ++ (p2 ++ ([] ++ [])))) (pv := []) hW'' (fun _ _ _ => (trodAll_cons_mk (shut_bool Try.underlying4 _) trodAll_mk0)) (fun sp hsp => hargs' sp hsp) (fun _ _ => rfl) rfl
    hb (ok_one (by kernel_rfl) rfl (okWide_bool_mk Try.underlying4 _))⟩
set_option maxRecDepth 100000 in
theorem lifted (os : Os) (started : os.Started) (H : Type) (enc : TypeId × Value → H) (F : Stop.Interp) :
    ReturnsInHanded {} Try.checked os 11 .any ((Rows.OpenSpec.upto Rows.valComparesSpec).pre6 enc Try.prog Try.f11 Rows.valComparesUptoRow.domain false) (((Rows.OpenSpec.upto Rows.valComparesSpec).at F).post enc Try.prog Try.f11 false true false false) := by
  refine returnsInHanded_of_cond (C := Try.checked) (s := Rows.OpenSpec.upto Rows.valComparesSpec) (k := Rows.uptoSmall) rfl own started (by kernel_rfl) Try.func11
    (OpenSpec.witness (enc := enc) (C := Try.checked) (s := Rows.OpenSpec.upto Rows.valComparesSpec) (k := Rows.uptoSmall) rfl false ⟨#[], #[.agg #[.int .i64 0, .int .i64 0, .int .u64 0, .string .empty, .slice none 0 0, .slice none 0 0], .agg #[.int .i64 0, .int .i64 0, .int .u64 0, .string .empty, .slice none 0 0, .slice none 0 0], .slice none 0 0, .string .empty], []⟩ 8 (by kernel_rfl) (by kernel_rfl) (by kernel_rfl)
      (x := ([.agg [.lit (.int .i64 0), .lit (.int .i64 0), .lit (.int .u64 0), .lit (.string []), .nil, .nil], .agg [.lit (.int .i64 0), .lit (.int .i64 0), .lit (.int .u64 0), .lit (.string []), .nil, .nil], .nil, .lit (.string [])], [], [])) (by kernel_rfl) rfl (by kernel_rfl)) ?_
  intro W base args ds gs before hval hW _ hk _
  exact contract H enc W base args ds gs before hval hW hk

theorem proved : Rows.ValComparesUptoSaid :=
  OpenClaim.holds_of_cond 11 Try.f11 rfl rfl rfl rfl rfl rfl rfl ⟨rfl, rfl, rfl, rfl, rfl⟩ rfl rfl rfl rfl rfl (by kernel_rfl) Try.func11 (by kernel_rfl)
    (of_decide_eq_true (by kernel_rfl)) (by unfold Func.isWrapper; first | (rw [if_pos (by decide +kernel)]; kernel_rfl) | (rw [if_neg (by decide +kernel)]; exact ⟨rfl, rfl⟩))
    (fun os started H enc _ F => lifted os started H enc F)
#print axioms proved
end Go.Proofs.Ytjlbaagnoppfgaa.valCompares
