/-
  'typecaselaw.UtfMakes' returns true, whatever the input, where what comes in is of bulk at most 1048576, and the input reads as it did. No conditions.
-/
import Derived.Test.YtjlbaagnoppfgaaDoorUmB
import Derived.Test.YtjlbaagnoppfgaaDoorSxArg2
import Derived.Test.YtjlbaagnoppfgaaDoorRows
import Derived.WalkKit
import Derived.ProofKit
import Derived.OpenShut
import Derived.JoinedCond
import Derived.ChangeMaps5
import Derived.Test.YtjlbaagnoppfgaaDoorCards
import Derived.Test.YtjlbaagnoppfgaaDoorTie
import Derived.Deep.DeepHandedRow
import Derived.Lib.LaidU8
import Derived.PinnedBridge
namespace Go.Proofs.YtjlbaagnoppfgaaDoor.utfMakes
set_option linter.unusedSectionVars false
set_option linter.unusedSimpArgs false
set_option linter.unusedVariables false
open Go Go.SX Go.Ut
open Go.ChangeShapes Go.WideShapes Go.ChangeAt Go.RowKit
set_option maxRecDepth 100000
theorem own : ownKnob Tryd.prog.godebug = none := by kernel_rfl
theorem laidOut : laidOutB Tryd.prog = true := by kernel_rfl
theorem cell_block {w : World} {g o : Nat} {k : IntKind} {n : Int} (h : w.cell? ⟨g, o, none⟩ = some (.int k n)) : ∃ cur e fz, w.heap[g]? = some (.cells cur e fz) ∧ cur[o]? = some (.int k n) := by
  unfold World.cell? at h
  split at h
  · rename_i cur e fz hh
    exact ⟨_, _, _, hh, by simpa using h⟩
  · cases h
theorem bulk_pos {H : Type} (d : DataW H) : 1 ≤ Rows.uptoBulk d := by
  cases d with
  | lit l => cases l <;> simp [Rows.uptoBulk]
  | _ => simp [Rows.uptoBulk]
theorem bulk_len {H : Type} : ∀ ds : List (DataW H), ds.length ≤ Rows.uptoBulkAll ds
  | [] => Nat.zero_le _
  | d :: ds => by
    have h1 := bulk_pos d
    have h2 := bulk_len ds
    simp only [List.length_cons, Rows.uptoBulkAll]
    omega
/-- an argument that is a list of runes -/
theorem arg_runes {H : Type} {enc : TypeId × Value → H} {W : World} {v : Value} {d : DataW H} {ps : List MemPlace} {r : Reach} {b : Nat} (hval : Value.okWide Tryd.prog W r b 26 v)
    (h : DataW.Trod enc Tryd.prog W 0 (fun _ => true) true 26 v d ps) : ∃ l : List Int, Im (fun _ => False) W (.rd .rune l) v ∧ (∀ x ∈ l, -2147483648 ≤ x ∧ x ≤ 2147483647) ∧ l.length ≤ Rows.uptoBulk d := by
  letI : Globs := ⟨[]⟩
  obtain ⟨a, n, c, rfl⟩ := okWide_slice Tryd.underlying26 hval
  obtain ⟨fuel, hf⟩ := h
  obtain ⟨l, v', h1, h2, h3⟩ := arg_sliceR (O := fun _ => False) (τ := .rune) (R := fun x _ => (-2147483648 : Int) ≤ x ∧ x ≤ 2147483647) (fun _ h => h) Tryd.underlying26 (by kernel_rfl)
    (fun n cs x hx => by
      obtain ⟨y, rfl, hy, hw⟩ := arg_int Tryd.underlying21 hx
      exact ⟨y, .cons hy (.nil _), (letI : Globs := ⟨[]⟩; wf_i32 hw)⟩) hf
  have : [Value.slice a n c] = [v'] := by simpa [Value.cells] using h1
  injection this with h4
  subst h4
  refine ⟨l, h2, ?_⟩
  rcases h3 with ⟨hd, rfl⟩ | ⟨els, rest, hd, hl, hr⟩
  · exact And.intro (fun x hx => nomatch hx) (Nat.zero_le _)
  · refine ⟨fun x hx => ?_, ?_⟩
    · obtain ⟨i, hi, rfl⟩ := List.getElem_of_mem hx
      exact hr i _ _ (List.getElem?_eq_getElem hi) (List.getElem?_eq_getElem (show i < els.length by omega))
    · have h5 := bulk_len els
      have hd' : d = .slice els rest := hd
      rw [hd', Rows.uptoBulk, ← hl]
      omega
theorem contract (H : Type) (enc : TypeId × Value → H) (W : World) (base : Nat) (args : Array Value) (ds gs : List (DataW H)) (before : List MemPlace)
    (hval : ∀ (j : Nat) t v, Tryd.f5.params[j]? = some t → args[j]? = some v → Value.okWide Tryd.prog W .any base t v)
    (hW : DataW.Whole enc Tryd.prog Tryd.f5.params.toList Rows.utfMakesSpec.vars false W args.toList ds gs before) (hk : Rows.uptoSmall H (ds ++ gs) = true) (hL : laidMetH Tryd.prog Rows.utfMakesUptoRow.laid W) :
    Calls Tryd.prog 5 args W fun e W' => ∃ v, e = .returned v ∧ Rows.utfMakesSpec.post enc Tryd.prog Tryd.f5 false true false false W args v W' := by
  have hW' := hW
  obtain ⟨p, q, hA0, hV, rfl, hfz, hnd⟩ := hW
  have hA : DataW.TrodAll enc Tryd.prog W 0 (fun _ => true) true Tryd.f5.params.toList args.toList ds p := hA0
  rw [Tryd.params5] at hA hval
  obtain ⟨v0, vs0, d0, ds0, p0, q0, hargs0, rfl, rfl, h0, r0⟩ := trodAll_cons hA
  obtain ⟨v1, vs1, d1, ds1, p1, q1, hargs1, rfl, rfl, h1, r1⟩ := trodAll_cons r0
  obtain ⟨v2, vs2, d2, ds2, p2, q2, hargs2, rfl, rfl, h2, r2⟩ := trodAll_cons r1
  obtain ⟨rfl, rfl, rfl⟩ := trodAll_nil r2
  obtain rfl : args = #[v0, v1, v2] := by cases args; simp_all
  obtain ⟨rfl, rfl⟩ := trodVars_none hV
  obtain ⟨l0, i0, b0, bl0⟩ := arg_runes (hval 0 26 v0 rfl rfl) h0
  obtain ⟨s1, rfl, rfl, rfl, hmax1⟩ := Go.ChangeMaps.open_string Tryd.underlying9 (hval 1 9 v1 rfl rfl) h1
  have i1 : Im (fun _ => False) W (.s s1.data.toList) (.string s1) := by have := Im.s (O := fun _ => False) (w := W) s1.data.toList (by rw [Array.length_toList]; exact hmax1); simpa using this
  obtain ⟨n2, rfl, rfl, rfl, hwf2⟩ := open_int Tryd.underlying3 (hval 2 3 v2 rfl rfl) h2
  have i2 : Im (fun _ => False) W (.i .i64 n2) (.int .i64 n2) := .i _ _
  have b2 : (-9223372036854775808 : Int) ≤ n2 ∧ n2 ≤ (9223372036854775807 : Int) := (letI : Globs := ⟨[]⟩; wf_i64 hwf2)
  have hW'' := hW'
  have bk : Rows.uptoBulkAll _ ≤ 1048576 := of_decide_eq_true hk
  simp only [List.append_nil, List.cons_append, List.nil_append, Rows.uptoBulkAll, Rows.uptoBulk, Array.length_toList] at bk
  have hL' : laidMet Tryd.prog Rows.utfMakesUptoRow.laid W := hL
  have hU : Lib.Utf8Tabs 0 1 W := utf8Tabs_of_reads (ρ := Tryd.lays260_ren) Tryd.lays260 ⟨by kernel_rfl, by kernel_rfl, by kernel_rfl, by kernel_rfl, by kernel_rfl, by kernel_rfl, by kernel_rfl⟩ (by have := Lib.laidMet.reads hL' (.tail _ (.head _)); rw [show Rows.laid_unicode_utf8_first = Lib.firstData from Pinned.utf8First_eq] at this; exact this) (by have := Lib.laidMet.reads hL' (.head _); rw [show Rows.laid_unicode_utf8_acceptRanges = Lib.acceptData by kernel_rfl] at this; exact this)
  obtain ⟨cur0, e0, fz0, hh0, _⟩ := cell_block (hU.1 0 (by decide))
  obtain ⟨cur1, e1, fz1, hh1, _⟩ := cell_block (hU.2 0 (by decide)).1
  let G : Globs := ⟨[(0, .cells cur0 e0 fz0), (1, .cells cur1 e1 fz1)]⟩
  have hu : @HasU8 G := ⟨_, _, .head _, .tail _ (.head _), fun w k0 k1 => by
    have c0 : ∀ o, w.cell? ⟨0, o, none⟩ = W.cell? ⟨0, o, none⟩ := fun o => World.cell?_of_block (k0.trans hh0.symm)
    have c1 : ∀ o, w.cell? ⟨1, o, none⟩ = W.cell? ⟨1, o, none⟩ := fun o => World.cell?_of_block (k1.trans hh1.symm)
    exact ⟨fun c hc => (c0 c).trans (hU.1 c hc), fun i hi => ⟨(c1 _).trans (hU.2 i hi).1, (c1 _).trans (hU.2 i hi).2⟩⟩⟩
  have hG : @GlobOK G (fun _ => False) W := fun p hp => by
    rcases List.mem_cons.1 hp with rfl | hp
    · exact ⟨fun h => h, hh0⟩
    · cases List.mem_singleton.1 hp
      exact ⟨fun h => h, hh1⟩
  refine ((s_law5 (G := G) hu l0 s1.data.toList n2 (by omega) b0 (by rw [Array.length_toList]; omega)).2 (fun _ => False) W [v0, .string s1, .int .i64 n2] (fun _ h => h.elim) hG (All2.cons i0 (All2.cons i1 (All2.cons i2 (All2.nil _))))).mono fun e W' ⟨v, he, hst, hv⟩ => ?_
  subst he
  cases hv
  have hb := hst.below
  have hlt : ∀ x : MemPlace, x ∈ (p0 ++ ([] ++ ([] ++ []))) ++ [] → x.block < W.heap.size := fun x hx => hW''.lt x hx
  have hargs' : ∀ sp : Nat → Bool, (∀ x : MemPlace, x ∈ (p0 ++ ([] ++ ([] ++ []))) ++ [] → sp x.block = true) → DataW.TrodAll enc Tryd.prog W' 0 sp true [26, 9, 3] [v0, .string s1, .int .i64 n2] [d0, .lit (.string s1.data.toList), .lit (.int .i64 n2)] (p0 ++ ([] ++ ([] ++ []))) := fun sp hsp =>
    trodAll_cons_mk (WideElems.Trod_stays laidOut (by kernel_rfl) (of_decide_eq_true (by kernel_rfl)) h0 (fun x hx => hb.same (hlt x (by simp [hx]))) (fun x hx => hsp x (by simp [hx]))) (trodAll_cons_mk (Go.ChangeMaps.shut_string Tryd.underlying9 hmax1) (trodAll_cons_mk (shut_int Tryd.underlying3 hwf2) (trodAll_mk0)))
  exact ⟨_, rfl, post_of_below (pa := p0 ++ ([] ++ ([] ++ []))) (pv := []) hW'' (fun _ _ _ => (trodAll_cons_mk (shut_bool Tryd.underlying4 _) trodAll_mk0)) (fun sp hsp => hargs' sp hsp) (fun _ _ => rfl) rfl
    hb (ok_one (by kernel_rfl) rfl (okWide_bool_mk Tryd.underlying4 _))⟩
/-- a world for the witness: the tables as their initialisers lay them -/
def layB (cs : List Value) : Obj → Obj
  | .cells _ t frozen => .cells cs.toArray t frozen
  | o => o
noncomputable def laidWorld (os : Os) : World :=
  { World.holding Tryd.prog os ⟨#[], #[], []⟩ with
    heap := ((World.holding Tryd.prog os ⟨#[], #[], []⟩).heap.modify 0 (layB (Pinned.utf8FirstZ.map fun (n : Nat) => Value.int .u8 (n : Int)))).modify 1
      (layB ([128, 191, 160, 191, 128, 159, 144, 191, 128, 143, 0, 0, 0, 0, 0, 0, 0, 0, 0, 0, 0, 0, 0, 0, 0, 0, 0, 0, 0, 0, 0, 0].map fun n => Value.int .u8 n)) }
theorem laid_met (os : Os) : laidMet Tryd.prog Rows.utfMakesUptoRow.laid ((laidWorld os).forCall (fun _ _ => 0) ⟨#[], #[.slice none 0 0, .string .empty, .int .i64 0], []⟩).memory :=
  laidMet_of_run' 8 (by kernel_rfl) (by kernel_rfl)
theorem reads (os : Os) {H : Type} (enc : TypeId × Value → H) : ∃ places, DataW.whole enc Tryd.prog ((laidWorld os).forCall (fun _ _ => 0) ⟨#[], #[.slice none 0 0, .string .empty, .int .i64 0], []⟩).memory Tryd.f5.params.toList Rows.utfMakesSpec.vars false #[.slice none 0 0, .string .empty, .int .i64 0].toList 8 = some ([.nil, .lit (.string []), .lit (.int .i64 0)], [], places) :=
  ⟨[], by kernel_rfl⟩
set_option maxRecDepth 100000 in
theorem lifted (os : Os) (started : os.Started) (H : Type) (enc : TypeId × Value → H) (F : Stop.Interp) :
    ReturnsInHanded {} Tryd.checked os 5 .any ((Rows.OpenSpec.upto Rows.utfMakesSpec).preRow enc Tryd.prog Tryd.f5 Rows.utfMakesUptoRow.domain false Rows.utfMakesUptoRow.laid) (((Rows.OpenSpec.upto Rows.utfMakesSpec).at F).post enc Tryd.prog Tryd.f5 false true false false) := by
  obtain ⟨places, hx⟩ := reads os enc
  refine returnsInHanded_of_row (C := Tryd.checked) (s := Rows.OpenSpec.upto Rows.utfMakesSpec) own started (by kernel_rfl) Tryd.func5
    (witness_row_at (enc := enc) (C := Tryd.checked) false (laidWorld os) #[.slice none 0 0, .string .empty, .int .i64 0] rfl (by kernel_rfl) (by kernel_rfl) (by kernel_rfl)
      (OpenSpec.preRow_of_cond 8 hx (by kernel_rfl) (fun k hk => by cases hk; kernel_rfl) (by kernel_rfl) (laid_met os))) ?_
  intro W base args ds gs before hval hW _ hcond _ hL _ _
  exact contract H enc W base args ds gs before hval hW (hcond _ rfl) hL
theorem said : Rows.UtfMakesUptoSaid :=
  OpenClaim.holds_of_cond 5 Tryd.f5 rfl rfl rfl rfl rfl rfl rfl ⟨rfl, rfl, rfl, rfl, rfl⟩ rfl rfl rfl rfl rfl (by kernel_rfl) Tryd.func5 (by kernel_rfl)
    (of_decide_eq_true (by kernel_rfl)) (by unfold Func.isWrapper; first | (rw [if_pos (by decide +kernel)]; kernel_rfl) | (rw [if_neg (by decide +kernel)]; exact ⟨rfl, rfl⟩))
    (fun os started H enc _ F => by rw [OpenClaim.pre_eq_preRow]; exact lifted os started H enc F)
theorem plain (f : FuncId) (fn : Func) (hf : Tryd.pinned.checked.prog.funcNamed "typecase/typecaselaw.UtfMakes" = some f) (hfn : Tryd.pinned.checked.prog.funcs[f]? = some fn) :
    false = Tryd.pinned.checked.prog.looks [] ∧ ∀ (j : Nat) t, fn.params[j]? = some t → Tryd.pinned.checked.prog.wantsStandIn t = false := by
  obtain rfl : f = 5 := Option.some.inj ((show Tryd.prog.funcNamed "typecase/typecaselaw.UtfMakes" = some 5 by kernel_rfl).symm.trans hf) |>.symm
  obtain rfl : fn = Tryd.f5 := (Option.some.inj (Tryd.func5.symm.trans hfn)).symm
  refine ⟨by kernel_rfl, fun j t ht => ?_⟩
  rw [Tryd.params5] at ht
  have hm := Array.mem_of_getElem? ht
  simp only [List.mem_toArray, List.mem_cons, List.not_mem_nil, or_false] at hm
  rcases hm with rfl | rfl | rfl
  · exact (show Tryd.prog.wantsStandIn 26 = false by kernel_rfl)
  · exact (show Tryd.prog.wantsStandIn 9 = false by kernel_rfl)
  · exact (show Tryd.prog.wantsStandIn 3 = false by kernel_rfl)
theorem proved : Rows.UtfMakesUptoCardSaid :=
  Claim7.holds_tied_plain_at .later [] _ _ _ _ said (fun _ h => by cases h) (by kernel_rfl) (fun _ h => by cases h) utfMakesUpto_row_tie rfl ⟨rfl, rfl⟩ (by kernel_rfl) rfl plain (by kernel_rfl)
#print axioms proved
end Go.Proofs.YtjlbaagnoppfgaaDoor.utfMakes
