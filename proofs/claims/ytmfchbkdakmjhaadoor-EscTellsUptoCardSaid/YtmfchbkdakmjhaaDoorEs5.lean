/-
  'typecaselaw.EscTells' returns true, whatever the input, where what comes in is of bulk at most 1048576, and the input reads as it did. No conditions.
-/
import Derived.Test.YtmfchbkdakmjhaaDoorEs4
import Derived.Test.YtmfchbkdakmjhaaDoorRows
import Derived.WalkKit
import Derived.ProofKit
import Derived.OpenShut
import Derived.JoinedCond
import Derived.ChangeMaps5
import Derived.Test.YtmfchbkdakmjhaaDoorCards
import Derived.Test.YtmfchbkdakmjhaaDoorTie
import Derived.Deep.DeepHandedRow
import Derived.Lib.LaidU8
import Derived.PinnedBridge
import Derived.Shelf.Spec.TrailingZeros
import Derived.Stop.LaidErr
set_option linter.constructorNameAsVariable false
set_option linter.unusedVariables false
set_option linter.unusedSimpArgs false
set_option linter.unusedSectionVars false
section
namespace Go.Proofs.YtmfchbkdakmjhaaDoor.escTells
set_option linter.unusedSectionVars false
set_option linter.unusedSimpArgs false
set_option linter.unusedVariables false
open Go Go.SX Go.Es Go.Nm
open Go.ChangeShapes Go.WideShapes Go.ChangeAt Go.RowKit
set_option maxRecDepth 100000
theorem own : ownKnob Tryd.prog.godebug = none := by kernel_rfl
theorem laidOut : laidOutB Tryd.prog = true := by kernel_rfl
theorem cell_block {w : World} {g o : Nat} {k : IntKind} {n : Int} (h : w.cell? ⟨g, o, none⟩ = some (.int k n)) : ∃ cur e fz, w.heap[g]? = some (.cells cur e fz) ∧ cur[o]? = some (.int k n) := by
  unfold World.cell? at h
  split at h
  · rename_i cur e fz hh
    exact ⟨_, _, _, hh, by simpa using h⟩
  · cases h
theorem tabIs_of_reads {P : Program} {W : World} {name : String} {k : IntKind} {zs : List Int} {g : Nat} {t e : TypeId} {n : Nat}
    (hg : P.globalNamed name = some g) (hty : (P.globals[g]?).map (·.type) = some t) (ht : P.underlying t = some (.array n e)) (he : P.underlying e = some (.int k)) (hce : P.cellsOf e = 1) (hct : P.cellsOf t = n)
    (h : Lib.VarReads P W name (Lib.tabData k zs)) : Lib.TabIs P W name k zs := by
  obtain ⟨g', t', cs, fuel, p, hg', ht', hvar, hd⟩ := h
  obtain rfl := Option.some.inj (hg.symm.trans hg')
  obtain rfl := Option.some.inj (hty.symm.trans ht')
  unfold Lib.TabIs
  rw [hvar, ← Lib.cells_of_tab ht he hce hct hd]
theorem tabIs_block {P : Program} {W w : World} {name : String} {k : IntKind} {zs : List Int} {g : Nat} (hg : P.globalNamed name = some g) (hh : w.heap[g]? = W.heap[g]?) (h : Lib.TabIs P W name k zs) : Lib.TabIs P w name k zs := by
  unfold Lib.TabIs World.var? at *
  rw [hg] at h ⊢
  simp only [Option.bind_some] at h ⊢
  rw [hh]
  exact h
def bits64 : List Int := Lib.deBruijn64tab.map fun (n : Nat) => (n : Int)
theorem bits64_len : bits64.length = Lib.deBruijn64tab.length := List.length_map ..
theorem bits64_at (j : Nat) : bits64.getD j 0 = ((Lib.deBruijn64tab.getD j 0 : Nat) : Int) := by
  unfold bits64
  rw [List.getD_eq_getElem?_getD, List.getElem?_map, List.getD_eq_getElem?_getD]
  cases Lib.deBruijn64tab[j]? <;> rfl
theorem contract (H : Type) (enc : TypeId × Value → H) (W : World) (base : Nat) (args : Array Value) (ds gs : List (DataW H)) (before : List MemPlace)
    (hval : ∀ (j : Nat) t v, Tryd.f6.params[j]? = some t → args[j]? = some v → Value.okWide Tryd.prog W .any base t v)
    (hW : DataW.Whole enc Tryd.prog Tryd.f6.params.toList Rows.escTellsSpec.vars false W args.toList ds gs before) (hk : Rows.uptoSmall H (ds ++ gs) = true) (hL : laidMetH Tryd.prog Rows.escTellsUptoRow.laid W) :
    Calls Tryd.prog 6 args W fun e W' => ∃ v, e = .returned v ∧ Rows.escTellsSpec.post enc Tryd.prog Tryd.f6 false true false false W args v W' := by
  have hW' := hW
  obtain ⟨p, q, hA0, hV, rfl, hfz, hnd⟩ := hW
  have hA : DataW.TrodAll enc Tryd.prog W 0 (fun _ => true) true Tryd.f6.params.toList args.toList ds p := hA0
  rw [Tryd.params6] at hA hval
  obtain ⟨v0, vs0, d0, ds0, p0, q0, hargs0, rfl, rfl, h0, r0⟩ := trodAll_cons hA
  obtain ⟨v1, vs1, d1, ds1, p1, q1, hargs1, rfl, rfl, h1, r1⟩ := trodAll_cons r0
  obtain ⟨rfl, rfl, rfl⟩ := trodAll_nil r1
  obtain rfl : args = #[v0, v1] := by cases args; simp_all
  obtain ⟨rfl, rfl⟩ := trodVars_none hV
  obtain ⟨s0, rfl, rfl, rfl, hmax0⟩ := Go.ChangeMaps.open_string Tryd.underlying9 (hval 0 9 v0 rfl rfl) h0
  have i0 : Im (fun _ => False) W (.s s0.data.toList) (.string s0) := by have := Im.s (O := fun _ => False) (w := W) s0.data.toList (by rw [Array.length_toList]; exact hmax0); simpa using this
  obtain ⟨s1, rfl, rfl, rfl, hmax1⟩ := Go.ChangeMaps.open_string Tryd.underlying9 (hval 1 9 v1 rfl rfl) h1
  have i1 : Im (fun _ => False) W (.s s1.data.toList) (.string s1) := by have := Im.s (O := fun _ => False) (w := W) s1.data.toList (by rw [Array.length_toList]; exact hmax1); simpa using this
  have hW'' := hW'
  have bk : Rows.uptoBulkAll _ ≤ 1048576 := of_decide_eq_true hk
  simp only [List.append_nil, List.cons_append, List.nil_append, Rows.uptoBulkAll, Rows.uptoBulk, Array.length_toList] at bk
  have hL' : laidMet Tryd.prog Rows.escTellsUptoRow.laid W := hL
  have hU : Lib.Utf8Tabs 1 2 W := utf8Tabs_of_reads (ρ := Tryd.lays260_ren) Tryd.lays260 ⟨by kernel_rfl, by kernel_rfl, by kernel_rfl, by kernel_rfl, by kernel_rfl, by kernel_rfl, by kernel_rfl⟩ (by have := Lib.laidMet.reads hL' (.tail _ (.tail _ (.tail _ (.tail _ (.tail _ (.tail _ (.head _))))))); rw [show Rows.laid_unicode_utf8_first = Lib.firstData from Pinned.utf8First_eq] at this; exact this) (by have := Lib.laidMet.reads hL' (.tail _ (.tail _ (.tail _ (.head _)))); rw [show Rows.laid_unicode_utf8_acceptRanges = Lib.acceptData by kernel_rfl] at this; exact this)
  have hp10 : Lib.TabIs Tryd.prog W "internal/strconv.uint64pow10" .u64 Lib.pow10Tab := tabIs_of_reads (g := 0) (t := 199) (e := 22) (n := 20) (by kernel_rfl) (by kernel_rfl) Tryd.underlying199 Tryd.underlying22 (by kernel_rfl) (by kernel_rfl) (by have := Lib.laidMet.reads hL' (.tail _ (.tail _ (.head _))); rw [show Rows.laid_internal_strconv_uint64pow10 = Lib.tabData .u64 Lib.pow10Tab by kernel_rfl] at this; exact this)
  have hb64 : Lib.TabIs Tryd.prog W "math/bits.deBruijn64tab" .u8 bits64 := tabIs_of_reads (g := 7) (t := 226) (e := 5) (n := 64) (by kernel_rfl) (by kernel_rfl) Tryd.underlying226 Tryd.underlying5 (by kernel_rfl) (by kernel_rfl) (by have := Lib.laidMet.reads hL' (.tail _ (.head _)); rw [show Rows.laid_math_bits_deBruijn64tab = Lib.tabData .u8 bits64 by kernel_rfl] at this; exact this)
  have g0 : Tryd.prog.globalNamed "internal/strconv.uint64pow10" = some 0 := by kernel_rfl
  have g7 : Tryd.prog.globalNamed "math/bits.deBruijn64tab" = some 7 := by kernel_rfl
  have g4 : Tryd.prog.globalNamed "strconv.ErrSyntax" = some 4 := by kernel_rfl
  have hstar : "*" ++ "errors.errorString" = "*errors.errorString" := by decide
  have hrow : ∀ u, Tryd.prog.typeName? 3 u = some "*errors.errorString" → u = 227 := fun u h => typeName_ptr_named (nm := "errors.errorString") (by rw [hstar]; kernel_rfl) (by kernel_rfl) (by decide) u (by rw [hstar]; exact h)
  have hL5 := hL'.tail.tail.tail.tail.tail
  obtain ⟨aE, sE, hvE, _, _, _⟩ := laid_sentinel hL5 g4 (by kernel_rfl) Tryd.underlying88 hrow Tryd.underlying227 Tryd.underlying229 rfl rfl Tryd.underlying9 (by kernel_rfl) (by kernel_rfl)
  obtain ⟨cur0, e0, fz0, hh0, _⟩ := cell_block (hU.1 0 (by decide))
  obtain ⟨cur1, e1, fz1, hh1, _⟩ := cell_block (hU.2 0 (by decide)).1
  obtain ⟨curp, ep, fzp, hhp, _⟩ := cell_block (hp10.cell g0 0 (by decide))
  obtain ⟨curb, eb, fzb, hhb, _⟩ := cell_block (hb64.cell g7 0 (by decide))
  obtain ⟨ee, fze, hhe⟩ : ∃ ee fze, W.heap[4]? = some (.cells #[.iface 227 (.pointer (some aE))] ee fze) := by
    unfold World.var? at hvE
    rw [g4] at hvE
    simp only [Option.bind_some] at hvE
    split at hvE
    · rename_i cs t fz hh
      injection hvE with hvE
      exact ⟨_, _, hvE ▸ hh⟩
    · cases hvE
  let G : Globs := ⟨[(0, .cells curp ep fzp), (1, .cells cur0 e0 fz0), (2, .cells cur1 e1 fz1), (4, .cells #[.iface 227 (.pointer (some aE))] ee fze), (7, .cells curb eb fzb)]⟩
  have ht : @HasNum G := ⟨_, _, .head _, .tail _ (.tail _ (.tail _ (.tail _ (.head _)))), fun w k0 k1 =>
    ⟨tabIs_block g0 (k0.trans hhp.symm) hp10, fun j hj => by
      have h := (tabIs_block g7 (k1.trans hhb.symm) hb64).cell g7 j (by rw [bits64_len]; exact hj)
      rw [h, bits64_at]⟩⟩
  have he : @HasErr G := ⟨_, _, _, _, .tail _ (.tail _ (.tail _ (.head _)))⟩
  have hu : @HasU8 G := ⟨_, _, .tail _ (.head _), .tail _ (.tail _ (.head _)), fun w k0 k1 => by
    have c0 : ∀ o, w.cell? ⟨1, o, none⟩ = W.cell? ⟨1, o, none⟩ := fun o => World.cell?_of_block (k0.trans hh0.symm)
    have c1 : ∀ o, w.cell? ⟨2, o, none⟩ = W.cell? ⟨2, o, none⟩ := fun o => World.cell?_of_block (k1.trans hh1.symm)
    exact ⟨fun c hc => (c0 c).trans (hU.1 c hc), fun i hi => ⟨(c1 _).trans (hU.2 i hi).1, (c1 _).trans (hU.2 i hi).2⟩⟩⟩
  have hG : @GlobOK G (fun _ => False) W := fun p hp => by
    rcases List.mem_cons.1 hp with rfl | hp
    · exact ⟨fun h => h, hhp⟩
    rcases List.mem_cons.1 hp with rfl | hp
    · exact ⟨fun h => h, hh0⟩
    rcases List.mem_cons.1 hp with rfl | hp
    · exact ⟨fun h => h, hh1⟩
    rcases List.mem_cons.1 hp with rfl | hp
    · exact ⟨fun h => h, hhe⟩
    · cases List.mem_singleton.1 hp
      exact ⟨fun h => h, hhb⟩
  refine ((s_law (G := G) ht he hu s0.data.toList s1.data.toList (by rw [Array.length_toList]; omega) (by rw [Array.length_toList]; omega)).2 (fun _ => False) W [.string s0, .string s1] (fun _ h => h.elim) hG (All2.cons i0 (All2.cons i1 (All2.nil _)))).mono fun e W' ⟨v, he, hst, hv⟩ => ?_
  subst he
  cases hv
  have hb := hst.below
  have hlt : ∀ x : MemPlace, x ∈ ([] ++ ([] ++ [])) ++ [] → x.block < W.heap.size := fun x hx => hW''.lt x hx
  have hargs' : ∀ sp : Nat → Bool, (∀ x : MemPlace, x ∈ ([] ++ ([] ++ [])) ++ [] → sp x.block = true) → DataW.TrodAll enc Tryd.prog W' 0 sp true [9, 9] [.string s0, .string s1] [.lit (.string s0.data.toList), .lit (.string s1.data.toList)] ([] ++ ([] ++ [])) := fun sp hsp =>
    trodAll_cons_mk (Go.ChangeMaps.shut_string Tryd.underlying9 hmax0) (trodAll_cons_mk (Go.ChangeMaps.shut_string Tryd.underlying9 hmax1) (trodAll_mk0))
  exact ⟨_, rfl, post_of_below (pa := [] ++ ([] ++ [])) (pv := []) hW'' (fun _ _ _ => (trodAll_cons_mk (shut_bool Tryd.underlying4 _) trodAll_mk0)) (fun sp hsp => hargs' sp hsp) (fun _ _ => rfl) rfl
    hb (ok_one (by kernel_rfl) rfl (okWide_bool_mk Tryd.underlying4 _))⟩
/-- a world for the witness: the tables as their initialisers lay them -/
def layB (cs : List Value) : Obj → Obj
  | .cells _ t frozen => .cells cs.toArray t frozen
  | o => o
noncomputable def low : Nat := (World.holding Tryd.prog default ⟨#[], #[], []⟩).heap.size
abbrev synS : ByteArray := { data := #[105, 110, 118, 97, 108, 105, 100, 32, 115, 121, 110, 116, 97, 120] }
abbrev rngS : ByteArray := { data := #[118, 97, 108, 117, 101, 32, 111, 117, 116, 32, 111, 102, 32, 114, 97, 110, 103, 101] }
noncomputable def laidWorld (os : Os) : World :=
  { World.holding Tryd.prog os ⟨#[.cells #[.string synS] 229, .cells #[.string rngS] 229], #[], []⟩ with
    heap := (((((((World.holding Tryd.prog os ⟨#[.cells #[.string synS] 229, .cells #[.string rngS] 229], #[], []⟩).heap.modify 0 (layB (Lib.pow10Tab.map fun n => Value.int .u64 n))).modify 1 (layB (Pinned.utf8FirstZ.map fun (n : Nat) => Value.int .u8 (n : Int)))).modify 2
      (layB ([128, 191, 160, 191, 128, 159, 144, 191, 128, 143, 0, 0, 0, 0, 0, 0, 0, 0, 0, 0, 0, 0, 0, 0, 0, 0, 0, 0, 0, 0, 0, 0].map fun n => Value.int .u8 n))).modify 4 (layB [.iface 227 (.pointer (some ⟨low, 0, none⟩))])).modify 5 (layB [.iface 227 (.pointer (some ⟨low + 1, 0, none⟩))])).modify 6
      (layB (Lib.deBruijn32tab.map fun (n : Nat) => Value.int .u8 (n : Int)))).modify 7 (layB (Lib.deBruijn64tab.map fun (n : Nat) => Value.int .u8 (n : Int))) }
theorem laid_met (os : Os) : laidMet Tryd.prog Rows.escTellsUptoRow.laid ((laidWorld os).forCall (fun _ _ => 0) ⟨#[], #[.string .empty, .string .empty], []⟩).memory :=
  laidMet_of_run' 8 (by kernel_rfl) (by kernel_rfl)
theorem reads (os : Os) {H : Type} (enc : TypeId × Value → H) : ∃ places, DataW.whole enc Tryd.prog ((laidWorld os).forCall (fun _ _ => 0) ⟨#[], #[.string .empty, .string .empty], []⟩).memory Tryd.f6.params.toList Rows.escTellsSpec.vars false #[.string .empty, .string .empty].toList 8 = some ([.lit (.string []), .lit (.string [])], [], places) :=
  ⟨[], by kernel_rfl⟩
set_option maxRecDepth 100000 in
theorem lifted (os : Os) (started : os.Started) (H : Type) (enc : TypeId × Value → H) (F : Stop.Interp) :
    ReturnsInHanded {} Tryd.checked os 6 .any ((Rows.OpenSpec.upto Rows.escTellsSpec).preRow enc Tryd.prog Tryd.f6 Rows.escTellsUptoRow.domain false Rows.escTellsUptoRow.laid) (((Rows.OpenSpec.upto Rows.escTellsSpec).at F).post enc Tryd.prog Tryd.f6 false true false false) := by
  obtain ⟨places, hx⟩ := reads os enc
  refine returnsInHanded_of_row (C := Tryd.checked) (s := Rows.OpenSpec.upto Rows.escTellsSpec) own started (by kernel_rfl) Tryd.func6
    (witness_row_at (enc := enc) (C := Tryd.checked) false (laidWorld os) #[.string .empty, .string .empty] rfl (by kernel_rfl) (by kernel_rfl) (by kernel_rfl)
      (OpenSpec.preRow_of_cond 8 hx (by kernel_rfl) (fun k hk => by cases hk; kernel_rfl) (by kernel_rfl) (laid_met os))) ?_
  intro W base args ds gs before hval hW _ hcond _ hL _ _
  exact contract H enc W base args ds gs before hval hW (hcond _ rfl) hL
theorem said : Rows.EscTellsUptoSaid :=
  OpenClaim.holds_of_cond 6 Tryd.f6 rfl rfl rfl rfl rfl rfl rfl ⟨rfl, rfl, rfl, rfl, rfl⟩ rfl rfl rfl rfl rfl (by kernel_rfl) Tryd.func6 (by kernel_rfl)
    (of_decide_eq_true (by kernel_rfl)) (by unfold Func.isWrapper; first | (rw [if_pos (by decide +kernel)]; kernel_rfl) | (rw [if_neg (by decide +kernel)]; exact ⟨rfl, rfl⟩))
    (fun os started H enc _ F => by rw [OpenClaim.pre_eq_preRow]; exact lifted os started H enc F)
theorem plain (f : FuncId) (fn : Func) (hf : Tryd.pinned.checked.prog.funcNamed "typecase/typecaselaw.EscTells" = some f) (hfn : Tryd.pinned.checked.prog.funcs[f]? = some fn) :
    true = Tryd.pinned.checked.prog.looks [] ∧ ∀ (j : Nat) t, fn.params[j]? = some t → Tryd.pinned.checked.prog.wantsStandIn t = false := by
  obtain rfl : f = 6 := Option.some.inj ((show Tryd.prog.funcNamed "typecase/typecaselaw.EscTells" = some 6 by kernel_rfl).symm.trans hf) |>.symm
  obtain rfl : fn = Tryd.f6 := (Option.some.inj (Tryd.func6.symm.trans hfn)).symm
  refine ⟨by kernel_rfl, fun j t ht => ?_⟩
  rw [Tryd.params6] at ht
  have hm := Array.mem_of_getElem? ht
  simp only [List.mem_toArray, List.mem_cons, List.not_mem_nil, or_false] at hm
  rcases hm with rfl | rfl
  · exact (show Tryd.prog.wantsStandIn 9 = false by kernel_rfl)
  · exact (show Tryd.prog.wantsStandIn 9 = false by kernel_rfl)
theorem proved : Rows.EscTellsUptoCardSaid :=
  Claim7.holds_tied_plain_at .later [] _ _ _ _ said (fun _ h => by cases h) (by kernel_rfl) (fun _ h => by cases h) escTellsUpto_row_tie rfl ⟨rfl, rfl⟩ (by kernel_rfl) rfl plain (by kernel_rfl)

end Go.Proofs.YtmfchbkdakmjhaaDoor.escTells
end
