/-
  NARROWER THAN 'FOR EVERY INPUT', by the rows' own cells (each row's printed sentence says how): ChainPlans: loops · TreeSources: loops · ValCompares: loops.
  DERIVED. THE GIVEN ROWS OF THIS SEAT. 10 by the template 'for every input the law returns true; each argument reads behind the call as it read before'; 0 by the template 'total and deterministic' (their statements: YtjlbaagnoppfgaaTotals.lean).
  GIVEN WITH THE SEED: the statements are not yours to turn. If you find one false, say at which input.
  Laid BY PROGRAM, IN A SANDBOX (cutbox-rows.mjs): the forced cells as the released guide's own fill.sh prints them over the translation c60ced89aa2ec0b3… (all of the seat's roots in one cut). By AI agents, Wed Nov 11 2026. No macro, syntax, notation, axiom, sorry.
-/
import Derived.Test.YtjlbaagnoppfgaaChecked
import GoSem.Claim
import GoSem.ClaimJoined
import GoSem.ClaimMapViews
import Derived.JoinedTies
import Derived.KernelRfl
namespace Go.Proofs.Ytjlbaagnoppfgaa
/- THE CELL 'sum', in the pinned program and in every row, IS THE sha256 OF THE DUMP (.gsa) THAT YtjlbaagnoppfgaaProg.lean LOADS. Nothing in Lean hashes anything: it is a label: what it is worth is what the hold of that sum in a sandbox is worth. -/
noncomputable def Try.pinned : Pinned := { name := "ytjlbaagnoppfgaa", sum := "c60ced89aa2ec0b3eaac12889da88f160d561ed425f867c927ee932a67ab6903", checked := Try.checked }
namespace Rows
def none {H : Type} : Left H := { results := [], args := [] }

/-- 'typecaselaw.Names': WHATEVER THE INPUT: true; the input reads as it did. -/
def namesSpec : ChangeSpec := { name := "names", fn := fun _ => fun
  | [] => { results := [.lit (.bool true)], args := [] }
  | _ => none }
def namesRow : OpenClaim := { program := "ytjlbaagnoppfgaa", sum := "c60ced89aa2ec0b3eaac12889da88f160d561ed425f867c927ee932a67ab6903", func := "typecase/typecaselaw.Names", spec := "names", apart := false }
def NamesSaid : Prop := namesRow.holds Try.pinned (OpenSpec.ofChange namesSpec)

/-- ITS FALSE NEIGHBOUR: 'it returns false'. Refute it at one input. -/
def namesWrong : ChangeSpec := { name := "names", fn := fun _ => fun
  | [] => { results := [.lit (.bool false)], args := [] }
  | _ => none }
def NamesWrongFalsely : Prop := namesRow.holds Try.pinned (OpenSpec.ofChange namesWrong)

/-- 'typecaselaw.ChainPlans': WHATEVER THE INPUT: true; the input reads as it did. -/
def chainPlansSpec : ChangeSpec := { name := "chainPlans", fn := fun _ => fun
  | [d1, d2, d3] => { results := [.lit (.bool true)], args := [d1, d2, d3] }
  | _ => none }
def chainPlansRow : OpenClaim := { program := "ytjlbaagnoppfgaa", sum := "c60ced89aa2ec0b3eaac12889da88f160d561ed425f867c927ee932a67ab6903", func := "typecase/typecaselaw.ChainPlans", spec := "chainPlans", unfollowed := true, recurses := true, loops := true, apart := false }
def ChainPlansSaid : Prop := chainPlansRow.holds Try.pinned (OpenSpec.ofChange chainPlansSpec)

/-- ITS FALSE NEIGHBOUR: 'it returns false'. Refute it at one input. -/
def chainPlansWrong : ChangeSpec := { name := "chainPlans", fn := fun _ => fun
  | [d1, d2, d3] => { results := [.lit (.bool false)], args := [d1, d2, d3] }
  | _ => none }
def ChainPlansWrongFalsely : Prop := chainPlansRow.holds Try.pinned (OpenSpec.ofChange chainPlansWrong)

/-- 'typecaselaw.SpliceComposes': WHATEVER THE INPUT: true; the input reads as it did. -/
def spliceComposesSpec : ChangeSpec := { name := "spliceComposes", fn := fun _ => fun
  | [d1, d2] => { results := [.lit (.bool true)], args := [d1, d2] }
  | _ => none }
def spliceComposesRow : OpenClaim := { program := "ytjlbaagnoppfgaa", sum := "c60ced89aa2ec0b3eaac12889da88f160d561ed425f867c927ee932a67ab6903", func := "typecase/typecaselaw.SpliceComposes", spec := "spliceComposes", unfollowed := true, recurses := true, apart := false }
def SpliceComposesSaid : Prop := spliceComposesRow.holds Try.pinned (OpenSpec.ofChange spliceComposesSpec)

/-- ITS FALSE NEIGHBOUR: 'it returns false'. Refute it at one input. -/
def spliceComposesWrong : ChangeSpec := { name := "spliceComposes", fn := fun _ => fun
  | [d1, d2] => { results := [.lit (.bool false)], args := [d1, d2] }
  | _ => none }
def SpliceComposesWrongFalsely : Prop := spliceComposesRow.holds Try.pinned (OpenSpec.ofChange spliceComposesWrong)

/-- 'typecaselaw.SpliceTells': WHATEVER THE INPUT: true; the input reads as it did. -/
def spliceTellsSpec : ChangeSpec := { name := "spliceTells", fn := fun _ => fun
  | [d1, d2] => { results := [.lit (.bool true)], args := [d1, d2] }
  | _ => none }
def spliceTellsRow : OpenClaim := { program := "ytjlbaagnoppfgaa", sum := "c60ced89aa2ec0b3eaac12889da88f160d561ed425f867c927ee932a67ab6903", func := "typecase/typecaselaw.SpliceTells", spec := "spliceTells", inPlace := ["internal/abi.NoEscape"], unfollowed := true, recurses := true, apart := false }
def SpliceTellsSaid : Prop := spliceTellsRow.holds Try.pinned (OpenSpec.ofChange spliceTellsSpec)

/-- ITS FALSE NEIGHBOUR: 'it returns false'. Refute it at one input. -/
def spliceTellsWrong : ChangeSpec := { name := "spliceTells", fn := fun _ => fun
  | [d1, d2] => { results := [.lit (.bool false)], args := [d1, d2] }
  | _ => none }
def SpliceTellsWrongFalsely : Prop := spliceTellsRow.holds Try.pinned (OpenSpec.ofChange spliceTellsWrong)

/-- 'typecaselaw.SpliceTransforms': WHATEVER THE INPUT: true; the input reads as it did. -/
def spliceTransformsSpec : ChangeSpec := { name := "spliceTransforms", fn := fun _ => fun
  | [d1, d2] => { results := [.lit (.bool true)], args := [d1, d2] }
  | _ => none }
def spliceTransformsRow : OpenClaim := { program := "ytjlbaagnoppfgaa", sum := "c60ced89aa2ec0b3eaac12889da88f160d561ed425f867c927ee932a67ab6903", func := "typecase/typecaselaw.SpliceTransforms", spec := "spliceTransforms", unfollowed := true, recurses := true, apart := false }
def SpliceTransformsSaid : Prop := spliceTransformsRow.holds Try.pinned (OpenSpec.ofChange spliceTransformsSpec)

/-- ITS FALSE NEIGHBOUR: 'it returns false'. Refute it at one input. -/
def spliceTransformsWrong : ChangeSpec := { name := "spliceTransforms", fn := fun _ => fun
  | [d1, d2] => { results := [.lit (.bool false)], args := [d1, d2] }
  | _ => none }
def SpliceTransformsWrongFalsely : Prop := spliceTransformsRow.holds Try.pinned (OpenSpec.ofChange spliceTransformsWrong)

/-- 'typecaselaw.BigShifts': WHATEVER THE INPUT: true; the input reads as it did. -/
def bigShiftsSpec : ChangeSpec := { name := "bigShifts", fn := fun _ => fun
  | [d1, d2, d3, d4] => { results := [.lit (.bool true)], args := [d1, d2, d3, d4] }
  | _ => none }
def bigShiftsRow : OpenClaim := { program := "ytjlbaagnoppfgaa", sum := "c60ced89aa2ec0b3eaac12889da88f160d561ed425f867c927ee932a67ab6903", func := "typecase/typecaselaw.BigShifts", spec := "bigShifts", named := ["math/bits.overflowError"], apart := false }
def BigShiftsSaid : Prop := bigShiftsRow.holds Try.pinned (OpenSpec.ofChange bigShiftsSpec)

/-- ITS FALSE NEIGHBOUR: 'it returns false'. Refute it at one input. -/
def bigShiftsWrong : ChangeSpec := { name := "bigShifts", fn := fun _ => fun
  | [d1, d2, d3, d4] => { results := [.lit (.bool false)], args := [d1, d2, d3, d4] }
  | _ => none }
def BigShiftsWrongFalsely : Prop := bigShiftsRow.holds Try.pinned (OpenSpec.ofChange bigShiftsWrong)

/-- 'typecaselaw.PlaceTells': WHATEVER THE INPUT: true; the input reads as it did. -/
def placeTellsSpec : ChangeSpec := { name := "placeTells", fn := fun _ => fun
  | [d1, d2, d3, d4] => { results := [.lit (.bool true)], args := [d1, d2, d3, d4] }
  | _ => none }
def placeTellsRow : OpenClaim := { program := "ytjlbaagnoppfgaa", sum := "c60ced89aa2ec0b3eaac12889da88f160d561ed425f867c927ee932a67ab6903", func := "typecase/typecaselaw.PlaceTells", spec := "placeTells", inPlace := ["internal/bytealg.IndexByteString", "internal/bytealg.IndexString"], unfollowed := true, recurses := true, named := ["internal/bytealg.MaxLen"], apart := false }
def PlaceTellsSaid : Prop := placeTellsRow.holds Try.pinned (OpenSpec.ofChange placeTellsSpec)

/-- ITS FALSE NEIGHBOUR: 'it returns false'. Refute it at one input. -/
def placeTellsWrong : ChangeSpec := { name := "placeTells", fn := fun _ => fun
  | [d1, d2, d3, d4] => { results := [.lit (.bool false)], args := [d1, d2, d3, d4] }
  | _ => none }
def PlaceTellsWrongFalsely : Prop := placeTellsRow.holds Try.pinned (OpenSpec.ofChange placeTellsWrong)

/-- 'typecaselaw.TreeSources': WHATEVER THE INPUT: true; the input reads as it did. -/
def treeSourcesSpec : ChangeSpec := { name := "treeSources", fn := fun _ => fun
  | [d1, d2] => { results := [.lit (.bool true)], args := [d1, d2] }
  | _ => none }
def treeSourcesRow : OpenClaim := { program := "ytjlbaagnoppfgaa", sum := "c60ced89aa2ec0b3eaac12889da88f160d561ed425f867c927ee932a67ab6903", func := "typecase/typecaselaw.TreeSources", spec := "treeSources", inPlace := ["internal/bytealg.IndexByteString", "internal/bytealg.IndexString"], unfollowed := true, recurses := true, named := ["internal/bytealg.MaxLen"], loops := true, apart := false }
def TreeSourcesSaid : Prop := treeSourcesRow.holds Try.pinned (OpenSpec.ofChange treeSourcesSpec)

/-- ITS FALSE NEIGHBOUR: 'it returns false'. Refute it at one input. -/
def treeSourcesWrong : ChangeSpec := { name := "treeSources", fn := fun _ => fun
  | [d1, d2] => { results := [.lit (.bool false)], args := [d1, d2] }
  | _ => none }
def TreeSourcesWrongFalsely : Prop := treeSourcesRow.holds Try.pinned (OpenSpec.ofChange treeSourcesWrong)

/-- 'typecaselaw.ValCompares': WHATEVER THE INPUT: true; the input reads as it did. -/
def valComparesSpec : ChangeSpec := { name := "valCompares", fn := fun _ => fun
  | [d1, d2, d3, d4] => { results := [.lit (.bool true)], args := [d1, d2, d3, d4] }
  | _ => none }
def valComparesRow : OpenClaim := { program := "ytjlbaagnoppfgaa", sum := "c60ced89aa2ec0b3eaac12889da88f160d561ed425f867c927ee932a67ab6903", func := "typecase/typecaselaw.ValCompares", spec := "valCompares", inPlace := ["slices.overlaps[typecase/api.Entry]"], unfollowed := true, recurses := true, loops := true, apart := false }
def ValComparesSaid : Prop := valComparesRow.holds Try.pinned (OpenSpec.ofChange valComparesSpec)

/-- ITS FALSE NEIGHBOUR: 'it returns false'. Refute it at one input. -/
def valComparesWrong : ChangeSpec := { name := "valCompares", fn := fun _ => fun
  | [d1, d2, d3, d4] => { results := [.lit (.bool false)], args := [d1, d2, d3, d4] }
  | _ => none }
def ValComparesWrongFalsely : Prop := valComparesRow.holds Try.pinned (OpenSpec.ofChange valComparesWrong)

/-- 'typecaselaw.TokCuts': WHATEVER THE INPUT: true; the input reads as it did. -/
def tokCutsSpec : ChangeSpec := { name := "tokCuts", fn := fun _ => fun
  | [d1, d2] => { results := [.lit (.bool true)], args := [d1, d2] }
  | _ => none }
def tokCutsRow : OpenClaim := { program := "ytjlbaagnoppfgaa", sum := "c60ced89aa2ec0b3eaac12889da88f160d561ed425f867c927ee932a67ab6903", func := "typecase/typecaselaw.TokCuts", spec := "tokCuts", inPlace := ["internal/bytealg.IndexByteString", "internal/bytealg.IndexString"], unfollowed := true, recurses := true, named := ["internal/bytealg.MaxLen"], apart := false }
def TokCutsSaid : Prop := tokCutsRow.holds Try.pinned (OpenSpec.ofChange tokCutsSpec)

/-- ITS FALSE NEIGHBOUR: 'it returns false'. Refute it at one input. -/
def tokCutsWrong : ChangeSpec := { name := "tokCuts", fn := fun _ => fun
  | [d1, d2] => { results := [.lit (.bool false)], args := [d1, d2] }
  | _ => none }
def TokCutsWrongFalsely : Prop := tokCutsRow.holds Try.pinned (OpenSpec.ofChange tokCutsWrong)

/- THE SECOND FORM. 'bulk': how many values and letters a reading holds, each counted each time it is reached (what is shared counts as often as it is met; a slice's spare places count too). A statement '..UptoSaid' is the law's where the arguments, and the package variables that the reading takes, are together of bulk at most 1048576: NARROWER than '..Said'. Prove '..Said' where nothing that the law and all that it calls make is longer than what came in: it says more and counts as full. Else prove '..UptoSaid'. A law counts once. -/
mutual
def uptoBulk {H : Type} : DataW H → Nat
  | .lit (.string bytes) => bytes.length + 1
  | .lit _ => 1
  | .nil => 1
  | .ptr d => uptoBulk d + 1
  | .slice elems spare => uptoBulkAll elems + uptoBulkAll spare + 1
  | .agg parts => uptoBulkAll parts + 1
  | .iface _ d => uptoBulk d + 1
  | .map entries => uptoBulkEntries entries + 1
  | .held _ => 1
def uptoBulkAll {H : Type} : List (DataW H) → Nat
  | [] => 0
  | d :: r => uptoBulk d + uptoBulkAll r
def uptoBulkEntries {H : Type} : List (Lit × DataW H) → Nat
  | [] => 0
  | x :: r => uptoBulkEntry x + uptoBulkEntries r
def uptoBulkEntry {H : Type} : Lit × DataW H → Nat
  | (.string bytes, d) => bytes.length + uptoBulk d + 1
  | (_, d) => uptoBulk d + 1
 end
def uptoSmall : (H : Type) → List (DataW H) → Bool := fun _ ds => decide (uptoBulkAll ds ≤ 1048576)
def OpenSpec.upto (s : _root_.Go.ChangeSpec) : _root_.Go.OpenSpec := { _root_.Go.OpenSpec.ofChange s with cond := some uptoSmall }

/-- 'typecaselaw.Names', WHERE WHAT IT READS IS OF BULK AT MOST 1048576: true; the input reads as it did. -/
def namesUptoRow : OpenClaim := { program := "ytjlbaagnoppfgaa", sum := "c60ced89aa2ec0b3eaac12889da88f160d561ed425f867c927ee932a67ab6903", func := "typecase/typecaselaw.Names", spec := "names", apart := false, narrowed := true }
def NamesUptoSaid : Prop := namesUptoRow.holds Try.pinned (OpenSpec.upto namesSpec)

/-- 'typecaselaw.ChainPlans', WHERE WHAT IT READS IS OF BULK AT MOST 1048576: true; the input reads as it did. -/
def chainPlansUptoRow : OpenClaim := { program := "ytjlbaagnoppfgaa", sum := "c60ced89aa2ec0b3eaac12889da88f160d561ed425f867c927ee932a67ab6903", func := "typecase/typecaselaw.ChainPlans", spec := "chainPlans", unfollowed := true, recurses := true, loops := true, apart := false, narrowed := true }
def ChainPlansUptoSaid : Prop := chainPlansUptoRow.holds Try.pinned (OpenSpec.upto chainPlansSpec)

/-- 'typecaselaw.SpliceComposes', WHERE WHAT IT READS IS OF BULK AT MOST 1048576: true; the input reads as it did. -/
def spliceComposesUptoRow : OpenClaim := { program := "ytjlbaagnoppfgaa", sum := "c60ced89aa2ec0b3eaac12889da88f160d561ed425f867c927ee932a67ab6903", func := "typecase/typecaselaw.SpliceComposes", spec := "spliceComposes", unfollowed := true, recurses := true, apart := false, narrowed := true }
def SpliceComposesUptoSaid : Prop := spliceComposesUptoRow.holds Try.pinned (OpenSpec.upto spliceComposesSpec)

/-- 'typecaselaw.SpliceTells', WHERE WHAT IT READS IS OF BULK AT MOST 1048576: true; the input reads as it did. -/
def spliceTellsUptoRow : OpenClaim := { program := "ytjlbaagnoppfgaa", sum := "c60ced89aa2ec0b3eaac12889da88f160d561ed425f867c927ee932a67ab6903", func := "typecase/typecaselaw.SpliceTells", spec := "spliceTells", inPlace := ["internal/abi.NoEscape"], unfollowed := true, recurses := true, apart := false, narrowed := true }
def SpliceTellsUptoSaid : Prop := spliceTellsUptoRow.holds Try.pinned (OpenSpec.upto spliceTellsSpec)

/-- 'typecaselaw.SpliceTransforms', WHERE WHAT IT READS IS OF BULK AT MOST 1048576: true; the input reads as it did. -/
def spliceTransformsUptoRow : OpenClaim := { program := "ytjlbaagnoppfgaa", sum := "c60ced89aa2ec0b3eaac12889da88f160d561ed425f867c927ee932a67ab6903", func := "typecase/typecaselaw.SpliceTransforms", spec := "spliceTransforms", unfollowed := true, recurses := true, apart := false, narrowed := true }
def SpliceTransformsUptoSaid : Prop := spliceTransformsUptoRow.holds Try.pinned (OpenSpec.upto spliceTransformsSpec)

/-- 'typecaselaw.BigShifts', WHERE WHAT IT READS IS OF BULK AT MOST 1048576: true; the input reads as it did. -/
def bigShiftsUptoRow : OpenClaim := { program := "ytjlbaagnoppfgaa", sum := "c60ced89aa2ec0b3eaac12889da88f160d561ed425f867c927ee932a67ab6903", func := "typecase/typecaselaw.BigShifts", spec := "bigShifts", named := ["math/bits.overflowError"], apart := false, narrowed := true }
def BigShiftsUptoSaid : Prop := bigShiftsUptoRow.holds Try.pinned (OpenSpec.upto bigShiftsSpec)

/-- 'typecaselaw.PlaceTells', WHERE WHAT IT READS IS OF BULK AT MOST 1048576: true; the input reads as it did. -/
def placeTellsUptoRow : OpenClaim := { program := "ytjlbaagnoppfgaa", sum := "c60ced89aa2ec0b3eaac12889da88f160d561ed425f867c927ee932a67ab6903", func := "typecase/typecaselaw.PlaceTells", spec := "placeTells", inPlace := ["internal/bytealg.IndexByteString", "internal/bytealg.IndexString"], unfollowed := true, recurses := true, named := ["internal/bytealg.MaxLen"], apart := false, narrowed := true }
def PlaceTellsUptoSaid : Prop := placeTellsUptoRow.holds Try.pinned (OpenSpec.upto placeTellsSpec)

/-- 'typecaselaw.TreeSources', WHERE WHAT IT READS IS OF BULK AT MOST 1048576: true; the input reads as it did. -/
def treeSourcesUptoRow : OpenClaim := { program := "ytjlbaagnoppfgaa", sum := "c60ced89aa2ec0b3eaac12889da88f160d561ed425f867c927ee932a67ab6903", func := "typecase/typecaselaw.TreeSources", spec := "treeSources", inPlace := ["internal/bytealg.IndexByteString", "internal/bytealg.IndexString"], unfollowed := true, recurses := true, named := ["internal/bytealg.MaxLen"], loops := true, apart := false, narrowed := true }
def TreeSourcesUptoSaid : Prop := treeSourcesUptoRow.holds Try.pinned (OpenSpec.upto treeSourcesSpec)

/-- 'typecaselaw.ValCompares', WHERE WHAT IT READS IS OF BULK AT MOST 1048576: true; the input reads as it did. -/
def valComparesUptoRow : OpenClaim := { program := "ytjlbaagnoppfgaa", sum := "c60ced89aa2ec0b3eaac12889da88f160d561ed425f867c927ee932a67ab6903", func := "typecase/typecaselaw.ValCompares", spec := "valCompares", inPlace := ["slices.overlaps[typecase/api.Entry]"], unfollowed := true, recurses := true, loops := true, apart := false, narrowed := true }
def ValComparesUptoSaid : Prop := valComparesUptoRow.holds Try.pinned (OpenSpec.upto valComparesSpec)

/-- 'typecaselaw.TokCuts', WHERE WHAT IT READS IS OF BULK AT MOST 1048576: true; the input reads as it did. -/
def tokCutsUptoRow : OpenClaim := { program := "ytjlbaagnoppfgaa", sum := "c60ced89aa2ec0b3eaac12889da88f160d561ed425f867c927ee932a67ab6903", func := "typecase/typecaselaw.TokCuts", spec := "tokCuts", inPlace := ["internal/bytealg.IndexByteString", "internal/bytealg.IndexString"], unfollowed := true, recurses := true, named := ["internal/bytealg.MaxLen"], apart := false, narrowed := true }
def TokCutsUptoSaid : Prop := tokCutsUptoRow.holds Try.pinned (OpenSpec.upto tokCutsSpec)

end Rows
end Go.Proofs.Ytjlbaagnoppfgaa
