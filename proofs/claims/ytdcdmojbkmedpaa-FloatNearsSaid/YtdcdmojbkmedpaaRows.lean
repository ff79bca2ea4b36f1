/-
  No cell of these rows narrows 'for every input' (looked for: loops, veiled, ifaces, maps, wideKeys, modest, calm, conditions, laid).
  DERIVED. THE GIVEN ROWS OF THIS SEAT. 4 by the template 'for every input the law returns true; each argument reads behind the call as it read before'; 0 by the template 'total and deterministic' (their statements: YtdcdmojbkmedpaaTotals.lean).
  GIVEN WITH THE SEED: the statements are not yours to turn. If you find one false, say at which input.
  Laid BY PROGRAM, IN A SANDBOX (cutbox-rows.mjs): the forced cells as the released guide's own fill.sh prints them over the translation fb29d0f7ebf12c21… (all of the seat's roots in one cut). By AI agents, Wed Nov 11 2026. No macro, syntax, notation, axiom, sorry.
-/
import Derived.Test.YtdcdmojbkmedpaaChecked
import GoSem.Claim
import GoSem.ClaimJoined
import GoSem.ClaimMapViews
import Derived.JoinedTies
import Derived.KernelRfl
namespace Go.Proofs.Ytdcdmojbkmedpaa
/- THE CELL 'sum', in the pinned program and in every row, IS THE sha256 OF THE DUMP (.gsa) THAT YtdcdmojbkmedpaaProg.lean LOADS. Nothing in Lean hashes anything: it is a label: what it is worth is what the hold of that sum in a sandbox is worth. -/
noncomputable def Try.pinned : Pinned := { name := "ytdcdmojbkmedpaa", sum := "fb29d0f7ebf12c21f5513e189b6f725b79056439b83afb19a5ef1e9a71b9f823", checked := Try.checked }
namespace Rows
def none {H : Type} : Left H := { results := [], args := [] }

/-- 'typecaselaw.BigTells': WHATEVER THE INPUT: true; the input reads as it did. -/
def bigTellsSpec : ChangeSpec := { name := "bigTells", fn := fun _ => fun
  | [d1, d2] => { results := [.lit (.bool true)], args := [d1, d2] }
  | _ => none }
def bigTellsRow : OpenClaim := { program := "ytdcdmojbkmedpaa", sum := "fb29d0f7ebf12c21f5513e189b6f725b79056439b83afb19a5ef1e9a71b9f823", func := "typecase/typecaselaw.BigTells", spec := "bigTells", named := ["math/bits.overflowError"], apart := false }
def BigTellsSaid : Prop := bigTellsRow.holds Try.pinned (OpenSpec.ofChange bigTellsSpec)

/-- ITS FALSE NEIGHBOUR: 'it returns false'. Refute it at one input. -/
def bigTellsWrong : ChangeSpec := { name := "bigTells", fn := fun _ => fun
  | [d1, d2] => { results := [.lit (.bool false)], args := [d1, d2] }
  | _ => none }
def BigTellsWrongFalsely : Prop := bigTellsRow.holds Try.pinned (OpenSpec.ofChange bigTellsWrong)

/-- 'typecaselaw.FloatNears': WHATEVER THE INPUT: true; the input reads as it did. -/
def floatNearsSpec : ChangeSpec := { name := "floatNears", fn := fun _ => fun
  | [d1, d2] => { results := [.lit (.bool true)], args := [d1, d2] }
  | _ => none }
def floatNearsRow : OpenClaim := { program := "ytdcdmojbkmedpaa", sum := "fb29d0f7ebf12c21f5513e189b6f725b79056439b83afb19a5ef1e9a71b9f823", func := "typecase/typecaselaw.FloatNears", spec := "floatNears", named := ["math/bits.overflowError"], apart := false }
def FloatNearsSaid : Prop := floatNearsRow.holds Try.pinned (OpenSpec.ofChange floatNearsSpec)

/-- ITS FALSE NEIGHBOUR: 'it returns false'. Refute it at one input. -/
def floatNearsWrong : ChangeSpec := { name := "floatNears", fn := fun _ => fun
  | [d1, d2] => { results := [.lit (.bool false)], args := [d1, d2] }
  | _ => none }
def FloatNearsWrongFalsely : Prop := floatNearsRow.holds Try.pinned (OpenSpec.ofChange floatNearsWrong)

/-- 'typecaselaw.TreeParses': WHATEVER THE INPUT: true; the input reads as it did. -/
def treeParsesSpec : ChangeSpec := { name := "treeParses", fn := fun _ => fun
  | [d] => { results := [.lit (.bool true)], args := [d] }
  | _ => none }
def treeParsesRow : OpenClaim := { program := "ytdcdmojbkmedpaa", sum := "fb29d0f7ebf12c21f5513e189b6f725b79056439b83afb19a5ef1e9a71b9f823", func := "typecase/typecaselaw.TreeParses", spec := "treeParses", inPlace := ["internal/bytealg.IndexByteString", "internal/bytealg.IndexString"], unfollowed := true, recurses := true, named := ["internal/bytealg.MaxLen"], apart := false }
def TreeParsesSaid : Prop := treeParsesRow.holds Try.pinned (OpenSpec.ofChange treeParsesSpec)

/-- ITS FALSE NEIGHBOUR: 'it returns false'. Refute it at one input. -/
def treeParsesWrong : ChangeSpec := { name := "treeParses", fn := fun _ => fun
  | [d] => { results := [.lit (.bool false)], args := [d] }
  | _ => none }
def TreeParsesWrongFalsely : Prop := treeParsesRow.holds Try.pinned (OpenSpec.ofChange treeParsesWrong)

/-- 'typecaselaw.HubPlays': WHATEVER THE INPUT: true; the input reads as it did. -/
def hubPlaysSpec : ChangeSpec := { name := "hubPlays", fn := fun _ => fun
  | [d1, d2, d3] => { results := [.lit (.bool true)], args := [d1, d2, d3] }
  | _ => none }
def hubPlaysRow : OpenClaim := { program := "ytdcdmojbkmedpaa", sum := "fb29d0f7ebf12c21f5513e189b6f725b79056439b83afb19a5ef1e9a71b9f823", func := "typecase/typecaselaw.HubPlays", spec := "hubPlays", inPlace := ["internal/abi.NoEscape"], unfollowed := true, recurses := true, apart := false }
def HubPlaysSaid : Prop := hubPlaysRow.holds Try.pinned (OpenSpec.ofChange hubPlaysSpec)

/-- ITS FALSE NEIGHBOUR: 'it returns false'. Refute it at one input. -/
def hubPlaysWrong : ChangeSpec := { name := "hubPlays", fn := fun _ => fun
  | [d1, d2, d3] => { results := [.lit (.bool false)], args := [d1, d2, d3] }
  | _ => none }
def HubPlaysWrongFalsely : Prop := hubPlaysRow.holds Try.pinned (OpenSpec.ofChange hubPlaysWrong)

/- THE SECOND FORM. 'bulk': how many values and letters a reading holds, each counted each time it is reached (what is shared counts as often as it is met; a slice's spare places count too). A statement '..UptoSaid' is the law's where the arguments, and the package variables that the reading takes, are together of bulk at most 1048576: NARROWER than '..Said'. Prove '..Said' where nothing that the law and all that it calls make is longer than what came in: it says more and counts as full. Else prove '..UptoSaid'. A law counts once. -/
mutual
def uptoBulk {H : Type} : DataW H → Nat
  | .lit (.string bytes) => bytes.length + 1
  | .lit _ => 1
  | .nil => 1
  | .ptr d => uptoBulk d + 1
  | .slice elems spare => uptoBulkAll elems + uptoBulkAll spare + 1
  | .agg parts => uptoBulkAll parts + 1
  | .iface _ d => uptoBulk d + 1
  | .map entries => uptoBulkEntries entries + 1
  | .held _ => 1
def uptoBulkAll {H : Type} : List (DataW H) → Nat
  | [] => 0
  | d :: r => uptoBulk d + uptoBulkAll r
def uptoBulkEntries {H : Type} : List (Lit × DataW H) → Nat
  | [] => 0
  | x :: r => uptoBulkEntry x + uptoBulkEntries r
def uptoBulkEntry {H : Type} : Lit × DataW H → Nat
  | (.string bytes, d) => bytes.length + uptoBulk d + 1
  | (_, d) => uptoBulk d + 1
 end
def uptoSmall : (H : Type) → List (DataW H) → Bool := fun _ ds => decide (uptoBulkAll ds ≤ 1048576)
def OpenSpec.upto (s : _root_.Go.ChangeSpec) : _root_.Go.OpenSpec := { _root_.Go.OpenSpec.ofChange s with cond := some uptoSmall }

/-- 'typecaselaw.BigTells', WHERE WHAT IT READS IS OF BULK AT MOST 1048576: true; the input reads as it did. -/
def bigTellsUptoRow : OpenClaim := { program := "ytdcdmojbkmedpaa", sum := "fb29d0f7ebf12c21f5513e189b6f725b79056439b83afb19a5ef1e9a71b9f823", func := "typecase/typecaselaw.BigTells", spec := "bigTells", named := ["math/bits.overflowError"], apart := false, narrowed := true }
def BigTellsUptoSaid : Prop := bigTellsUptoRow.holds Try.pinned (OpenSpec.upto bigTellsSpec)

/-- 'typecaselaw.FloatNears', WHERE WHAT IT READS IS OF BULK AT MOST 1048576: true; the input reads as it did. -/
def floatNearsUptoRow : OpenClaim := { program := "ytdcdmojbkmedpaa", sum := "fb29d0f7ebf12c21f5513e189b6f725b79056439b83afb19a5ef1e9a71b9f823", func := "typecase/typecaselaw.FloatNears", spec := "floatNears", named := ["math/bits.overflowError"], apart := false, narrowed := true }
def FloatNearsUptoSaid : Prop := floatNearsUptoRow.holds Try.pinned (OpenSpec.upto floatNearsSpec)

/-- 'typecaselaw.TreeParses', WHERE WHAT IT READS IS OF BULK AT MOST 1048576: true; the input reads as it did. -/
def treeParsesUptoRow : OpenClaim := { program := "ytdcdmojbkmedpaa", sum := "fb29d0f7ebf12c21f5513e189b6f725b79056439b83afb19a5ef1e9a71b9f823", func := "typecase/typecaselaw.TreeParses", spec := "treeParses", inPlace := ["internal/bytealg.IndexByteString", "internal/bytealg.IndexString"], unfollowed := true, recurses := true, named := ["internal/bytealg.MaxLen"], apart := false, narrowed := true }
def TreeParsesUptoSaid : Prop := treeParsesUptoRow.holds Try.pinned (OpenSpec.upto treeParsesSpec)

/-- 'typecaselaw.HubPlays', WHERE WHAT IT READS IS OF BULK AT MOST 1048576: true; the input reads as it did. -/
def hubPlaysUptoRow : OpenClaim := { program := "ytdcdmojbkmedpaa", sum := "fb29d0f7ebf12c21f5513e189b6f725b79056439b83afb19a5ef1e9a71b9f823", func := "typecase/typecaselaw.HubPlays", spec := "hubPlays", inPlace := ["internal/abi.NoEscape"], unfollowed := true, recurses := true, apart := false, narrowed := true }
def HubPlaysUptoSaid : Prop := hubPlaysUptoRow.holds Try.pinned (OpenSpec.upto hubPlaysSpec)

end Rows
end Go.Proofs.Ytdcdmojbkmedpaa
