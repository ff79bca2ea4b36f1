/-
  Small laws for walks. No conditions.
-/
import Derived.Test.YtjlbaagnoppfgaaSxCtx
import Derived.Test.YtjlbaagnoppfgaaSxLaw
namespace Go.Proofs.Ytjlbaagnoppfgaa
set_option linter.unusedSectionVars false
set_option linter.unusedSimpArgs false
set_option linter.unusedVariables false
open Go Go.SX
theorem rng64 {n : Int} (h1 : -9223372036854775808 ≤ n) (h2 : n ≤ 9223372036854775807) : Rng .i64 n := ⟨h1, h2⟩
theorem tmodN (c m : Nat) : (c : Int).tmod (m : Int) = ((c % m : Nat) : Int) := rfl
theorem tdivN (c m : Nat) : (c : Int).tdiv (m : Int) = ((c / m : Nat) : Int) := rfl
theorem len_le {n : Nat} (h : n ≤ maxLen) : n ≤ 9223372036854775807 := by unfold maxLen at h; omega
section
variable [G : Globs]
/-- a nil slice for an empty one -/
theorem pspec_le {P : Program} {f : FuncId} {args args' : List AV} {r : AV} (h : PSpec P f args r) (hle : AVles args' args) : PSpec P f args' r :=
  ⟨h.1, fun O w vs hO hG hargs => h.2 O w vs hO hG (all_le hargs hle)⟩
end
end Go.Proofs.Ytjlbaagnoppfgaa
