/-
  A part of a proof: plain laws and walks, one after the other. No conditions.
-/
import Derived.Test.YtdcdmojbkmedpaaDoorPa3
import Derived.Test.YtdcdmojbkmedpaaDoorRows
import Derived.Shelf.Strings.Builder1
import Derived.Shelf.Strings.Trim
import Derived.Shelf.Small.Utf8
import Derived.Shelf.Small.Bits
import Derived.Shelf.Small.Strs
import Derived.Shelf.Strings.BuilderF
import Derived.Shelf.Strconv.Itoa0
import Derived.Shelf.Strconv.Itoa1
import Derived.Shelf.LaysM
import Derived.Shelf.Strconv.Itoa2
import Derived.Shelf.Strconv.Itoa3
import Derived.Shelf.Strconv.Itoa4
import Derived.Shelf.Strings.Search1
import Derived.Shelf.Strings.Prefix
import Derived.Shelf.Unicode.Decode
import Derived.Shelf.Strings.Runes
import Derived.Shelf.Strings.AsciiSet
import Derived.Shelf.Bits.Mul64
import Derived.Shelf.Unicode.DecodeSlow
import Derived.Shelf.Unicode.DecodeAny
import Derived.Shelf.Slices.Turned
import Derived.Shelf.Slices.Equal
import Derived.Ground.Names2Prog
import Derived.Shelf.Slices.Clone
import Derived.Shelf.Slices.SearchI
import Derived.Ground.SlgnProg
import Derived.Shelf.SlicesG.SearchI
import Derived.Shelf.SlicesE.Clone
import Derived.Test.YtdcdmojbkmedpaaDoorProg
import Derived.IntWalk
import Derived.Lib.RuneBytes
import Derived.Laws.Bits64
import Derived.Laws.Bits64b
set_option linter.constructorNameAsVariable false
set_option linter.unusedVariables false
set_option linter.unusedSimpArgs false
set_option linter.unusedSectionVars false
section
namespace Go.Proofs.YtdcdmojbkmedpaaDoor
open Go.SX
set_option maxRecDepth 100000
def ti2 : TI := ⟨1, 8, [.int .i64 0], .int .i64, some .i64, [], none⟩
theorem ti2_ok : ti2.ok Tryd.prog 2 := ⟨⟨Tryd.t2, .int .i64 0, by kernel_rfl, rfl, rfl, rfl, rfl⟩, ⟨_, Tryd.underlying2, rfl⟩, rfl, fun _ => ⟨Tryd.t2, by kernel_rfl, rfl⟩⟩
def ti3 : TI := ⟨1, 8, [.int .i64 0], .int .i64, some .int, [], none⟩
theorem ti3_ok : ti3.ok Tryd.prog 3 := ⟨⟨Tryd.t3, .int .i64 0, by kernel_rfl, rfl, rfl, rfl, rfl⟩, ⟨_, Tryd.underlying3, rfl⟩, rfl, fun _ => ⟨Tryd.t3, by kernel_rfl, rfl⟩⟩
def ti4 : TI := ⟨1, 1, [.bool false], .bool, some .bool, [], none⟩
theorem ti4_ok : ti4.ok Tryd.prog 4 := ⟨⟨Tryd.t4, .bool false, by kernel_rfl, rfl, rfl, rfl, rfl⟩, ⟨_, Tryd.underlying4, rfl⟩, rfl, fun _ => ⟨Tryd.t4, by kernel_rfl, rfl⟩⟩
def ti5 : TI := ⟨1, 1, [.int .u8 0], .int .u8, some .u8, [], none⟩
theorem ti5_ok : ti5.ok Tryd.prog 5 := ⟨⟨Tryd.t5, .int .u8 0, by kernel_rfl, rfl, rfl, rfl, rfl⟩, ⟨_, Tryd.underlying5, rfl⟩, rfl, fun _ => ⟨Tryd.t5, by kernel_rfl, rfl⟩⟩
def ti6 : TI := ⟨1, 1, [.int .u8 0], .int .u8, none, [], none⟩
theorem ti6_ok : ti6.ok Tryd.prog 6 := ⟨⟨Tryd.t6, .int .u8 0, by kernel_rfl, rfl, rfl, rfl, rfl⟩, ⟨_, Tryd.underlying6, rfl⟩, rfl, fun _ => ⟨Tryd.t6, by kernel_rfl, rfl⟩⟩
def ti7 : TI := ⟨4, 24, [.int .i64 0, .int .i64 0, .bool false, .int .u8 0], .struct [(0, 1), (1, 1), (2, 1), (3, 1)], none, [], none⟩
theorem ti7_ok : ti7.ok Tryd.prog 7 := ⟨⟨Tryd.t7, .agg #[.int .i64 0, .int .i64 0, .bool false, .int .u8 0], by kernel_rfl, rfl, rfl, rfl, rfl⟩, ⟨_, Tryd.underlying7, ⟨_, rfl, by kernel_rfl, by kernel_rfl⟩⟩, rfl, fun h => nomatch h⟩
def ti8 : TI := ⟨4, 24, [.int .i64 0, .int .i64 0, .bool false, .int .u8 0], .struct [(0, 1), (1, 1), (2, 1), (3, 1)], none, [], none⟩
theorem ti8_ok : ti8.ok Tryd.prog 8 := ⟨⟨Tryd.t8, .agg #[.int .i64 0, .int .i64 0, .bool false, .int .u8 0], by kernel_rfl, rfl, rfl, rfl, rfl⟩, ⟨_, Tryd.underlying8, ⟨_, rfl, by kernel_rfl, by kernel_rfl⟩⟩, rfl, fun h => nomatch h⟩
def ti9 : TI := ⟨1, 16, [.string ⟨#[]⟩], .str, some .str, [], none⟩
theorem ti9_ok : ti9.ok Tryd.prog 9 := ⟨⟨Tryd.t9, .string ⟨#[]⟩, by kernel_rfl, rfl, rfl, rfl, rfl⟩, ⟨_, Tryd.underlying9, rfl⟩, rfl, fun _ => ⟨Tryd.t9, by kernel_rfl, rfl⟩⟩
def ti10 : TI := ⟨1, 16, [.string ⟨#[]⟩], .str, none, [], none⟩
theorem ti10_ok : ti10.ok Tryd.prog 10 := ⟨⟨Tryd.t10, .string ⟨#[]⟩, by kernel_rfl, rfl, rfl, rfl, rfl⟩, ⟨_, Tryd.underlying10, rfl⟩, rfl, fun _ => ⟨Tryd.t10, by kernel_rfl, rfl⟩⟩
def ti11 : TI := ⟨1, 16, [.string ⟨#[]⟩], .str, none, [], none⟩
theorem ti11_ok : ti11.ok Tryd.prog 11 := ⟨⟨Tryd.t11, .string ⟨#[]⟩, by kernel_rfl, rfl, rfl, rfl, rfl⟩, ⟨_, Tryd.underlying11, rfl⟩, rfl, fun _ => ⟨Tryd.t11, by kernel_rfl, rfl⟩⟩
def ti12 : TI := ⟨1, 8, [.int .u64 0], .int .u64, none, [], none⟩
theorem ti12_ok : ti12.ok Tryd.prog 12 := ⟨⟨Tryd.t12, .int .u64 0, by kernel_rfl, rfl, rfl, rfl, rfl⟩, ⟨_, Tryd.underlying12, rfl⟩, rfl, fun _ => ⟨Tryd.t12, by kernel_rfl, rfl⟩⟩
def ti13 : TI := ⟨2, 24, [.string ⟨#[]⟩, .int .u64 0], .struct [(0, 1), (1, 1)], none, [], none⟩
theorem ti13_ok : ti13.ok Tryd.prog 13 := ⟨⟨Tryd.t13, .agg #[.string ⟨#[]⟩, .int .u64 0], by kernel_rfl, rfl, rfl, rfl, rfl⟩, ⟨_, Tryd.underlying13, ⟨_, rfl, by kernel_rfl, by kernel_rfl⟩⟩, rfl, fun h => nomatch h⟩
def ti14 : TI := ⟨2, 24, [.string ⟨#[]⟩, .int .u64 0], .struct [(0, 1), (1, 1)], none, [], none⟩
theorem ti14_ok : ti14.ok Tryd.prog 14 := ⟨⟨Tryd.t14, .agg #[.string ⟨#[]⟩, .int .u64 0], by kernel_rfl, rfl, rfl, rfl, rfl⟩, ⟨_, Tryd.underlying14, ⟨_, rfl, by kernel_rfl, by kernel_rfl⟩⟩, rfl, fun h => nomatch h⟩
def ti15 : TI := ⟨1, 8, [.pointer none], .other, none, [], none⟩
theorem ti15_ok : ti15.ok Tryd.prog 15 := ⟨⟨Tryd.t15, .pointer none, by kernel_rfl, rfl, rfl, rfl, rfl⟩, ⟨_, Tryd.underlying15, ⟨fun _ h => (nomatch h), fun _ _ h => (nomatch h)⟩⟩, rfl, fun _ => ⟨Tryd.t15, by kernel_rfl, rfl⟩⟩
def ti16 : TI := ⟨1, 8, [.pointer none], .other, none, [], none⟩
theorem ti16_ok : ti16.ok Tryd.prog 16 := ⟨⟨Tryd.t16, .pointer none, by kernel_rfl, rfl, rfl, rfl, rfl⟩, ⟨_, Tryd.underlying16, ⟨fun _ h => (nomatch h), fun _ _ h => (nomatch h)⟩⟩, rfl, fun _ => ⟨Tryd.t16, by kernel_rfl, rfl⟩⟩
def ti17 : TI := ⟨1, 8, [.pointer none], .other, none, [], none⟩
theorem ti17_ok : ti17.ok Tryd.prog 17 := ⟨⟨Tryd.t17, .pointer none, by kernel_rfl, rfl, rfl, rfl, rfl⟩, ⟨_, Tryd.underlying17, ⟨fun _ h => (nomatch h), fun _ _ h => (nomatch h)⟩⟩, rfl, fun _ => ⟨Tryd.t17, by kernel_rfl, rfl⟩⟩
def ti18 : TI := ⟨1, 8, [.pointer none], .struct [(0, 1)], none, [], none⟩
theorem ti18_ok : ti18.ok Tryd.prog 18 := ⟨⟨Tryd.t18, .agg #[.pointer none], by kernel_rfl, rfl, rfl, rfl, rfl⟩, ⟨_, Tryd.underlying18, ⟨_, rfl, by kernel_rfl, by kernel_rfl⟩⟩, rfl, fun h => nomatch h⟩
def ti19 : TI := ⟨1, 8, [.pointer none], .struct [(0, 1)], none, [], none⟩
theorem ti19_ok : ti19.ok Tryd.prog 19 := ⟨⟨Tryd.t19, .agg #[.pointer none], by kernel_rfl, rfl, rfl, rfl, rfl⟩, ⟨_, Tryd.underlying19, ⟨_, rfl, by kernel_rfl, by kernel_rfl⟩⟩, rfl, fun h => nomatch h⟩
def ti21 : TI := ⟨1, 4, [.int .i32 0], .int .i32, some .rune, [], none⟩
theorem ti21_ok : ti21.ok Tryd.prog 21 := ⟨⟨Tryd.t21, .int .i32 0, by kernel_rfl, rfl, rfl, rfl, rfl⟩, ⟨_, Tryd.underlying21, rfl⟩, rfl, fun _ => ⟨Tryd.t21, by kernel_rfl, rfl⟩⟩
def ti22 : TI := ⟨1, 8, [.int .u64 0], .int .u64, some .u64, [], none⟩
theorem ti22_ok : ti22.ok Tryd.prog 22 := ⟨⟨Tryd.t22, .int .u64 0, by kernel_rfl, rfl, rfl, rfl, rfl⟩, ⟨_, Tryd.underlying22, rfl⟩, rfl, fun _ => ⟨Tryd.t22, by kernel_rfl, rfl⟩⟩
def ti23 : TI := ⟨1, 24, [.slice none 0 0], .slice 26, none, [], none⟩
theorem ti23_ok : ti23.ok Tryd.prog 23 := ⟨⟨Tryd.t23, .slice none 0 0, by kernel_rfl, rfl, rfl, rfl, rfl⟩, ⟨_, Tryd.underlying23, rfl⟩, rfl, fun _ => ⟨Tryd.t23, by kernel_rfl, rfl⟩⟩
def ti24 : TI := ⟨1, 24, [.slice none 0 0], .slice 109, none, [], none⟩
theorem ti24_ok : ti24.ok Tryd.prog 24 := ⟨⟨Tryd.t24, .slice none 0 0, by kernel_rfl, rfl, rfl, rfl, rfl⟩, ⟨_, Tryd.underlying24, rfl⟩, rfl, fun _ => ⟨Tryd.t24, by kernel_rfl, rfl⟩⟩
def ti25 : TI := ⟨6, 88, [.int .i64 0, .int .i64 0, .int .u64 0, .string ⟨#[]⟩, .slice none 0 0, .slice none 0 0], .struct [(0, 1), (1, 1), (2, 1), (3, 1), (4, 1), (5, 1)], none, [], none⟩
theorem ti25_ok : ti25.ok Tryd.prog 25 := ⟨⟨Tryd.t25, .agg #[.int .i64 0, .int .i64 0, .int .u64 0, .string ⟨#[]⟩, .slice none 0 0, .slice none 0 0], by kernel_rfl, rfl, rfl, rfl, rfl⟩, ⟨_, Tryd.underlying25, ⟨_, rfl, by kernel_rfl, by kernel_rfl⟩⟩, rfl, fun h => nomatch h⟩
def ti26 : TI := ⟨6, 88, [.int .i64 0, .int .i64 0, .int .u64 0, .string ⟨#[]⟩, .slice none 0 0, .slice none 0 0], .struct [(0, 1), (1, 1), (2, 1), (3, 1), (4, 1), (5, 1)], some .val, [], none⟩
theorem ti26_ok : ti26.ok Tryd.prog 26 := ⟨⟨Tryd.t26, .agg #[.int .i64 0, .int .i64 0, .int .u64 0, .string ⟨#[]⟩, .slice none 0 0, .slice none 0 0], by kernel_rfl, rfl, rfl, rfl, rfl⟩, ⟨_, Tryd.underlying26, ⟨_, rfl, by kernel_rfl, by kernel_rfl⟩⟩, rfl, fun h => nomatch h⟩
def ti27 : TI := ⟨1, 24, [.slice none 0 0], .slice 5, none, [], none⟩
theorem ti27_ok : ti27.ok Tryd.prog 27 := ⟨⟨Tryd.t27, .slice none 0 0, by kernel_rfl, rfl, rfl, rfl, rfl⟩, ⟨_, Tryd.underlying27, rfl⟩, rfl, fun _ => ⟨Tryd.t27, by kernel_rfl, rfl⟩⟩
def ti28 : TI := ⟨1, 8, [.int .i64 0], .int .i64, some .errno, [], none⟩
theorem ti28_ok : ti28.ok Tryd.prog 28 := ⟨⟨Tryd.t28, .int .i64 0, by kernel_rfl, rfl, rfl, rfl, rfl⟩, ⟨_, Tryd.underlying28, rfl⟩, rfl, fun _ => ⟨Tryd.t28, by kernel_rfl, rfl⟩⟩
def ti45 : TI := ⟨1, 24, [.slice none 0 0], .slice 57, none, [], none⟩
theorem ti45_ok : ti45.ok Tryd.prog 45 := ⟨⟨Tryd.t45, .slice none 0 0, by kernel_rfl, rfl, rfl, rfl, rfl⟩, ⟨_, Tryd.underlying45, rfl⟩, rfl, fun _ => ⟨Tryd.t45, by kernel_rfl, rfl⟩⟩
def ti55 : TI := ⟨1, 24, [.slice none 0 0], .slice 137, some .psteps, [], none⟩
theorem ti55_ok : ti55.ok Tryd.prog 55 := ⟨⟨Tryd.t55, .slice none 0 0, by kernel_rfl, rfl, rfl, rfl, rfl⟩, ⟨_, Tryd.underlying55, rfl⟩, rfl, fun _ => ⟨Tryd.t55, by kernel_rfl, rfl⟩⟩
def ti56 : TI := ⟨9, 136, [.int .i64 0, .slice none 0 0, .int .i64 0, .int .i64 0, .int .u64 0, .string ⟨#[]⟩, .slice none 0 0, .slice none 0 0, .string ⟨#[]⟩], .struct [(0, 1), (1, 1), (2, 6), (8, 1)], none, [], none⟩
theorem ti56_ok : ti56.ok Tryd.prog 56 := ⟨⟨Tryd.t56, .agg #[.int .i64 0, .slice none 0 0, .int .i64 0, .int .i64 0, .int .u64 0, .string ⟨#[]⟩, .slice none 0 0, .slice none 0 0, .string ⟨#[]⟩], by kernel_rfl, rfl, rfl, rfl, rfl⟩, ⟨_, Tryd.underlying56, ⟨_, rfl, by kernel_rfl, by kernel_rfl⟩⟩, rfl, fun h => nomatch h⟩
def ti57 : TI := ⟨9, 136, [.int .i64 0, .slice none 0 0, .int .i64 0, .int .i64 0, .int .u64 0, .string ⟨#[]⟩, .slice none 0 0, .slice none 0 0, .string ⟨#[]⟩], .struct [(0, 1), (1, 1), (2, 6), (8, 1)], some .op, [], none⟩
theorem ti57_ok : ti57.ok Tryd.prog 57 := ⟨⟨Tryd.t57, .agg #[.int .i64 0, .slice none 0 0, .int .i64 0, .int .i64 0, .int .u64 0, .string ⟨#[]⟩, .slice none 0 0, .slice none 0 0, .string ⟨#[]⟩], by kernel_rfl, rfl, rfl, rfl, rfl⟩, ⟨_, Tryd.underlying57, ⟨_, rfl, by kernel_rfl, by kernel_rfl⟩⟩, rfl, fun h => nomatch h⟩
def ti64 : TI := ⟨1, 24, [.slice none 0 0], .slice 143, none, [], none⟩
theorem ti64_ok : ti64.ok Tryd.prog 64 := ⟨⟨Tryd.t64, .slice none 0 0, by kernel_rfl, rfl, rfl, rfl, rfl⟩, ⟨_, Tryd.underlying64, rfl⟩, rfl, fun _ => ⟨Tryd.t64, by kernel_rfl, rfl⟩⟩
def ti65 : TI := ⟨1, 24, [.slice none 0 0], .slice 9, none, [], none⟩
theorem ti65_ok : ti65.ok Tryd.prog 65 := ⟨⟨Tryd.t65, .slice none 0 0, by kernel_rfl, rfl, rfl, rfl, rfl⟩, ⟨_, Tryd.underlying65, rfl⟩, rfl, fun _ => ⟨Tryd.t65, by kernel_rfl, rfl⟩⟩
def ti66 : TI := ⟨1, 24, [.slice none 0 0], .slice 69, none, [], none⟩
theorem ti66_ok : ti66.ok Tryd.prog 66 := ⟨⟨Tryd.t66, .slice none 0 0, by kernel_rfl, rfl, rfl, rfl, rfl⟩, ⟨_, Tryd.underlying66, rfl⟩, rfl, fun _ => ⟨Tryd.t66, by kernel_rfl, rfl⟩⟩
def ti67 : TI := ⟨1, 24, [.slice none 0 0], .slice 166, none, [], none⟩
theorem ti67_ok : ti67.ok Tryd.prog 67 := ⟨⟨Tryd.t67, .slice none 0 0, by kernel_rfl, rfl, rfl, rfl, rfl⟩, ⟨_, Tryd.underlying67, rfl⟩, rfl, fun _ => ⟨Tryd.t67, by kernel_rfl, rfl⟩⟩
def ti68 : TI := ⟨7, 112, [.int .i64 0, .int .i64 0, .int .i64 0, .slice none 0 0, .slice none 0 0, .slice none 0 0, .string ⟨#[]⟩], .struct [(0, 1), (1, 1), (2, 1), (3, 1), (4, 1), (5, 1), (6, 1)], none, [], none⟩
theorem ti68_ok : ti68.ok Tryd.prog 68 := ⟨⟨Tryd.t68, .agg #[.int .i64 0, .int .i64 0, .int .i64 0, .slice none 0 0, .slice none 0 0, .slice none 0 0, .string ⟨#[]⟩], by kernel_rfl, rfl, rfl, rfl, rfl⟩, ⟨_, Tryd.underlying68, ⟨_, rfl, by kernel_rfl, by kernel_rfl⟩⟩, rfl, fun h => nomatch h⟩
def ti69 : TI := ⟨7, 112, [.int .i64 0, .int .i64 0, .int .i64 0, .slice none 0 0, .slice none 0 0, .slice none 0 0, .string ⟨#[]⟩], .struct [(0, 1), (1, 1), (2, 1), (3, 1), (4, 1), (5, 1), (6, 1)], none, [], none⟩
theorem ti69_ok : ti69.ok Tryd.prog 69 := ⟨⟨Tryd.t69, .agg #[.int .i64 0, .int .i64 0, .int .i64 0, .slice none 0 0, .slice none 0 0, .slice none 0 0, .string ⟨#[]⟩], by kernel_rfl, rfl, rfl, rfl, rfl⟩, ⟨_, Tryd.underlying69, ⟨_, rfl, by kernel_rfl, by kernel_rfl⟩⟩, rfl, fun h => nomatch h⟩
def ti70 : TI := ⟨8, 136, [.slice none 0 0, .int .i64 0, .int .i64 0, .int .i64 0, .slice none 0 0, .slice none 0 0, .slice none 0 0, .string ⟨#[]⟩], .struct [(0, 1), (1, 7)], none, [], none⟩
theorem ti70_ok : ti70.ok Tryd.prog 70 := ⟨⟨Tryd.t70, .agg #[.slice none 0 0, .int .i64 0, .int .i64 0, .int .i64 0, .slice none 0 0, .slice none 0 0, .slice none 0 0, .string ⟨#[]⟩], by kernel_rfl, rfl, rfl, rfl, rfl⟩, ⟨_, Tryd.underlying70, ⟨_, rfl, by kernel_rfl, by kernel_rfl⟩⟩, rfl, fun h => nomatch h⟩
def ti71 : TI := ⟨8, 136, [.slice none 0 0, .int .i64 0, .int .i64 0, .int .i64 0, .slice none 0 0, .slice none 0 0, .slice none 0 0, .string ⟨#[]⟩], .struct [(0, 1), (1, 7)], none, [], none⟩
theorem ti71_ok : ti71.ok Tryd.prog 71 := ⟨⟨Tryd.t71, .agg #[.slice none 0 0, .int .i64 0, .int .i64 0, .int .i64 0, .slice none 0 0, .slice none 0 0, .slice none 0 0, .string ⟨#[]⟩], by kernel_rfl, rfl, rfl, rfl, rfl⟩, ⟨_, Tryd.underlying71, ⟨_, rfl, by kernel_rfl, by kernel_rfl⟩⟩, rfl, fun h => nomatch h⟩
def ti75 : TI := ⟨1, 24, [.slice none 0 0], .slice 3, some .ints, [], none⟩
theorem ti75_ok : ti75.ok Tryd.prog 75 := ⟨⟨Tryd.t75, .slice none 0 0, by kernel_rfl, rfl, rfl, rfl, rfl⟩, ⟨_, Tryd.underlying75, rfl⟩, rfl, fun _ => ⟨Tryd.t75, by kernel_rfl, rfl⟩⟩
def ti99 : TI := ⟨1, 8, [.pointer none], .other, none, [], none⟩
theorem ti99_ok : ti99.ok Tryd.prog 99 := ⟨⟨Tryd.t99, .pointer none, by kernel_rfl, rfl, rfl, rfl, rfl⟩, ⟨_, Tryd.underlying99, ⟨fun _ h => (nomatch h), fun _ _ h => (nomatch h)⟩⟩, rfl, fun _ => ⟨Tryd.t99, by kernel_rfl, rfl⟩⟩
def ti100 : TI := ⟨2, 32, [.slice none 0 0, .bool false], .struct [(0, 1), (1, 1)], none, [], none⟩
theorem ti100_ok : ti100.ok Tryd.prog 100 := ⟨⟨Tryd.t100, .agg #[.slice none 0 0, .bool false], by kernel_rfl, rfl, rfl, rfl, rfl⟩, ⟨_, Tryd.underlying100, ⟨_, rfl, by kernel_rfl, by kernel_rfl⟩⟩, rfl, fun h => nomatch h⟩
def ti101 : TI := ⟨2, 32, [.slice none 0 0, .bool false], .struct [(0, 1), (1, 1)], none, [], none⟩
theorem ti101_ok : ti101.ok Tryd.prog 101 := ⟨⟨Tryd.t101, .agg #[.slice none 0 0, .bool false], by kernel_rfl, rfl, rfl, rfl, rfl⟩, ⟨_, Tryd.underlying101, ⟨_, rfl, by kernel_rfl, by kernel_rfl⟩⟩, rfl, fun h => nomatch h⟩
def ti105 : TI := ⟨7, 96, [.int .i64 0, .int .i64 0, .int .u64 0, .string ⟨#[]⟩, .slice none 0 0, .slice none 0 0, .int .i64 0], .struct [(0, 6), (6, 1)], none, [], none⟩
theorem ti105_ok : ti105.ok Tryd.prog 105 := ⟨⟨Tryd.t105, .agg #[.int .i64 0, .int .i64 0, .int .u64 0, .string ⟨#[]⟩, .slice none 0 0, .slice none 0 0, .int .i64 0], by kernel_rfl, rfl, rfl, rfl, rfl⟩, ⟨_, Tryd.underlying105, ⟨_, rfl, by kernel_rfl, by kernel_rfl⟩⟩, rfl, fun h => nomatch h⟩
def ti106 : TI := ⟨7, 96, [.int .i64 0, .int .i64 0, .int .u64 0, .string ⟨#[]⟩, .slice none 0 0, .slice none 0 0, .int .i64 0], .struct [(0, 6), (6, 1)], some .vplace, [], none⟩
theorem ti106_ok : ti106.ok Tryd.prog 106 := ⟨⟨Tryd.t106, .agg #[.int .i64 0, .int .i64 0, .int .u64 0, .string ⟨#[]⟩, .slice none 0 0, .slice none 0 0, .int .i64 0], by kernel_rfl, rfl, rfl, rfl, rfl⟩, ⟨_, Tryd.underlying106, ⟨_, rfl, by kernel_rfl, by kernel_rfl⟩⟩, rfl, fun h => nomatch h⟩
def ti107 : TI := ⟨1, 24, [.slice none 0 0], .slice 106, none, [], none⟩
theorem ti107_ok : ti107.ok Tryd.prog 107 := ⟨⟨Tryd.t107, .slice none 0 0, by kernel_rfl, rfl, rfl, rfl, rfl⟩, ⟨_, Tryd.underlying107, rfl⟩, rfl, fun _ => ⟨Tryd.t107, by kernel_rfl, rfl⟩⟩
def ti108 : TI := ⟨7, 104, [.string ⟨#[]⟩, .int .i64 0, .int .i64 0, .int .u64 0, .string ⟨#[]⟩, .slice none 0 0, .slice none 0 0], .struct [(0, 1), (1, 6)], none, [], none⟩
theorem ti108_ok : ti108.ok Tryd.prog 108 := ⟨⟨Tryd.t108, .agg #[.string ⟨#[]⟩, .int .i64 0, .int .i64 0, .int .u64 0, .string ⟨#[]⟩, .slice none 0 0, .slice none 0 0], by kernel_rfl, rfl, rfl, rfl, rfl⟩, ⟨_, Tryd.underlying108, ⟨_, rfl, by kernel_rfl, by kernel_rfl⟩⟩, rfl, fun h => nomatch h⟩
def ti109 : TI := ⟨7, 104, [.string ⟨#[]⟩, .int .i64 0, .int .i64 0, .int .u64 0, .string ⟨#[]⟩, .slice none 0 0, .slice none 0 0], .struct [(0, 1), (1, 6)], some .ent, [], none⟩
theorem ti109_ok : ti109.ok Tryd.prog 109 := ⟨⟨Tryd.t109, .agg #[.string ⟨#[]⟩, .int .i64 0, .int .i64 0, .int .u64 0, .string ⟨#[]⟩, .slice none 0 0, .slice none 0 0], by kernel_rfl, rfl, rfl, rfl, rfl⟩, ⟨_, Tryd.underlying109, ⟨_, rfl, by kernel_rfl, by kernel_rfl⟩⟩, rfl, fun h => nomatch h⟩
def ti120 : TI := ⟨1, 24, [.slice none 0 0], .slice 3, some .ints, [], none⟩
theorem ti120_ok : ti120.ok Tryd.prog 120 := ⟨⟨Tryd.t120, .slice none 0 0, by kernel_rfl, rfl, rfl, rfl, rfl⟩, ⟨_, Tryd.underlying120, rfl⟩, rfl, fun _ => ⟨Tryd.t120, by kernel_rfl, rfl⟩⟩
def ti125 : TI := ⟨1, 24, [.slice none 0 0], .struct [(0, 1)], none, [], none⟩
theorem ti125_ok : ti125.ok Tryd.prog 125 := ⟨⟨Tryd.t125, .agg #[.slice none 0 0], by kernel_rfl, rfl, rfl, rfl, rfl⟩, ⟨_, Tryd.underlying125, ⟨_, rfl, by kernel_rfl, by kernel_rfl⟩⟩, rfl, fun h => nomatch h⟩
def ti126 : TI := ⟨1, 24, [.slice none 0 0], .struct [(0, 1)], none, [], none⟩
theorem ti126_ok : ti126.ok Tryd.prog 126 := ⟨⟨Tryd.t126, .agg #[.slice none 0 0], by kernel_rfl, rfl, rfl, rfl, rfl⟩, ⟨_, Tryd.underlying126, ⟨_, rfl, by kernel_rfl, by kernel_rfl⟩⟩, rfl, fun h => nomatch h⟩
def ti136 : TI := ⟨2, 24, [.string ⟨#[]⟩, .int .i64 0], .struct [(0, 1), (1, 1)], none, [], none⟩
theorem ti136_ok : ti136.ok Tryd.prog 136 := ⟨⟨Tryd.t136, .agg #[.string ⟨#[]⟩, .int .i64 0], by kernel_rfl, rfl, rfl, rfl, rfl⟩, ⟨_, Tryd.underlying136, ⟨_, rfl, by kernel_rfl, by kernel_rfl⟩⟩, rfl, fun h => nomatch h⟩
def ti137 : TI := ⟨2, 24, [.string ⟨#[]⟩, .int .i64 0], .struct [(0, 1), (1, 1)], some .pstep, [.str, .int], none⟩
theorem ti137_ok : ti137.ok Tryd.prog 137 := ⟨⟨Tryd.t137, .agg #[.string ⟨#[]⟩, .int .i64 0], by kernel_rfl, rfl, rfl, rfl, rfl⟩, ⟨_, Tryd.underlying137, ⟨_, rfl, by kernel_rfl, by kernel_rfl⟩⟩, by kernel_rfl, fun h => nomatch h⟩
def ti141 : TI := ⟨1, 8, [.pointer none], .other, none, [], none⟩
theorem ti141_ok : ti141.ok Tryd.prog 141 := ⟨⟨Tryd.t141, .pointer none, by kernel_rfl, rfl, rfl, rfl, rfl⟩, ⟨_, Tryd.underlying141, ⟨fun _ h => (nomatch h), fun _ _ h => (nomatch h)⟩⟩, rfl, fun _ => ⟨Tryd.t141, by kernel_rfl, rfl⟩⟩
def ti142 : TI := ⟨8, 128, [.string ⟨#[]⟩, .int .i64 0, .int .i64 0, .int .i64 0, .slice none 0 0, .slice none 0 0, .slice none 0 0, .string ⟨#[]⟩], .struct [(0, 1), (1, 7)], none, [], none⟩
theorem ti142_ok : ti142.ok Tryd.prog 142 := ⟨⟨Tryd.t142, .agg #[.string ⟨#[]⟩, .int .i64 0, .int .i64 0, .int .i64 0, .slice none 0 0, .slice none 0 0, .slice none 0 0, .string ⟨#[]⟩], by kernel_rfl, rfl, rfl, rfl, rfl⟩, ⟨_, Tryd.underlying142, ⟨_, rfl, by kernel_rfl, by kernel_rfl⟩⟩, rfl, fun h => nomatch h⟩
def ti143 : TI := ⟨8, 128, [.string ⟨#[]⟩, .int .i64 0, .int .i64 0, .int .i64 0, .slice none 0 0, .slice none 0 0, .slice none 0 0, .string ⟨#[]⟩], .struct [(0, 1), (1, 7)], none, [], none⟩
theorem ti143_ok : ti143.ok Tryd.prog 143 := ⟨⟨Tryd.t143, .agg #[.string ⟨#[]⟩, .int .i64 0, .int .i64 0, .int .i64 0, .slice none 0 0, .slice none 0 0, .slice none 0 0, .string ⟨#[]⟩], by kernel_rfl, rfl, rfl, rfl, rfl⟩, ⟨_, Tryd.underlying143, ⟨_, rfl, by kernel_rfl, by kernel_rfl⟩⟩, rfl, fun h => nomatch h⟩
def ti148 : TI := ⟨1, 8, [.map none], .mp 9 4, none, [], none⟩
theorem ti148_ok : ti148.ok Tryd.prog 148 := ⟨⟨Tryd.t148, .map none, by kernel_rfl, rfl, rfl, rfl, rfl⟩, ⟨_, Tryd.underlying148, rfl⟩, rfl, fun _ => ⟨Tryd.t148, by kernel_rfl, rfl⟩⟩
def ti151 : TI := ⟨1, 8, [.pointer none], .other, none, [], none⟩
theorem ti151_ok : ti151.ok Tryd.prog 151 := ⟨⟨Tryd.t151, .pointer none, by kernel_rfl, rfl, rfl, rfl, rfl⟩, ⟨_, Tryd.underlying151, ⟨fun _ h => (nomatch h), fun _ _ h => (nomatch h)⟩⟩, rfl, fun _ => ⟨Tryd.t151, by kernel_rfl, rfl⟩⟩
def ti152 : TI := ⟨9, 144, [.slice none 0 0, .int .i64 0, .int .i64 0, .int .i64 0, .slice none 0 0, .slice none 0 0, .slice none 0 0, .string ⟨#[]⟩, .int .i64 0], .struct [(0, 8), (8, 1)], none, [], none⟩
theorem ti152_ok : ti152.ok Tryd.prog 152 := ⟨⟨Tryd.t152, .agg #[.slice none 0 0, .int .i64 0, .int .i64 0, .int .i64 0, .slice none 0 0, .slice none 0 0, .slice none 0 0, .string ⟨#[]⟩, .int .i64 0], by kernel_rfl, rfl, rfl, rfl, rfl⟩, ⟨_, Tryd.underlying152, ⟨_, rfl, by kernel_rfl, by kernel_rfl⟩⟩, rfl, fun h => nomatch h⟩
def ti153 : TI := ⟨9, 144, [.slice none 0 0, .int .i64 0, .int .i64 0, .int .i64 0, .slice none 0 0, .slice none 0 0, .slice none 0 0, .string ⟨#[]⟩, .int .i64 0], .struct [(0, 8), (8, 1)], none, [], none⟩
theorem ti153_ok : ti153.ok Tryd.prog 153 := ⟨⟨Tryd.t153, .agg #[.slice none 0 0, .int .i64 0, .int .i64 0, .int .i64 0, .slice none 0 0, .slice none 0 0, .slice none 0 0, .string ⟨#[]⟩, .int .i64 0], by kernel_rfl, rfl, rfl, rfl, rfl⟩, ⟨_, Tryd.underlying153, ⟨_, rfl, by kernel_rfl, by kernel_rfl⟩⟩, rfl, fun h => nomatch h⟩
def ti165 : TI := ⟨16, 224, [.string ⟨#[]⟩, .bool false, .bool false, .int .i64 0, .int .i64 0, .int .i64 0, .slice none 0 0, .slice none 0 0, .slice none 0 0, .string ⟨#[]⟩, .int .i64 0, .int .i64 0, .int .u64 0, .string ⟨#[]⟩, .slice none 0 0, .slice none 0 0], .struct [(0, 1), (1, 1), (2, 1), (3, 7), (10, 6)], none, [], none⟩
theorem ti165_ok : ti165.ok Tryd.prog 165 := ⟨⟨Tryd.t165, .agg #[.string ⟨#[]⟩, .bool false, .bool false, .int .i64 0, .int .i64 0, .int .i64 0, .slice none 0 0, .slice none 0 0, .slice none 0 0, .string ⟨#[]⟩, .int .i64 0, .int .i64 0, .int .u64 0, .string ⟨#[]⟩, .slice none 0 0, .slice none 0 0], by kernel_rfl, rfl, rfl, rfl, rfl⟩, ⟨_, Tryd.underlying165, ⟨_, rfl, by kernel_rfl, by kernel_rfl⟩⟩, rfl, fun h => nomatch h⟩
def ti166 : TI := ⟨16, 224, [.string ⟨#[]⟩, .bool false, .bool false, .int .i64 0, .int .i64 0, .int .i64 0, .slice none 0 0, .slice none 0 0, .slice none 0 0, .string ⟨#[]⟩, .int .i64 0, .int .i64 0, .int .u64 0, .string ⟨#[]⟩, .slice none 0 0, .slice none 0 0], .struct [(0, 1), (1, 1), (2, 1), (3, 7), (10, 6)], none, [], none⟩
theorem ti166_ok : ti166.ok Tryd.prog 166 := ⟨⟨Tryd.t166, .agg #[.string ⟨#[]⟩, .bool false, .bool false, .int .i64 0, .int .i64 0, .int .i64 0, .slice none 0 0, .slice none 0 0, .slice none 0 0, .string ⟨#[]⟩, .int .i64 0, .int .i64 0, .int .u64 0, .string ⟨#[]⟩, .slice none 0 0, .slice none 0 0], by kernel_rfl, rfl, rfl, rfl, rfl⟩, ⟨_, Tryd.underlying166, ⟨_, rfl, by kernel_rfl, by kernel_rfl⟩⟩, rfl, fun h => nomatch h⟩
def ti169 : TI := ⟨1, 8, [.pointer none], .other, none, [], none⟩
theorem ti169_ok : ti169.ok Tryd.prog 169 := ⟨⟨Tryd.t169, .pointer none, by kernel_rfl, rfl, rfl, rfl, rfl⟩, ⟨_, Tryd.underlying169, ⟨fun _ h => (nomatch h), fun _ _ h => (nomatch h)⟩⟩, rfl, fun _ => ⟨Tryd.t169, by kernel_rfl, rfl⟩⟩
def ti170 : TI := ⟨9, 144, [.slice none 0 0, .int .i64 0, .int .i64 0, .int .i64 0, .slice none 0 0, .slice none 0 0, .slice none 0 0, .string ⟨#[]⟩, .bool false], .struct [(0, 8), (8, 1)], none, [], none⟩
theorem ti170_ok : ti170.ok Tryd.prog 170 := ⟨⟨Tryd.t170, .agg #[.slice none 0 0, .int .i64 0, .int .i64 0, .int .i64 0, .slice none 0 0, .slice none 0 0, .slice none 0 0, .string ⟨#[]⟩, .bool false], by kernel_rfl, rfl, rfl, rfl, rfl⟩, ⟨_, Tryd.underlying170, ⟨_, rfl, by kernel_rfl, by kernel_rfl⟩⟩, rfl, fun h => nomatch h⟩
def ti171 : TI := ⟨9, 144, [.slice none 0 0, .int .i64 0, .int .i64 0, .int .i64 0, .slice none 0 0, .slice none 0 0, .slice none 0 0, .string ⟨#[]⟩, .bool false], .struct [(0, 8), (8, 1)], none, [], none⟩
theorem ti171_ok : ti171.ok Tryd.prog 171 := ⟨⟨Tryd.t171, .agg #[.slice none 0 0, .int .i64 0, .int .i64 0, .int .i64 0, .slice none 0 0, .slice none 0 0, .slice none 0 0, .string ⟨#[]⟩, .bool false], by kernel_rfl, rfl, rfl, rfl, rfl⟩, ⟨_, Tryd.underlying171, ⟨_, rfl, by kernel_rfl, by kernel_rfl⟩⟩, rfl, fun h => nomatch h⟩
def ti174 : TI := ⟨1, 24, [.slice none 0 0], .slice 21, none, [], none⟩
theorem ti174_ok : ti174.ok Tryd.prog 174 := ⟨⟨Tryd.t174, .slice none 0 0, by kernel_rfl, rfl, rfl, rfl, rfl⟩, ⟨_, Tryd.underlying174, rfl⟩, rfl, fun _ => ⟨Tryd.t174, by kernel_rfl, rfl⟩⟩
def ti180 : TI := ⟨1, 24, [.slice none 0 0], .slice 252, none, [], none⟩
theorem ti180_ok : ti180.ok Tryd.prog 180 := ⟨⟨Tryd.t180, .slice none 0 0, by kernel_rfl, rfl, rfl, rfl, rfl⟩, ⟨_, Tryd.underlying180, rfl⟩, rfl, fun _ => ⟨Tryd.t180, by kernel_rfl, rfl⟩⟩
def ti188 : TI := ⟨1, 8, [.pointer none], .other, none, [], none⟩
theorem ti188_ok : ti188.ok Tryd.prog 188 := ⟨⟨Tryd.t188, .pointer none, by kernel_rfl, rfl, rfl, rfl, rfl⟩, ⟨_, Tryd.underlying188, ⟨fun _ h => (nomatch h), fun _ _ h => (nomatch h)⟩⟩, rfl, fun _ => ⟨Tryd.t188, by kernel_rfl, rfl⟩⟩
def ti190 : TI := ⟨1, 8, [.int .u64 0], .int .u64, none, [], none⟩
theorem ti190_ok : ti190.ok Tryd.prog 190 := ⟨⟨Tryd.t190, .int .u64 0, by kernel_rfl, rfl, rfl, rfl, rfl⟩, ⟨_, Tryd.underlying190, rfl⟩, rfl, fun _ => ⟨Tryd.t190, by kernel_rfl, rfl⟩⟩
def ti203 : TI := ⟨2, 24, [.string ⟨#[]⟩, .int .u64 0], .struct [(0, 1), (1, 1)], none, [], none⟩
theorem ti203_ok : ti203.ok Tryd.prog 203 := ⟨⟨Tryd.t203, .agg #[.string ⟨#[]⟩, .int .u64 0], by kernel_rfl, rfl, rfl, rfl, rfl⟩, ⟨_, Tryd.underlying203, ⟨_, rfl, by kernel_rfl, by kernel_rfl⟩⟩, rfl, fun h => nomatch h⟩
def ti204 : TI := ⟨1, 24, [.slice none 0 0], .slice 203, none, [], none⟩
theorem ti204_ok : ti204.ok Tryd.prog 204 := ⟨⟨Tryd.t204, .slice none 0 0, by kernel_rfl, rfl, rfl, rfl, rfl⟩, ⟨_, Tryd.underlying204, rfl⟩, rfl, fun _ => ⟨Tryd.t204, by kernel_rfl, rfl⟩⟩
def ti210 : TI := ⟨1, 8, [.pointer none], .other, none, [], none⟩
theorem ti210_ok : ti210.ok Tryd.prog 210 := ⟨⟨Tryd.t210, .pointer none, by kernel_rfl, rfl, rfl, rfl, rfl⟩, ⟨_, Tryd.underlying210, ⟨fun _ h => (nomatch h), fun _ _ h => (nomatch h)⟩⟩, rfl, fun _ => ⟨Tryd.t210, by kernel_rfl, rfl⟩⟩
def ti220 : TI := ⟨1, 24, [.slice none 0 0], .slice 222, none, [], none⟩
theorem ti220_ok : ti220.ok Tryd.prog 220 := ⟨⟨Tryd.t220, .slice none 0 0, by kernel_rfl, rfl, rfl, rfl, rfl⟩, ⟨_, Tryd.underlying220, rfl⟩, rfl, fun _ => ⟨Tryd.t220, by kernel_rfl, rfl⟩⟩
def ti221 : TI := ⟨8, 120, [.int .i64 0, .int .i64 0, .int .i64 0, .slice none 0 0, .slice none 0 0, .slice none 0 0, .string ⟨#[]⟩, .int .i64 0], .struct [(0, 7), (7, 1)], none, [], none⟩
theorem ti221_ok : ti221.ok Tryd.prog 221 := ⟨⟨Tryd.t221, .agg #[.int .i64 0, .int .i64 0, .int .i64 0, .slice none 0 0, .slice none 0 0, .slice none 0 0, .string ⟨#[]⟩, .int .i64 0], by kernel_rfl, rfl, rfl, rfl, rfl⟩, ⟨_, Tryd.underlying221, ⟨_, rfl, by kernel_rfl, by kernel_rfl⟩⟩, rfl, fun h => nomatch h⟩
def ti222 : TI := ⟨8, 120, [.int .i64 0, .int .i64 0, .int .i64 0, .slice none 0 0, .slice none 0 0, .slice none 0 0, .string ⟨#[]⟩, .int .i64 0], .struct [(0, 7), (7, 1)], some .vplace, [], none⟩
theorem ti222_ok : ti222.ok Tryd.prog 222 := ⟨⟨Tryd.t222, .agg #[.int .i64 0, .int .i64 0, .int .i64 0, .slice none 0 0, .slice none 0 0, .slice none 0 0, .string ⟨#[]⟩, .int .i64 0], by kernel_rfl, rfl, rfl, rfl, rfl⟩, ⟨_, Tryd.underlying222, ⟨_, rfl, by kernel_rfl, by kernel_rfl⟩⟩, rfl, fun h => nomatch h⟩
def ti246 : TI := ⟨256, 256, [.bool false, .bool false, .bool false, .bool false, .bool false, .bool false, .bool false, .bool false, .bool false, .bool false, .bool false, .bool false, .bool false, .bool false, .bool false, .bool false, .bool false, .bool false, .bool false, .bool false, .bool false, .bool false, .bool false, .bool false, .bool false, .bool false, .bool false, .bool false, .bool false, .bool false, .bool false, .bool false, .bool false, .bool false, .bool false, .bool false, .bool false, .bool false, .bool false, .bool false, .bool false, .bool false, .bool false, .bool false, .bool false, .bool false, .bool false, .bool false, .bool false, .bool false, .bool false, .bool false, .bool false, .bool false, .bool false, .bool false, .bool false, .bool false, .bool false, .bool false, .bool false, .bool false, .bool false, .bool false, .bool false, .bool false, .bool false, .bool false, .bool false, .bool false, .bool false, .bool false, .bool false, .bool false, .bool false, .bool false, .bool false, .bool false, .bool false, .bool false, .bool false, .bool false, .bool false, .bool false, .bool false, .bool false, .bool false, .bool false, .bool false, .bool false, .bool false, .bool false, .bool false, .bool false, .bool false, .bool false, .bool false, .bool false, .bool false, .bool false, .bool false, .bool false, .bool false, .bool false, .bool false, .bool false, .bool false, .bool false, .bool false, .bool false, .bool false, .bool false, .bool false, .bool false, .bool false, .bool false, .bool false, .bool false, .bool false, .bool false, .bool false, .bool false, .bool false, .bool false, .bool false, .bool false, .bool false, .bool false, .bool false, .bool false, .bool false, .bool false, .bool false, .bool false, .bool false, .bool false, .bool false, .bool false, .bool false, .bool false, .bool false, .bool false, .bool false, .bool false, .bool false, .bool false, .bool false, .bool false, .bool false, .bool false, .bool false, .bool false, .bool false, .bool false, .bool false, .bool false, .bool false, .bool false, .bool false, .bool false, .bool false, .bool false, .bool false, .bool false, .bool false, .bool false, .bool false, .bool false, .bool false, .bool false, .bool false, .bool false, .bool false, .bool false, .bool false, .bool false, .bool false, .bool false, .bool false, .bool false, .bool false, .bool false, .bool false, .bool false, .bool false, .bool false, .bool false, .bool false, .bool false, .bool false, .bool false, .bool false, .bool false, .bool false, .bool false, .bool false, .bool false, .bool false, .bool false, .bool false, .bool false, .bool false, .bool false, .bool false, .bool false, .bool false, .bool false, .bool false, .bool false, .bool false, .bool false, .bool false, .bool false, .bool false, .bool false, .bool false, .bool false, .bool false, .bool false, .bool false, .bool false, .bool false, .bool false, .bool false, .bool false, .bool false, .bool false, .bool false, .bool false, .bool false, .bool false, .bool false, .bool false, .bool false, .bool false, .bool false, .bool false, .bool false, .bool false, .bool false, .bool false, .bool false, .bool false, .bool false, .bool false, .bool false, .bool false, .bool false, .bool false, .bool false, .bool false, .bool false, .bool false, .bool false, .bool false, .bool false], .arr 256 4, none, [], none⟩
theorem ti246_ok : ti246.ok Tryd.prog 246 := ⟨⟨Tryd.t246, .agg #[.bool false, .bool false, .bool false, .bool false, .bool false, .bool false, .bool false, .bool false, .bool false, .bool false, .bool false, .bool false, .bool false, .bool false, .bool false, .bool false, .bool false, .bool false, .bool false, .bool false, .bool false, .bool false, .bool false, .bool false, .bool false, .bool false, .bool false, .bool false, .bool false, .bool false, .bool false, .bool false, .bool false, .bool false, .bool false, .bool false, .bool false, .bool false, .bool false, .bool false, .bool false, .bool false, .bool false, .bool false, .bool false, .bool false, .bool false, .bool false, .bool false, .bool false, .bool false, .bool false, .bool false, .bool false, .bool false, .bool false, .bool false, .bool false, .bool false, .bool false, .bool false, .bool false, .bool false, .bool false, .bool false, .bool false, .bool false, .bool false, .bool false, .bool false, .bool false, .bool false, .bool false, .bool false, .bool false, .bool false, .bool false, .bool false, .bool false, .bool false, .bool false, .bool false, .bool false, .bool false, .bool false, .bool false, .bool false, .bool false, .bool false, .bool false, .bool false, .bool false, .bool false, .bool false, .bool false, .bool false, .bool false, .bool false, .bool false, .bool false, .bool false, .bool false, .bool false, .bool false, .bool false, .bool false, .bool false, .bool false, .bool false, .bool false, .bool false, .bool false, .bool false, .bool false, .bool false, .bool false, .bool false, .bool false, .bool false, .bool false, .bool false, .bool false, .bool false, .bool false, .bool false, .bool false, .bool false, .bool false, .bool false, .bool false, .bool false, .bool false, .bool false, .bool false, .bool false, .bool false, .bool false, .bool false, .bool false, .bool false, .bool false, .bool false, .bool false, .bool false, .bool false, .bool false, .bool false, .bool false, .bool false, .bool false, .bool false, .bool false, .bool false, .bool false, .bool false, .bool false, .bool false, .bool false, .bool false, .bool false, .bool false, .bool false, .bool false, .bool false, .bool false, .bool false, .bool false, .bool false, .bool false, .bool false, .bool false, .bool false, .bool false, .bool false, .bool false, .bool false, .bool false, .bool false, .bool false, .bool false, .bool false, .bool false, .bool false, .bool false, .bool false, .bool false, .bool false, .bool false, .bool false, .bool false, .bool false, .bool false, .bool false, .bool false, .bool false, .bool false, .bool false, .bool false, .bool false, .bool false, .bool false, .bool false, .bool false, .bool false, .bool false, .bool false, .bool false, .bool false, .bool false, .bool false, .bool false, .bool false, .bool false, .bool false, .bool false, .bool false, .bool false, .bool false, .bool false, .bool false, .bool false, .bool false, .bool false, .bool false, .bool false, .bool false, .bool false, .bool false, .bool false, .bool false, .bool false, .bool false, .bool false, .bool false, .bool false, .bool false, .bool false, .bool false, .bool false, .bool false, .bool false, .bool false, .bool false, .bool false, .bool false, .bool false, .bool false, .bool false, .bool false, .bool false, .bool false, .bool false, .bool false, .bool false, .bool false, .bool false], by kernel_rfl, rfl, rfl, rfl, rfl⟩, ⟨_, Tryd.underlying246, rfl⟩, rfl, fun h => nomatch h⟩
def ti247 : TI := ⟨256, 256, [.bool false, .bool false, .bool false, .bool false, .bool false, .bool false, .bool false, .bool false, .bool false, .bool false, .bool false, .bool false, .bool false, .bool false, .bool false, .bool false, .bool false, .bool false, .bool false, .bool false, .bool false, .bool false, .bool false, .bool false, .bool false, .bool false, .bool false, .bool false, .bool false, .bool false, .bool false, .bool false, .bool false, .bool false, .bool false, .bool false, .bool false, .bool false, .bool false, .bool false, .bool false, .bool false, .bool false, .bool false, .bool false, .bool false, .bool false, .bool false, .bool false, .bool false, .bool false, .bool false, .bool false, .bool false, .bool false, .bool false, .bool false, .bool false, .bool false, .bool false, .bool false, .bool false, .bool false, .bool false, .bool false, .bool false, .bool false, .bool false, .bool false, .bool false, .bool false, .bool false, .bool false, .bool false, .bool false, .bool false, .bool false, .bool false, .bool false, .bool false, .bool false, .bool false, .bool false, .bool false, .bool false, .bool false, .bool false, .bool false, .bool false, .bool false, .bool false, .bool false, .bool false, .bool false, .bool false, .bool false, .bool false, .bool false, .bool false, .bool false, .bool false, .bool false, .bool false, .bool false, .bool false, .bool false, .bool false, .bool false, .bool false, .bool false, .bool false, .bool false, .bool false, .bool false, .bool false, .bool false, .bool false, .bool false, .bool false, .bool false, .bool false, .bool false, .bool false, .bool false, .bool false, .bool false, .bool false, .bool false, .bool false, .bool false, .bool false, .bool false, .bool false, .bool false, .bool false, .bool false, .bool false, .bool false, .bool false, .bool false, .bool false, .bool false, .bool false, .bool false, .bool false, .bool false, .bool false, .bool false, .bool false, .bool false, .bool false, .bool false, .bool false, .bool false, .bool false, .bool false, .bool false, .bool false, .bool false, .bool false, .bool false, .bool false, .bool false, .bool false, .bool false, .bool false, .bool false, .bool false, .bool false, .bool false, .bool false, .bool false, .bool false, .bool false, .bool false, .bool false, .bool false, .bool false, .bool false, .bool false, .bool false, .bool false, .bool false, .bool false, .bool false, .bool false, .bool false, .bool false, .bool false, .bool false, .bool false, .bool false, .bool false, .bool false, .bool false, .bool false, .bool false, .bool false, .bool false, .bool false, .bool false, .bool false, .bool false, .bool false, .bool false, .bool false, .bool false, .bool false, .bool false, .bool false, .bool false, .bool false, .bool false, .bool false, .bool false, .bool false, .bool false, .bool false, .bool false, .bool false, .bool false, .bool false, .bool false, .bool false, .bool false, .bool false, .bool false, .bool false, .bool false, .bool false, .bool false, .bool false, .bool false, .bool false, .bool false, .bool false, .bool false, .bool false, .bool false, .bool false, .bool false, .bool false, .bool false, .bool false, .bool false, .bool false, .bool false, .bool false, .bool false, .bool false, .bool false, .bool false, .bool false, .bool false, .bool false, .bool false], .arr 256 4, none, [], none⟩
theorem ti247_ok : ti247.ok Tryd.prog 247 := ⟨⟨Tryd.t247, .agg #[.bool false, .bool false, .bool false, .bool false, .bool false, .bool false, .bool false, .bool false, .bool false, .bool false, .bool false, .bool false, .bool false, .bool false, .bool false, .bool false, .bool false, .bool false, .bool false, .bool false, .bool false, .bool false, .bool false, .bool false, .bool false, .bool false, .bool false, .bool false, .bool false, .bool false, .bool false, .bool false, .bool false, .bool false, .bool false, .bool false, .bool false, .bool false, .bool false, .bool false, .bool false, .bool false, .bool false, .bool false, .bool false, .bool false, .bool false, .bool false, .bool false, .bool false, .bool false, .bool false, .bool false, .bool false, .bool false, .bool false, .bool false, .bool false, .bool false, .bool false, .bool false, .bool false, .bool false, .bool false, .bool false, .bool false, .bool false, .bool false, .bool false, .bool false, .bool false, .bool false, .bool false, .bool false, .bool false, .bool false, .bool false, .bool false, .bool false, .bool false, .bool false, .bool false, .bool false, .bool false, .bool false, .bool false, .bool false, .bool false, .bool false, .bool false, .bool false, .bool false, .bool false, .bool false, .bool false, .bool false, .bool false, .bool false, .bool false, .bool false, .bool false, .bool false, .bool false, .bool false, .bool false, .bool false, .bool false, .bool false, .bool false, .bool false, .bool false, .bool false, .bool false, .bool false, .bool false, .bool false, .bool false, .bool false, .bool false, .bool false, .bool false, .bool false, .bool false, .bool false, .bool false, .bool false, .bool false, .bool false, .bool false, .bool false, .bool false, .bool false, .bool false, .bool false, .bool false, .bool false, .bool false, .bool false, .bool false, .bool false, .bool false, .bool false, .bool false, .bool false, .bool false, .bool false, .bool false, .bool false, .bool false, .bool false, .bool false, .bool false, .bool false, .bool false, .bool false, .bool false, .bool false, .bool false, .bool false, .bool false, .bool false, .bool false, .bool false, .bool false, .bool false, .bool false, .bool false, .bool false, .bool false, .bool false, .bool false, .bool false, .bool false, .bool false, .bool false, .bool false, .bool false, .bool false, .bool false, .bool false, .bool false, .bool false, .bool false, .bool false, .bool false, .bool false, .bool false, .bool false, .bool false, .bool false, .bool false, .bool false, .bool false, .bool false, .bool false, .bool false, .bool false, .bool false, .bool false, .bool false, .bool false, .bool false, .bool false, .bool false, .bool false, .bool false, .bool false, .bool false, .bool false, .bool false, .bool false, .bool false, .bool false, .bool false, .bool false, .bool false, .bool false, .bool false, .bool false, .bool false, .bool false, .bool false, .bool false, .bool false, .bool false, .bool false, .bool false, .bool false, .bool false, .bool false, .bool false, .bool false, .bool false, .bool false, .bool false, .bool false, .bool false, .bool false, .bool false, .bool false, .bool false, .bool false, .bool false, .bool false, .bool false, .bool false, .bool false, .bool false, .bool false, .bool false, .bool false, .bool false, .bool false, .bool false, .bool false, .bool false], by kernel_rfl, rfl, rfl, rfl, rfl⟩, ⟨_, Tryd.underlying247, rfl⟩, rfl, fun h => nomatch h⟩
def ti251 : TI := ⟨1, 8, [.pointer none], .other, none, [], none⟩
theorem ti251_ok : ti251.ok Tryd.prog 251 := ⟨⟨Tryd.t251, .pointer none, by kernel_rfl, rfl, rfl, rfl, rfl⟩, ⟨_, Tryd.underlying251, ⟨fun _ h => (nomatch h), fun _ _ h => (nomatch h)⟩⟩, rfl, fun _ => ⟨Tryd.t251, by kernel_rfl, rfl⟩⟩
def ti252 : TI := ⟨1, 4, [.int .u32 0], .int .u32, some .u32, [], none⟩
theorem ti252_ok : ti252.ok Tryd.prog 252 := ⟨⟨Tryd.t252, .int .u32 0, by kernel_rfl, rfl, rfl, rfl, rfl⟩, ⟨_, Tryd.underlying252, rfl⟩, rfl, fun _ => ⟨Tryd.t252, by kernel_rfl, rfl⟩⟩
def ti263 : TI := ⟨1, 8, [.pointer none], .other, none, [], none⟩
theorem ti263_ok : ti263.ok Tryd.prog 263 := ⟨⟨Tryd.t263, .pointer none, by kernel_rfl, rfl, rfl, rfl, rfl⟩, ⟨_, Tryd.underlying263, ⟨fun _ h => (nomatch h), fun _ _ h => (nomatch h)⟩⟩, rfl, fun _ => ⟨Tryd.t263, by kernel_rfl, rfl⟩⟩
def ti264 : TI := ⟨2, 32, [.pointer none, .slice none 0 0], .struct [(0, 1), (1, 1)], none, [], none⟩
theorem ti264_ok : ti264.ok Tryd.prog 264 := ⟨⟨Tryd.t264, .agg #[.pointer none, .slice none 0 0], by kernel_rfl, rfl, rfl, rfl, rfl⟩, ⟨_, Tryd.underlying264, ⟨_, rfl, by kernel_rfl, by kernel_rfl⟩⟩, rfl, fun h => nomatch h⟩
def ti265 : TI := ⟨2, 32, [.pointer none, .slice none 0 0], .struct [(0, 1), (1, 1)], none, [], some 5⟩
theorem ti265_ok : ti265.ok Tryd.prog 265 := ⟨⟨Tryd.t265, .agg #[.pointer none, .slice none 0 0], by kernel_rfl, rfl, rfl, rfl, rfl⟩, ⟨_, Tryd.underlying265, ⟨_, rfl, by kernel_rfl, by kernel_rfl⟩⟩, rfl, fun h => nomatch h⟩
def ti269 : TI := ⟨24, 24, [.int .u8 0, .int .u8 0, .int .u8 0, .int .u8 0, .int .u8 0, .int .u8 0, .int .u8 0, .int .u8 0, .int .u8 0, .int .u8 0, .int .u8 0, .int .u8 0, .int .u8 0, .int .u8 0, .int .u8 0, .int .u8 0, .int .u8 0, .int .u8 0, .int .u8 0, .int .u8 0, .int .u8 0, .int .u8 0, .int .u8 0, .int .u8 0], .arr 24 5, none, [], none⟩
theorem ti269_ok : ti269.ok Tryd.prog 269 := ⟨⟨Tryd.t269, .agg #[.int .u8 0, .int .u8 0, .int .u8 0, .int .u8 0, .int .u8 0, .int .u8 0, .int .u8 0, .int .u8 0, .int .u8 0, .int .u8 0, .int .u8 0, .int .u8 0, .int .u8 0, .int .u8 0, .int .u8 0, .int .u8 0, .int .u8 0, .int .u8 0, .int .u8 0, .int .u8 0, .int .u8 0, .int .u8 0, .int .u8 0, .int .u8 0], by kernel_rfl, rfl, rfl, rfl, rfl⟩, ⟨_, Tryd.underlying269, rfl⟩, rfl, fun h => nomatch h⟩
def ti274 : TI := ⟨1, 24, [.slice none 0 0], .slice 75, none, [], none⟩
theorem ti274_ok : ti274.ok Tryd.prog 274 := ⟨⟨Tryd.t274, .slice none 0 0, by kernel_rfl, rfl, rfl, rfl, rfl⟩, ⟨_, Tryd.underlying274, rfl⟩, rfl, fun _ => ⟨Tryd.t274, by kernel_rfl, rfl⟩⟩
def ti300 : TI := ⟨1, 8, [.pointer none], .other, none, [], none⟩
theorem ti300_ok : ti300.ok Tryd.prog 300 := ⟨⟨Tryd.t300, .pointer none, by kernel_rfl, rfl, rfl, rfl, rfl⟩, ⟨_, Tryd.underlying300, ⟨fun _ h => (nomatch h), fun _ _ h => (nomatch h)⟩⟩, rfl, fun _ => ⟨Tryd.t300, by kernel_rfl, rfl⟩⟩
def ti301 : TI := ⟨20, 160, [.int .u64 0, .int .u64 0, .int .u64 0, .int .u64 0, .int .u64 0, .int .u64 0, .int .u64 0, .int .u64 0, .int .u64 0, .int .u64 0, .int .u64 0, .int .u64 0, .int .u64 0, .int .u64 0, .int .u64 0, .int .u64 0, .int .u64 0, .int .u64 0, .int .u64 0, .int .u64 0], .arr 20 22, none, [], none⟩
theorem ti301_ok : ti301.ok Tryd.prog 301 := ⟨⟨Tryd.t301, .agg #[.int .u64 0, .int .u64 0, .int .u64 0, .int .u64 0, .int .u64 0, .int .u64 0, .int .u64 0, .int .u64 0, .int .u64 0, .int .u64 0, .int .u64 0, .int .u64 0, .int .u64 0, .int .u64 0, .int .u64 0, .int .u64 0, .int .u64 0, .int .u64 0, .int .u64 0, .int .u64 0], by kernel_rfl, rfl, rfl, rfl, rfl⟩, ⟨_, Tryd.underlying301, rfl⟩, rfl, fun h => nomatch h⟩
def ti302 : TI := ⟨65, 65, [.int .u8 0, .int .u8 0, .int .u8 0, .int .u8 0, .int .u8 0, .int .u8 0, .int .u8 0, .int .u8 0, .int .u8 0, .int .u8 0, .int .u8 0, .int .u8 0, .int .u8 0, .int .u8 0, .int .u8 0, .int .u8 0, .int .u8 0, .int .u8 0, .int .u8 0, .int .u8 0, .int .u8 0, .int .u8 0, .int .u8 0, .int .u8 0, .int .u8 0, .int .u8 0, .int .u8 0, .int .u8 0, .int .u8 0, .int .u8 0, .int .u8 0, .int .u8 0, .int .u8 0, .int .u8 0, .int .u8 0, .int .u8 0, .int .u8 0, .int .u8 0, .int .u8 0, .int .u8 0, .int .u8 0, .int .u8 0, .int .u8 0, .int .u8 0, .int .u8 0, .int .u8 0, .int .u8 0, .int .u8 0, .int .u8 0, .int .u8 0, .int .u8 0, .int .u8 0, .int .u8 0, .int .u8 0, .int .u8 0, .int .u8 0, .int .u8 0, .int .u8 0, .int .u8 0, .int .u8 0, .int .u8 0, .int .u8 0, .int .u8 0, .int .u8 0, .int .u8 0], .arr 65 5, none, [], none⟩
theorem ti302_ok : ti302.ok Tryd.prog 302 := ⟨⟨Tryd.t302, .agg #[.int .u8 0, .int .u8 0, .int .u8 0, .int .u8 0, .int .u8 0, .int .u8 0, .int .u8 0, .int .u8 0, .int .u8 0, .int .u8 0, .int .u8 0, .int .u8 0, .int .u8 0, .int .u8 0, .int .u8 0, .int .u8 0, .int .u8 0, .int .u8 0, .int .u8 0, .int .u8 0, .int .u8 0, .int .u8 0, .int .u8 0, .int .u8 0, .int .u8 0, .int .u8 0, .int .u8 0, .int .u8 0, .int .u8 0, .int .u8 0, .int .u8 0, .int .u8 0, .int .u8 0, .int .u8 0, .int .u8 0, .int .u8 0, .int .u8 0, .int .u8 0, .int .u8 0, .int .u8 0, .int .u8 0, .int .u8 0, .int .u8 0, .int .u8 0, .int .u8 0, .int .u8 0, .int .u8 0, .int .u8 0, .int .u8 0, .int .u8 0, .int .u8 0, .int .u8 0, .int .u8 0, .int .u8 0, .int .u8 0, .int .u8 0, .int .u8 0, .int .u8 0, .int .u8 0, .int .u8 0, .int .u8 0, .int .u8 0, .int .u8 0, .int .u8 0, .int .u8 0], by kernel_rfl, rfl, rfl, rfl, rfl⟩, ⟨_, Tryd.underlying302, rfl⟩, rfl, fun h => nomatch h⟩
def ti320 : TI := ⟨256, 256, [.int .u8 0, .int .u8 0, .int .u8 0, .int .u8 0, .int .u8 0, .int .u8 0, .int .u8 0, .int .u8 0, .int .u8 0, .int .u8 0, .int .u8 0, .int .u8 0, .int .u8 0, .int .u8 0, .int .u8 0, .int .u8 0, .int .u8 0, .int .u8 0, .int .u8 0, .int .u8 0, .int .u8 0, .int .u8 0, .int .u8 0, .int .u8 0, .int .u8 0, .int .u8 0, .int .u8 0, .int .u8 0, .int .u8 0, .int .u8 0, .int .u8 0, .int .u8 0, .int .u8 0, .int .u8 0, .int .u8 0, .int .u8 0, .int .u8 0, .int .u8 0, .int .u8 0, .int .u8 0, .int .u8 0, .int .u8 0, .int .u8 0, .int .u8 0, .int .u8 0, .int .u8 0, .int .u8 0, .int .u8 0, .int .u8 0, .int .u8 0, .int .u8 0, .int .u8 0, .int .u8 0, .int .u8 0, .int .u8 0, .int .u8 0, .int .u8 0, .int .u8 0, .int .u8 0, .int .u8 0, .int .u8 0, .int .u8 0, .int .u8 0, .int .u8 0, .int .u8 0, .int .u8 0, .int .u8 0, .int .u8 0, .int .u8 0, .int .u8 0, .int .u8 0, .int .u8 0, .int .u8 0, .int .u8 0, .int .u8 0, .int .u8 0, .int .u8 0, .int .u8 0, .int .u8 0, .int .u8 0, .int .u8 0, .int .u8 0, .int .u8 0, .int .u8 0, .int .u8 0, .int .u8 0, .int .u8 0, .int .u8 0, .int .u8 0, .int .u8 0, .int .u8 0, .int .u8 0, .int .u8 0, .int .u8 0, .int .u8 0, .int .u8 0, .int .u8 0, .int .u8 0, .int .u8 0, .int .u8 0, .int .u8 0, .int .u8 0, .int .u8 0, .int .u8 0, .int .u8 0, .int .u8 0, .int .u8 0, .int .u8 0, .int .u8 0, .int .u8 0, .int .u8 0, .int .u8 0, .int .u8 0, .int .u8 0, .int .u8 0, .int .u8 0, .int .u8 0, .int .u8 0, .int .u8 0, .int .u8 0, .int .u8 0, .int .u8 0, .int .u8 0, .int .u8 0, .int .u8 0, .int .u8 0, .int .u8 0, .int .u8 0, .int .u8 0, .int .u8 0, .int .u8 0, .int .u8 0, .int .u8 0, .int .u8 0, .int .u8 0, .int .u8 0, .int .u8 0, .int .u8 0, .int .u8 0, .int .u8 0, .int .u8 0, .int .u8 0, .int .u8 0, .int .u8 0, .int .u8 0, .int .u8 0, .int .u8 0, .int .u8 0, .int .u8 0, .int .u8 0, .int .u8 0, .int .u8 0, .int .u8 0, .int .u8 0, .int .u8 0, .int .u8 0, .int .u8 0, .int .u8 0, .int .u8 0, .int .u8 0, .int .u8 0, .int .u8 0, .int .u8 0, .int .u8 0, .int .u8 0, .int .u8 0, .int .u8 0, .int .u8 0, .int .u8 0, .int .u8 0, .int .u8 0, .int .u8 0, .int .u8 0, .int .u8 0, .int .u8 0, .int .u8 0, .int .u8 0, .int .u8 0, .int .u8 0, .int .u8 0, .int .u8 0, .int .u8 0, .int .u8 0, .int .u8 0, .int .u8 0, .int .u8 0, .int .u8 0, .int .u8 0, .int .u8 0, .int .u8 0, .int .u8 0, .int .u8 0, .int .u8 0, .int .u8 0, .int .u8 0, .int .u8 0, .int .u8 0, .int .u8 0, .int .u8 0, .int .u8 0, .int .u8 0, .int .u8 0, .int .u8 0, .int .u8 0, .int .u8 0, .int .u8 0, .int .u8 0, .int .u8 0, .int .u8 0, .int .u8 0, .int .u8 0, .int .u8 0, .int .u8 0, .int .u8 0, .int .u8 0, .int .u8 0, .int .u8 0, .int .u8 0, .int .u8 0, .int .u8 0, .int .u8 0, .int .u8 0, .int .u8 0, .int .u8 0, .int .u8 0, .int .u8 0, .int .u8 0, .int .u8 0, .int .u8 0, .int .u8 0, .int .u8 0, .int .u8 0, .int .u8 0, .int .u8 0, .int .u8 0, .int .u8 0, .int .u8 0, .int .u8 0, .int .u8 0, .int .u8 0, .int .u8 0, .int .u8 0, .int .u8 0, .int .u8 0, .int .u8 0, .int .u8 0, .int .u8 0, .int .u8 0, .int .u8 0, .int .u8 0, .int .u8 0, .int .u8 0, .int .u8 0, .int .u8 0, .int .u8 0, .int .u8 0], .arr 256 5, none, [], none⟩
theorem ti320_ok : ti320.ok Tryd.prog 320 := ⟨⟨Tryd.t320, .agg #[.int .u8 0, .int .u8 0, .int .u8 0, .int .u8 0, .int .u8 0, .int .u8 0, .int .u8 0, .int .u8 0, .int .u8 0, .int .u8 0, .int .u8 0, .int .u8 0, .int .u8 0, .int .u8 0, .int .u8 0, .int .u8 0, .int .u8 0, .int .u8 0, .int .u8 0, .int .u8 0, .int .u8 0, .int .u8 0, .int .u8 0, .int .u8 0, .int .u8 0, .int .u8 0, .int .u8 0, .int .u8 0, .int .u8 0, .int .u8 0, .int .u8 0, .int .u8 0, .int .u8 0, .int .u8 0, .int .u8 0, .int .u8 0, .int .u8 0, .int .u8 0, .int .u8 0, .int .u8 0, .int .u8 0, .int .u8 0, .int .u8 0, .int .u8 0, .int .u8 0, .int .u8 0, .int .u8 0, .int .u8 0, .int .u8 0, .int .u8 0, .int .u8 0, .int .u8 0, .int .u8 0, .int .u8 0, .int .u8 0, .int .u8 0, .int .u8 0, .int .u8 0, .int .u8 0, .int .u8 0, .int .u8 0, .int .u8 0, .int .u8 0, .int .u8 0, .int .u8 0, .int .u8 0, .int .u8 0, .int .u8 0, .int .u8 0, .int .u8 0, .int .u8 0, .int .u8 0, .int .u8 0, .int .u8 0, .int .u8 0, .int .u8 0, .int .u8 0, .int .u8 0, .int .u8 0, .int .u8 0, .int .u8 0, .int .u8 0, .int .u8 0, .int .u8 0, .int .u8 0, .int .u8 0, .int .u8 0, .int .u8 0, .int .u8 0, .int .u8 0, .int .u8 0, .int .u8 0, .int .u8 0, .int .u8 0, .int .u8 0, .int .u8 0, .int .u8 0, .int .u8 0, .int .u8 0, .int .u8 0, .int .u8 0, .int .u8 0, .int .u8 0, .int .u8 0, .int .u8 0, .int .u8 0, .int .u8 0, .int .u8 0, .int .u8 0, .int .u8 0, .int .u8 0, .int .u8 0, .int .u8 0, .int .u8 0, .int .u8 0, .int .u8 0, .int .u8 0, .int .u8 0, .int .u8 0, .int .u8 0, .int .u8 0, .int .u8 0, .int .u8 0, .int .u8 0, .int .u8 0, .int .u8 0, .int .u8 0, .int .u8 0, .int .u8 0, .int .u8 0, .int .u8 0, .int .u8 0, .int .u8 0, .int .u8 0, .int .u8 0, .int .u8 0, .int .u8 0, .int .u8 0, .int .u8 0, .int .u8 0, .int .u8 0, .int .u8 0, .int .u8 0, .int .u8 0, .int .u8 0, .int .u8 0, .int .u8 0, .int .u8 0, .int .u8 0, .int .u8 0, .int .u8 0, .int .u8 0, .int .u8 0, .int .u8 0, .int .u8 0, .int .u8 0, .int .u8 0, .int .u8 0, .int .u8 0, .int .u8 0, .int .u8 0, .int .u8 0, .int .u8 0, .int .u8 0, .int .u8 0, .int .u8 0, .int .u8 0, .int .u8 0, .int .u8 0, .int .u8 0, .int .u8 0, .int .u8 0, .int .u8 0, .int .u8 0, .int .u8 0, .int .u8 0, .int .u8 0, .int .u8 0, .int .u8 0, .int .u8 0, .int .u8 0, .int .u8 0, .int .u8 0, .int .u8 0, .int .u8 0, .int .u8 0, .int .u8 0, .int .u8 0, .int .u8 0, .int .u8 0, .int .u8 0, .int .u8 0, .int .u8 0, .int .u8 0, .int .u8 0, .int .u8 0, .int .u8 0, .int .u8 0, .int .u8 0, .int .u8 0, .int .u8 0, .int .u8 0, .int .u8 0, .int .u8 0, .int .u8 0, .int .u8 0, .int .u8 0, .int .u8 0, .int .u8 0, .int .u8 0, .int .u8 0, .int .u8 0, .int .u8 0, .int .u8 0, .int .u8 0, .int .u8 0, .int .u8 0, .int .u8 0, .int .u8 0, .int .u8 0, .int .u8 0, .int .u8 0, .int .u8 0, .int .u8 0, .int .u8 0, .int .u8 0, .int .u8 0, .int .u8 0, .int .u8 0, .int .u8 0, .int .u8 0, .int .u8 0, .int .u8 0, .int .u8 0, .int .u8 0, .int .u8 0, .int .u8 0, .int .u8 0, .int .u8 0, .int .u8 0, .int .u8 0, .int .u8 0, .int .u8 0, .int .u8 0, .int .u8 0, .int .u8 0, .int .u8 0, .int .u8 0, .int .u8 0, .int .u8 0, .int .u8 0, .int .u8 0, .int .u8 0, .int .u8 0, .int .u8 0, .int .u8 0], by kernel_rfl, rfl, rfl, rfl, rfl⟩, ⟨_, Tryd.underlying320, rfl⟩, rfl, fun h => nomatch h⟩
def ti321 : TI := ⟨2, 2, [.int .u8 0, .int .u8 0], .struct [(0, 1), (1, 1)], none, [], none⟩
theorem ti321_ok : ti321.ok Tryd.prog 321 := ⟨⟨Tryd.t321, .agg #[.int .u8 0, .int .u8 0], by kernel_rfl, rfl, rfl, rfl, rfl⟩, ⟨_, Tryd.underlying321, ⟨_, rfl, by kernel_rfl, by kernel_rfl⟩⟩, rfl, fun h => nomatch h⟩
def ti322 : TI := ⟨2, 2, [.int .u8 0, .int .u8 0], .struct [(0, 1), (1, 1)], none, [], none⟩
theorem ti322_ok : ti322.ok Tryd.prog 322 := ⟨⟨Tryd.t322, .agg #[.int .u8 0, .int .u8 0], by kernel_rfl, rfl, rfl, rfl, rfl⟩, ⟨_, Tryd.underlying322, ⟨_, rfl, by kernel_rfl, by kernel_rfl⟩⟩, rfl, fun h => nomatch h⟩
def ti323 : TI := ⟨32, 32, [.int .u8 0, .int .u8 0, .int .u8 0, .int .u8 0, .int .u8 0, .int .u8 0, .int .u8 0, .int .u8 0, .int .u8 0, .int .u8 0, .int .u8 0, .int .u8 0, .int .u8 0, .int .u8 0, .int .u8 0, .int .u8 0, .int .u8 0, .int .u8 0, .int .u8 0, .int .u8 0, .int .u8 0, .int .u8 0, .int .u8 0, .int .u8 0, .int .u8 0, .int .u8 0, .int .u8 0, .int .u8 0, .int .u8 0, .int .u8 0, .int .u8 0, .int .u8 0], .arr 16 322, none, [], none⟩
theorem ti323_ok : ti323.ok Tryd.prog 323 := ⟨⟨Tryd.t323, .agg #[.int .u8 0, .int .u8 0, .int .u8 0, .int .u8 0, .int .u8 0, .int .u8 0, .int .u8 0, .int .u8 0, .int .u8 0, .int .u8 0, .int .u8 0, .int .u8 0, .int .u8 0, .int .u8 0, .int .u8 0, .int .u8 0, .int .u8 0, .int .u8 0, .int .u8 0, .int .u8 0, .int .u8 0, .int .u8 0, .int .u8 0, .int .u8 0, .int .u8 0, .int .u8 0, .int .u8 0, .int .u8 0, .int .u8 0, .int .u8 0, .int .u8 0, .int .u8 0], by kernel_rfl, rfl, rfl, rfl, rfl⟩, ⟨_, Tryd.underlying323, rfl⟩, rfl, fun h => nomatch h⟩
def ti328 : TI := ⟨32, 32, [.int .u8 0, .int .u8 0, .int .u8 0, .int .u8 0, .int .u8 0, .int .u8 0, .int .u8 0, .int .u8 0, .int .u8 0, .int .u8 0, .int .u8 0, .int .u8 0, .int .u8 0, .int .u8 0, .int .u8 0, .int .u8 0, .int .u8 0, .int .u8 0, .int .u8 0, .int .u8 0, .int .u8 0, .int .u8 0, .int .u8 0, .int .u8 0, .int .u8 0, .int .u8 0, .int .u8 0, .int .u8 0, .int .u8 0, .int .u8 0, .int .u8 0, .int .u8 0], .arr 32 5, none, [], none⟩
theorem ti328_ok : ti328.ok Tryd.prog 328 := ⟨⟨Tryd.t328, .agg #[.int .u8 0, .int .u8 0, .int .u8 0, .int .u8 0, .int .u8 0, .int .u8 0, .int .u8 0, .int .u8 0, .int .u8 0, .int .u8 0, .int .u8 0, .int .u8 0, .int .u8 0, .int .u8 0, .int .u8 0, .int .u8 0, .int .u8 0, .int .u8 0, .int .u8 0, .int .u8 0, .int .u8 0, .int .u8 0, .int .u8 0, .int .u8 0, .int .u8 0, .int .u8 0, .int .u8 0, .int .u8 0, .int .u8 0, .int .u8 0, .int .u8 0, .int .u8 0], by kernel_rfl, rfl, rfl, rfl, rfl⟩, ⟨_, Tryd.underlying328, rfl⟩, rfl, fun h => nomatch h⟩
def ti329 : TI := ⟨64, 64, [.int .u8 0, .int .u8 0, .int .u8 0, .int .u8 0, .int .u8 0, .int .u8 0, .int .u8 0, .int .u8 0, .int .u8 0, .int .u8 0, .int .u8 0, .int .u8 0, .int .u8 0, .int .u8 0, .int .u8 0, .int .u8 0, .int .u8 0, .int .u8 0, .int .u8 0, .int .u8 0, .int .u8 0, .int .u8 0, .int .u8 0, .int .u8 0, .int .u8 0, .int .u8 0, .int .u8 0, .int .u8 0, .int .u8 0, .int .u8 0, .int .u8 0, .int .u8 0, .int .u8 0, .int .u8 0, .int .u8 0, .int .u8 0, .int .u8 0, .int .u8 0, .int .u8 0, .int .u8 0, .int .u8 0, .int .u8 0, .int .u8 0, .int .u8 0, .int .u8 0, .int .u8 0, .int .u8 0, .int .u8 0, .int .u8 0, .int .u8 0, .int .u8 0, .int .u8 0, .int .u8 0, .int .u8 0, .int .u8 0, .int .u8 0, .int .u8 0, .int .u8 0, .int .u8 0, .int .u8 0, .int .u8 0, .int .u8 0, .int .u8 0, .int .u8 0], .arr 64 5, none, [], none⟩
theorem ti329_ok : ti329.ok Tryd.prog 329 := ⟨⟨Tryd.t329, .agg #[.int .u8 0, .int .u8 0, .int .u8 0, .int .u8 0, .int .u8 0, .int .u8 0, .int .u8 0, .int .u8 0, .int .u8 0, .int .u8 0, .int .u8 0, .int .u8 0, .int .u8 0, .int .u8 0, .int .u8 0, .int .u8 0, .int .u8 0, .int .u8 0, .int .u8 0, .int .u8 0, .int .u8 0, .int .u8 0, .int .u8 0, .int .u8 0, .int .u8 0, .int .u8 0, .int .u8 0, .int .u8 0, .int .u8 0, .int .u8 0, .int .u8 0, .int .u8 0, .int .u8 0, .int .u8 0, .int .u8 0, .int .u8 0, .int .u8 0, .int .u8 0, .int .u8 0, .int .u8 0, .int .u8 0, .int .u8 0, .int .u8 0, .int .u8 0, .int .u8 0, .int .u8 0, .int .u8 0, .int .u8 0, .int .u8 0, .int .u8 0, .int .u8 0, .int .u8 0, .int .u8 0, .int .u8 0, .int .u8 0, .int .u8 0, .int .u8 0, .int .u8 0, .int .u8 0, .int .u8 0, .int .u8 0, .int .u8 0, .int .u8 0, .int .u8 0], by kernel_rfl, rfl, rfl, rfl, rfl⟩, ⟨_, Tryd.underlying329, rfl⟩, rfl, fun h => nomatch h⟩
def ti331 : TI := ⟨1, 8, [.pointer none], .other, none, [], none⟩
theorem ti331_ok : ti331.ok Tryd.prog 331 := ⟨⟨Tryd.t331, .pointer none, by kernel_rfl, rfl, rfl, rfl, rfl⟩, ⟨_, Tryd.underlying331, ⟨fun _ h => (nomatch h), fun _ _ h => (nomatch h)⟩⟩, rfl, fun _ => ⟨Tryd.t331, by kernel_rfl, rfl⟩⟩
def ti332 : TI := ⟨4, 40, [.pointer none, .pointer none, .pointer none, .string ⟨#[]⟩], .struct [(0, 1), (1, 1), (2, 1), (3, 1)], none, [], none⟩
theorem ti332_ok : ti332.ok Tryd.prog 332 := ⟨⟨Tryd.t332, .agg #[.pointer none, .pointer none, .pointer none, .string ⟨#[]⟩], by kernel_rfl, rfl, rfl, rfl, rfl⟩, ⟨_, Tryd.underlying332, ⟨_, rfl, by kernel_rfl, by kernel_rfl⟩⟩, rfl, fun h => nomatch h⟩
def ti333 : TI := ⟨4, 40, [.pointer none, .pointer none, .pointer none, .string ⟨#[]⟩], .struct [(0, 1), (1, 1), (2, 1), (3, 1)], none, [], none⟩
theorem ti333_ok : ti333.ok Tryd.prog 333 := ⟨⟨Tryd.t333, .agg #[.pointer none, .pointer none, .pointer none, .string ⟨#[]⟩], by kernel_rfl, rfl, rfl, rfl, rfl⟩, ⟨_, Tryd.underlying333, ⟨_, rfl, by kernel_rfl, by kernel_rfl⟩⟩, rfl, fun h => nomatch h⟩
def ti338 : TI := ⟨1, 1, [.int .u8 0], .int .u8, none, [], none⟩
theorem ti338_ok : ti338.ok Tryd.prog 338 := ⟨⟨Tryd.t338, .int .u8 0, by kernel_rfl, rfl, rfl, rfl, rfl⟩, ⟨_, Tryd.underlying338, rfl⟩, rfl, fun _ => ⟨Tryd.t338, by kernel_rfl, rfl⟩⟩
def ti339 : TI := ⟨1, 1, [.int .u8 0], .int .u8, none, [], none⟩
theorem ti339_ok : ti339.ok Tryd.prog 339 := ⟨⟨Tryd.t339, .int .u8 0, by kernel_rfl, rfl, rfl, rfl, rfl⟩, ⟨_, Tryd.underlying339, rfl⟩, rfl, fun _ => ⟨Tryd.t339, by kernel_rfl, rfl⟩⟩
def ti341 : TI := ⟨1, 4, [.int .i32 0], .int .i32, none, [], none⟩
theorem ti341_ok : ti341.ok Tryd.prog 341 := ⟨⟨Tryd.t341, .int .i32 0, by kernel_rfl, rfl, rfl, rfl, rfl⟩, ⟨_, Tryd.underlying341, rfl⟩, rfl, fun _ => ⟨Tryd.t341, by kernel_rfl, rfl⟩⟩
def ti342 : TI := ⟨1, 4, [.int .i32 0], .int .i32, none, [], none⟩
theorem ti342_ok : ti342.ok Tryd.prog 342 := ⟨⟨Tryd.t342, .int .i32 0, by kernel_rfl, rfl, rfl, rfl, rfl⟩, ⟨_, Tryd.underlying342, rfl⟩, rfl, fun _ => ⟨Tryd.t342, by kernel_rfl, rfl⟩⟩
def ti345 : TI := ⟨1, 16, [.string ⟨#[]⟩], .struct [(0, 1)], none, [], none⟩
theorem ti345_ok : ti345.ok Tryd.prog 345 := ⟨⟨Tryd.t345, .agg #[.string ⟨#[]⟩], by kernel_rfl, rfl, rfl, rfl, rfl⟩, ⟨_, Tryd.underlying345, ⟨_, rfl, by kernel_rfl, by kernel_rfl⟩⟩, rfl, fun h => nomatch h⟩
def ti346 : TI := ⟨1, 16, [.string ⟨#[]⟩], .struct [(0, 1)], none, [], none⟩
theorem ti346_ok : ti346.ok Tryd.prog 346 := ⟨⟨Tryd.t346, .agg #[.string ⟨#[]⟩], by kernel_rfl, rfl, rfl, rfl, rfl⟩, ⟨_, Tryd.underlying346, ⟨_, rfl, by kernel_rfl, by kernel_rfl⟩⟩, rfl, fun h => nomatch h⟩
def Γ : Ctx := [(2, ti2), (3, ti3), (4, ti4), (5, ti5), (6, ti6), (7, ti7), (8, ti8), (9, ti9), (10, ti10), (11, ti11), (12, ti12), (13, ti13), (14, ti14), (15, ti15), (16, ti16), (17, ti17), (18, ti18), (19, ti19), (21, ti21), (22, ti22), (23, ti23), (24, ti24), (25, ti25), (26, ti26), (27, ti27), (28, ti28), (45, ti45), (55, ti55), (56, ti56), (57, ti57), (64, ti64), (65, ti65), (66, ti66), (67, ti67), (68, ti68), (69, ti69), (70, ti70), (71, ti71), (75, ti75), (99, ti99), (100, ti100), (101, ti101), (105, ti105), (106, ti106), (107, ti107), (108, ti108), (109, ti109), (120, ti120), (125, ti125), (126, ti126), (136, ti136), (137, ti137), (141, ti141), (142, ti142), (143, ti143), (148, ti148), (151, ti151), (152, ti152), (153, ti153), (165, ti165), (166, ti166), (169, ti169), (170, ti170), (171, ti171), (174, ti174), (180, ti180), (188, ti188), (190, ti190), (203, ti203), (204, ti204), (210, ti210), (220, ti220), (221, ti221), (222, ti222), (246, ti246), (247, ti247), (251, ti251), (252, ti252), (263, ti263), (264, ti264), (265, ti265), (269, ti269), (274, ti274), (300, ti300), (301, ti301), (302, ti302), (320, ti320), (321, ti321), (322, ti322), (323, ti323), (328, ti328), (329, ti329), (331, ti331), (332, ti332), (333, ti333), (338, ti338), (339, ti339), (341, ti341), (342, ti342), (345, ti345), (346, ti346)]
theorem Γ_ok : Γ.ok Tryd.prog := by
  unfold Ctx.ok Γ
  simp only [List.forall_mem_cons]
  exact ⟨ti2_ok, ti3_ok, ti4_ok, ti5_ok, ti6_ok, ti7_ok, ti8_ok, ti9_ok, ti10_ok, ti11_ok, ti12_ok, ti13_ok, ti14_ok, ti15_ok, ti16_ok, ti17_ok, ti18_ok, ti19_ok, ti21_ok, ti22_ok, ti23_ok, ti24_ok, ti25_ok, ti26_ok, ti27_ok, ti28_ok, ti45_ok, ti55_ok, ti56_ok, ti57_ok, ti64_ok, ti65_ok, ti66_ok, ti67_ok, ti68_ok, ti69_ok, ti70_ok, ti71_ok, ti75_ok, ti99_ok, ti100_ok, ti101_ok, ti105_ok, ti106_ok, ti107_ok, ti108_ok, ti109_ok, ti120_ok, ti125_ok, ti126_ok, ti136_ok, ti137_ok, ti141_ok, ti142_ok, ti143_ok, ti148_ok, ti151_ok, ti152_ok, ti153_ok, ti165_ok, ti166_ok, ti169_ok, ti170_ok, ti171_ok, ti174_ok, ti180_ok, ti188_ok, ti190_ok, ti203_ok, ti204_ok, ti210_ok, ti220_ok, ti221_ok, ti222_ok, ti246_ok, ti247_ok, ti251_ok, ti252_ok, ti263_ok, ti264_ok, ti265_ok, ti269_ok, ti274_ok, ti300_ok, ti301_ok, ti302_ok, ti320_ok, ti321_ok, ti322_ok, ti323_ok, ti328_ok, ti329_ok, ti331_ok, ti332_ok, ti333_ok, ti338_ok, ti339_ok, ti341_ok, ti342_ok, ti345_ok, ti346_ok, fun _ h => nomatch h⟩
theorem Γ_one : ∀ p ∈ Γ, (∀ v ∈ p.2.zero, v.oneCell' = true) ∧ p.2.zero.length = p.2.cells := by
  unfold Γ
  simp only [List.forall_mem_cons]
  exact ⟨by simp [ti2, Value.oneCell'], by simp [ti3, Value.oneCell'], by simp [ti4, Value.oneCell'], by simp [ti5, Value.oneCell'], by simp [ti6, Value.oneCell'], by simp [ti7, Value.oneCell'], by simp [ti8, Value.oneCell'], by simp [ti9, Value.oneCell'], by simp [ti10, Value.oneCell'], by simp [ti11, Value.oneCell'], by simp [ti12, Value.oneCell'], by simp [ti13, Value.oneCell'], by simp [ti14, Value.oneCell'], by simp [ti15, Value.oneCell'], by simp [ti16, Value.oneCell'], by simp [ti17, Value.oneCell'], by simp [ti18, Value.oneCell'], by simp [ti19, Value.oneCell'], by simp [ti21, Value.oneCell'], by simp [ti22, Value.oneCell'], by simp [ti23, Value.oneCell'], by simp [ti24, Value.oneCell'], by simp [ti25, Value.oneCell'], by simp [ti26, Value.oneCell'], by simp [ti27, Value.oneCell'], by simp [ti28, Value.oneCell'], by simp [ti45, Value.oneCell'], by simp [ti55, Value.oneCell'], by simp [ti56, Value.oneCell'], by simp [ti57, Value.oneCell'], by simp [ti64, Value.oneCell'], by simp [ti65, Value.oneCell'], by simp [ti66, Value.oneCell'], by simp [ti67, Value.oneCell'], by simp [ti68, Value.oneCell'], by simp [ti69, Value.oneCell'], by simp [ti70, Value.oneCell'], by simp [ti71, Value.oneCell'], by simp [ti75, Value.oneCell'], by simp [ti99, Value.oneCell'], by simp [ti100, Value.oneCell'], by simp [ti101, Value.oneCell'], by simp [ti105, Value.oneCell'], by simp [ti106, Value.oneCell'], by simp [ti107, Value.oneCell'], by simp [ti108, Value.oneCell'], by simp [ti109, Value.oneCell'], by simp [ti120, Value.oneCell'], by simp [ti125, Value.oneCell'], by simp [ti126, Value.oneCell'], by simp [ti136, Value.oneCell'], by simp [ti137, Value.oneCell'], by simp [ti141, Value.oneCell'], by simp [ti142, Value.oneCell'], by simp [ti143, Value.oneCell'], by simp [ti148, Value.oneCell'], by simp [ti151, Value.oneCell'], by simp [ti152, Value.oneCell'], by simp [ti153, Value.oneCell'], by simp [ti165, Value.oneCell'], by simp [ti166, Value.oneCell'], by simp [ti169, Value.oneCell'], by simp [ti170, Value.oneCell'], by simp [ti171, Value.oneCell'], by simp [ti174, Value.oneCell'], by simp [ti180, Value.oneCell'], by simp [ti188, Value.oneCell'], by simp [ti190, Value.oneCell'], by simp [ti203, Value.oneCell'], by simp [ti204, Value.oneCell'], by simp [ti210, Value.oneCell'], by simp [ti220, Value.oneCell'], by simp [ti221, Value.oneCell'], by simp [ti222, Value.oneCell'], by simp [ti246, Value.oneCell'], by simp [ti247, Value.oneCell'], by simp [ti251, Value.oneCell'], by simp [ti252, Value.oneCell'], by simp [ti263, Value.oneCell'], by simp [ti264, Value.oneCell'], by simp [ti265, Value.oneCell'], by simp [ti269, Value.oneCell'], by simp [ti274, Value.oneCell'], by simp [ti300, Value.oneCell'], by simp [ti301, Value.oneCell'], by simp [ti302, Value.oneCell'], by simp [ti320, Value.oneCell'], by simp [ti321, Value.oneCell'], by simp [ti322, Value.oneCell'], by simp [ti323, Value.oneCell'], by simp [ti328, Value.oneCell'], by simp [ti329, Value.oneCell'], by simp [ti331, Value.oneCell'], by simp [ti332, Value.oneCell'], by simp [ti333, Value.oneCell'], by simp [ti338, Value.oneCell'], by simp [ti339, Value.oneCell'], by simp [ti341, Value.oneCell'], by simp [ti342, Value.oneCell'], by simp [ti345, Value.oneCell'], by simp [ti346, Value.oneCell'], fun _ h => nomatch h⟩
theorem Γ_good : Γ.good Tryd.prog := ⟨Γ_ok, Γ_one, by kernel_rfl⟩
end Go.Proofs.YtdcdmojbkmedpaaDoor
end
section
namespace Go.Proofs
set_option linter.unusedSectionVars false
set_option linter.unusedSimpArgs false
set_option linter.unusedVariables false
open Go.Shelf
def Tryd.lays197_ren : Go.Shelf.Ren := ⟨fun | 197 => 224 | 260 => 250 | n => n, fun | 9 => 9 | 21 => 21 | 3 => 3 | 4 => 4 | 5 => 5 | 105 => 240 | 119 => 320 | 0 => 0 | 46 => 190 | 139 => 323 | 138 => 322 | n => n, fun | 3 => 1 | 4 => 2 | n => n⟩
theorem Tryd.lays197 : Go.Proofs.Lays.n197 Tryd.prog Tryd.lays197_ren := {
  mixed := by kernel_rfl
  f197 := Tryd.func224.trans (congrArg some (by kernel_rfl))
  f260 := Tryd.func250.trans (congrArg some (by kernel_rfl))
  t0 := Tryd.underlying0
  a0 := Tryd.isAgg0
  z0 := Tryd.sizeOf0
  v0 := Tryd.zeroValue0
  t3 := Tryd.underlying3
  a3 := Tryd.isAgg3
  z3 := Tryd.sizeOf3
  v3 := Tryd.zeroValue3
  t4 := Tryd.underlying4
  a4 := Tryd.isAgg4
  z4 := Tryd.sizeOf4
  v4 := Tryd.zeroValue4
  t5 := Tryd.underlying5
  a5 := Tryd.isAgg5
  z5 := Tryd.sizeOf5
  v5 := Tryd.zeroValue5
  t9 := Tryd.underlying9
  a9 := Tryd.isAgg9
  z9 := Tryd.sizeOf9
  v9 := Tryd.zeroValue9
  t21 := Tryd.underlying21
  a21 := Tryd.isAgg21
  z21 := Tryd.sizeOf21
  v21 := Tryd.zeroValue21
  t46 := Tryd.underlying190
  a46 := Tryd.isAgg190
  z46 := Tryd.sizeOf190
  v46 := Tryd.zeroValue190
  t105 := Tryd.underlying240
  a105 := Tryd.isAgg240
  z105 := Tryd.sizeOf240
  v105 := Tryd.zeroValue240
  t119 := Tryd.underlying320
  a119 := Tryd.isAgg320
  z119 := Tryd.sizeOf320
  t138 := Tryd.underlying322
  a138 := Tryd.isAgg322
  z138 := Tryd.sizeOf322
  v138 := Tryd.zeroValue322
  t139 := Tryd.underlying323
  a139 := Tryd.isAgg323
  z139 := Tryd.sizeOf323
  v139 := Tryd.zeroValue323
  g3 := by kernel_rfl
  g4 := by kernel_rfl }
def Tryd.lays260_ren : Go.Shelf.Ren := ⟨fun | 260 => 250 | n => n, fun | 9 => 9 | 21 => 21 | 3 => 3 | 4 => 4 | 5 => 5 | 119 => 320 | 0 => 0 | 46 => 190 | 139 => 323 | 138 => 322 | n => n, fun | 3 => 1 | 4 => 2 | n => n⟩
theorem Tryd.lays260 : Go.Proofs.Lays.n260 Tryd.prog Tryd.lays260_ren := {
  mixed := by kernel_rfl
  f260 := Tryd.func250.trans (congrArg some (by kernel_rfl))
  t0 := Tryd.underlying0
  a0 := Tryd.isAgg0
  z0 := Tryd.sizeOf0
  v0 := Tryd.zeroValue0
  t3 := Tryd.underlying3
  a3 := Tryd.isAgg3
  z3 := Tryd.sizeOf3
  v3 := Tryd.zeroValue3
  t4 := Tryd.underlying4
  a4 := Tryd.isAgg4
  z4 := Tryd.sizeOf4
  v4 := Tryd.zeroValue4
  t5 := Tryd.underlying5
  a5 := Tryd.isAgg5
  z5 := Tryd.sizeOf5
  v5 := Tryd.zeroValue5
  t9 := Tryd.underlying9
  a9 := Tryd.isAgg9
  z9 := Tryd.sizeOf9
  v9 := Tryd.zeroValue9
  t21 := Tryd.underlying21
  a21 := Tryd.isAgg21
  z21 := Tryd.sizeOf21
  v21 := Tryd.zeroValue21
  t46 := Tryd.underlying190
  a46 := Tryd.isAgg190
  z46 := Tryd.sizeOf190
  v46 := Tryd.zeroValue190
  t119 := Tryd.underlying320
  a119 := Tryd.isAgg320
  z119 := Tryd.sizeOf320
  t138 := Tryd.underlying322
  a138 := Tryd.isAgg322
  z138 := Tryd.sizeOf322
  v138 := Tryd.zeroValue322
  t139 := Tryd.underlying323
  a139 := Tryd.isAgg323
  z139 := Tryd.sizeOf323
  v139 := Tryd.zeroValue323
  g3 := by kernel_rfl
  g4 := by kernel_rfl }
open Go.RowKit Go.Lib in
/-- **unicode/utf8.DecodeRuneInString AT EVERY STRING.** (LAID: no walk: one application.) -/
theorem Tryd.utf8_DecodeRuneInString (s : ByteArray) (w : World) (hT : Lib.Utf8Tabs 1 2 w) :
    Calls Tryd.prog 224 #[.string s] w fun e w' => e = .returned (.tuple #[.int .i32 (Lib.decodeGo s).1, .int .i64 (Lib.decodeGo s).2]) ∧ Below w.heap.size w w' := Any.utf8_DecodeRuneInString Tryd.lays197 s w hT
end Go.Proofs
end
section
namespace Go.Proofs.YtdcdmojbkmedpaaDoor
set_option linter.unusedSectionVars false
set_option linter.unusedSimpArgs false
set_option linter.unusedVariables false
open Go Go.SX Go.Ut Go.RowKit
set_option maxRecDepth 100000
set_option maxHeartbeats 0
/-- what is said of unicode/utf8's tables: where they lie -/
def HasU8 [G : Globs] : Prop := ∃ o0 o1 : Obj, (1, o0) ∈ G.gl ∧ (2, o1) ∈ G.gl ∧ ∀ w : World, w.heap[1]? = some o0 → w.heap[2]? = some o1 → Lib.Utf8Tabs 1 2 w
section
variable [G : Globs]
def decG (s : Str) : Nat × Nat := if s = [] then (65533, 0) else decAt s 0
theorem s_Decode (hu : HasU8) (s : Str) : PSpec Tryd.prog 224 [.s s] (.tup [.i .i32 (decG s).1, .i .i64 (decG s).2]) := by
  refine ⟨Tryd.call224, fun O w vs hO hG hargs => ?_⟩
  obtain ⟨v0, vs0, rfl, h0, h⟩ := hargs.cons_inv
  obtain rfl := h.nil_inv
  cases h0
  obtain ⟨o0, o1, m0, m1, ht⟩ := hu
  have hT := ht w (hG _ m0).2 (hG _ m1).2
  have hd : Lib.decodeGo ⟨s.toArray⟩ = decG s := by
    unfold Lib.decodeGo decG
    have hsz : (⟨s.toArray⟩ : ByteArray).size = s.length := by simp [ByteArray.size]
    rw [hsz]
    by_cases h : s = []
    · subst h; rfl
    · rw [if_neg (by simpa using h), if_neg h]
      exact decAt_eq s 0
  refine (Tryd.utf8_DecodeRuneInString ⟨s.toArray⟩ w hT).mono fun e w' ⟨he, hw⟩ => ?_
  subst he
  rw [hd]
  refine ⟨_, rfl, ⟨hw.os, hw.tape, hw.output, hw.size, fun k hk _ => hw.block k hk⟩, .tup _ [_, _] rfl fun j av v hav hv => ?_⟩
  match j with
  | 0 => simp at hav hv; subst hav hv; exact .i _ _
  | 1 => simp at hav hv; subst hav hv; exact .i _ _
  | j + 2 => simp at hav
def codeR (s : Str) : AV := .tup [.i .i32 (code s).1, .i .i64 (code s).2]
theorem w_Next (hu : HasU8) (s : Str) : vc Tryd.prog Γ 20 [0, 2, 3, 4, 5, 16] (Tryd.f201.body.getD .skip) (postK Γ [.tmp 2, .tmp 3] (fun v => v = codeR s)) ⟨argSlots 0 [.s s], []⟩ := by
  have qd := s_Decode hu s
  by_cases h : s = []
  · subst h
    refine Or.inl (Exists.intro _ (And.intro (qd) ?_))
    repeat (first | (focus (refine And.intro ?_ (fun h9 => ?_); rotate_left 1; (focus (exfalso; revert h9; first | decide | (simp <;> omega) | (intro h9; simp at h9 <;> omega))); refine fun _ => ?_)) | (focus (refine And.intro (fun h9 => ?_) ?_; (focus (exfalso; revert h9; first | decide | (simp <;> omega) | (intro h9; simp at h9 <;> omega))); refine fun _ => ?_)))
    rfl
  · have hd : decG s = decAt s 0 := by unfold decG; rw [if_neg h]
    rw [hd] at qd
    have hp := dec_pos s 0
    by_cases hb : (decAt s 0).1 = 65533 ∧ (decAt s 0).2 = 1
    · have hc : code s = (-1, 1) := by unfold code; rw [if_neg h, if_pos hb]
      rw [hb.1, hb.2] at qd
      unfold codeR
      rw [hc]
      refine Or.inl (Exists.intro _ (And.intro (qd) ?_))
      repeat (first | (focus (refine And.intro ?_ (fun h9 => ?_); rotate_left 1; (focus (exfalso; revert h9; first | decide | (simp <;> omega) | (intro h9; simp at h9 <;> omega))); refine fun _ => ?_)) | (focus (refine And.intro (fun h9 => ?_) ?_; (focus (exfalso; revert h9; first | decide | (simp <;> omega) | (intro h9; simp at h9 <;> omega))); refine fun _ => ?_)))
      rfl
    · have hc : code s = (((decAt s 0).1 : Int), (decAt s 0).2) := by unfold code; rw [if_neg h, if_neg hb]
      unfold codeR
      rw [hc]
      refine Or.inl (Exists.intro _ (And.intro (qd) ?_))
      refine And.intro (fun h1 => ?_) (fun h1 => ?_)
      · have h1 : (decAt s 0).1 = 65533 := by have := eq_of_beq h1; omega
        have h2 : (decAt s 0).2 ≠ 1 := fun e => hb ⟨h1, e⟩
        refine And.intro (fun h3 => ?_) (fun h3 => ?_)
        · exfalso
          have : (((decAt s 0).2 : Int) < 2) := of_decide_eq_true (show decide (((decAt s 0).2 : Int) < 2) = true from h3)
          omega
        · rfl
      · (focus (refine And.intro (fun h9 => ?_) ?_; (focus (exfalso; revert h9; first | decide | (simp <;> omega) | (intro h9; simp at h9 <;> omega))); refine fun _ => ?_))
        rfl
theorem s_Next (hu : HasU8) (s : Str) : PSpec Tryd.prog 201 [.s s] (codeR s) :=
  pspec_of_vc Γ_good Tryd.func201 rfl Tryd.call201 Tryd.results201 Tryd.ntmps201 (Nat.le_of_ble_eq_true rfl) (w_Next hu s)
theorem w_Scalar (n : Int) : vc Tryd.prog Γ 17 [0, 2] (Tryd.f222.body.getD .skip) (postK Γ [.tmp 2] (fun v => v = .b (decide (scalar n)))) ⟨argSlots 0 [.i .i64 n], []⟩ := by
  repeat' (refine And.intro (fun h => ?_) (fun h => ?_) <;> (try simp [-List.getD_eq_getElem?_getD, -Int.pred_toNat] at h))
  all_goals
    refine congrArg AV.b ?_
    rw [Bool.eq_iff_iff]
    simp only [cond_true, cond_false, decide_eq_true_eq, Bool.false_eq_true, true_iff, false_iff]
    unfold scalar
    first | omega | (constructor <;> intro h9 <;> (try (exfalso; exact h9)) <;> omega)
theorem s_Scalar (n : Int) : PSpec Tryd.prog 222 [.i .i64 n] (.b (decide (scalar n))) :=
  pspec_of_vc Γ_good Tryd.func222 rfl Tryd.call222 Tryd.results222 Tryd.ntmps222 (Nat.le_of_ble_eq_true rfl) (w_Scalar n)
end
end Go.Proofs.YtdcdmojbkmedpaaDoor
end
section
namespace Go.Proofs.YtdcdmojbkmedpaaDoor
set_option linter.unusedSectionVars false
set_option linter.unusedSimpArgs false
set_option linter.unusedVariables false
open Go Go.SX Go.Ut Go.RowKit
set_option maxRecDepth 100000
set_option maxHeartbeats 0
section
variable [G : Globs]
theorem acc_bnd {s : Str} {r : Int} (h0 : 0 ≤ r) (h1 : r ≤ 63) : ∀ (i : Nat), i ≤ 4 → (∀ j, 1 ≤ j → j < i → cont s j) → 0 ≤ acc s r i ∧ acc s r i ≤ 16777215 := by
  intro i hi hc
  have key : ∀ j, 1 ≤ j → j < i → 128 ≤ b8 s j ∧ b8 s j < 192 := hc
  match i, hi with
  | 0, _ => exact ⟨h0, by simp only [acc]; omega⟩
  | 1, _ => exact ⟨h0, by simp only [acc]; omega⟩
  | 2, _ => have k1 := key 1 (by decide) (by decide); simp only [acc]; omega
  | 3, _ => have k1 := key 1 (by decide) (by decide); have k2 := key 2 (by decide) (by decide); simp only [acc]; omega
  | 4, _ => have k1 := key 1 (by decide) (by decide); have k2 := key 2 (by decide) (by decide); have k3 := key 3 (by decide) (by decide); simp only [acc]; omega
  | i + 5, h => exfalso; omega
theorem i32_in (n : Int) (h0 : 0 ≤ n) (h1 : n ≤ 2147483647) : IntKind.i32.wrap n = n := IntWalk.i32_in n ⟨by omega, h1⟩
theorem w_Code (s : Str) : vc Tryd.prog Γ 90 [0, 2, 3, 4, 5, 6, 7, 9, 13, 19, 30, 41, 55, 58, 70, 86] (Tryd.f178.body.getD .skip) (postK Γ [.tmp 2, .tmp 3] (fun v => v = codeR s)) ⟨argSlots 0 [.s s], []⟩ := by
  by_cases h0 : s = []
  · subst h0
    (focus (refine And.intro ?_ (fun h9 => ?_); rotate_left 1; (focus (exfalso; revert h9; first | decide | (simp <;> omega) | (intro h9; simp at h9 <;> omega))); refine fun _ => ?_))
    rfl
  have hl : 1 ≤ s.length := by cases s with
    | nil => exact absurd rfl h0
    | cons c r => simp
  have hb := b8_rng s 0
  have hw : IntKind.i64.wrap (((s.getD (Int.toNat 0) 0).toNat : Nat) : Int) = b8 s 0 := IntWalk.i64_in _ ⟨by show _ ≤ b8 s 0; omega, by show b8 s 0 ≤ _; omega⟩
  refine And.intro (fun h9 => absurd (eq_of_beq h9) h0) (fun _ => ?_)
  rcases (show b8 s 0 < 128 ∨ (128 ≤ b8 s 0 ∧ b8 s 0 < 192) ∨ (192 ≤ b8 s 0 ∧ b8 s 0 < 224) ∨ (224 ≤ b8 s 0 ∧ b8 s 0 < 240) ∨ (240 ≤ b8 s 0 ∧ b8 s 0 < 248) ∨ 248 ≤ b8 s 0 by omega) with hc | hc | hc | hc | hc | hc
  · refine Exists.intro [.blk [0, 1, 2, 3, 4, 5]] (And.intro (by kernel_rfl) ?_)
    refine And.intro ⟨by omega, by omega⟩ ?_
    refine And.intro ⟨by omega, by omega⟩ ?_
    rw [hw]
    refine And.intro (fun _ => ?_) (fun h9 => absurd (show b8 s 0 < 128 by omega) (of_decide_eq_false h9))
    rw [codeR, code1 h0 hc]
    show AV.tup [.i .i32 (IntKind.i32.wrap (b8 s 0)), .i .i64 1] = _
    rw [i32_in _ (by omega) (by omega)]
    all_goals rfl
  · have hbad : code s = (-1, 1) := code_bad h0 (by omega)
    refine Exists.intro [.blk [0, 1, 2, 3, 4, 5]] (And.intro (by kernel_rfl) ?_)
    refine And.intro ⟨by omega, by omega⟩ ?_
    refine And.intro ⟨by omega, by omega⟩ ?_
    rw [hw]
    refine And.intro (fun h9 => absurd (of_decide_eq_true h9) (show ¬ (b8 s 0 < 128) by omega)) (fun _ => ?_)
    refine And.intro ⟨by omega, by omega⟩ ?_
    refine And.intro (fun h9 => absurd (of_decide_eq_true h9) (show ¬ (192 ≤ b8 s 0) by omega)) (fun _ => ?_)
    (focus (refine And.intro (fun h9 => ?_) ?_; (focus (exfalso; revert h9; first | decide | (simp <;> omega) | (intro h9; simp at h9 <;> omega))); refine fun _ => ?_))
    refine And.intro ⟨by omega, by omega⟩ ?_
    refine And.intro (fun h9 => absurd (of_decide_eq_true h9) (show ¬ (224 ≤ b8 s 0) by omega)) (fun _ => ?_)
    (focus (refine And.intro (fun h9 => ?_) ?_; (focus (exfalso; revert h9; first | decide | (simp <;> omega) | (intro h9; simp at h9 <;> omega))); refine fun _ => ?_))
    refine And.intro ⟨by omega, by omega⟩ ?_
    refine And.intro (fun h9 => absurd (of_decide_eq_true h9) (show ¬ (240 ≤ b8 s 0) by omega)) (fun _ => ?_)
    (focus (refine And.intro (fun h9 => ?_) ?_; (focus (exfalso; revert h9; first | decide | (simp <;> omega) | (intro h9; simp at h9 <;> omega))); refine fun _ => ?_))
    rw [codeR, hbad]
    rfl
  · have hlead : lead s = (2, 128, b8 s 0 - 192) := by unfold lead; rw [if_pos (by omega)]
    have hg : good s ↔ (2 ≤ s.length ∧ (∀ i, 1 ≤ i → i < 2 → cont s i) ∧ 128 ≤ acc s (b8 s 0 - 192) 2 ∧ scalar (acc s (b8 s 0 - 192) 2)) := by unfold good; rw [hlead]
    have hbad : ¬ good s → code s = (-1, 1) := (code_many h0 (by omega) (by omega)).2
    refine Exists.intro [.blk [0, 1, 2, 3, 4, 5]] (And.intro (by kernel_rfl) ?_)
    refine And.intro ⟨by omega, by omega⟩ ?_
    refine And.intro ⟨by omega, by omega⟩ ?_
    rw [hw]
    refine And.intro (fun h9 => absurd (of_decide_eq_true h9) (show ¬ (b8 s 0 < 128) by omega)) (fun _ => ?_)
    refine And.intro ⟨by omega, by omega⟩ ?_
    refine And.intro (fun _ => ?_) (fun h9 => absurd (show 192 ≤ b8 s 0 by omega) (of_decide_eq_false h9))
    refine And.intro ⟨by omega, by omega⟩ ?_
    refine And.intro (fun _ => ?_) (fun h9 => absurd (show b8 s 0 < 224 by omega) (of_decide_eq_false h9))
    refine And.intro ⟨by omega, by omega⟩ ?_
    intro _
    refine And.intro (fun hs => ?_) (fun hs => ?_)
    · have hs : (s.length : Int) < 2 := of_decide_eq_true hs
      show AV.tup [.i .i32 (-1), .i .i64 1] = codeR s
      rw [codeR, hbad (fun h => by have := (hg.1 h).1; omega)]
      all_goals rfl
    · have hs : ¬ (s.length : Int) < 2 := of_decide_eq_false hs
      refine Exists.intro [] (Exists.intro [] (Exists.intro [] (Exists.intro Nat (Exists.intro (fun i => 1 ≤ i ∧ i ≤ 2 ∧ ∀ j, 1 ≤ j → j < i → cont s j) (Exists.intro (fun i => ⟨[(0, .s s), (4, .i .i64 2), (5, .i .i64 128), (6, .i .i64 (acc s (b8 s 0 - 192) i)), (7, .i .i64 i)], []⟩) (Exists.intro (fun i => 2 - i) (Exists.intro 1 (And.intro ⟨Nat.le_refl _, by decide, fun j h1 h2 => by omega⟩ (And.intro ?_ ?_)))))))))
      · (repeat' (first | exact trivial | exact Or.inl rfl | exact Or.inr (Or.inl ⟨rfl, _, rfl⟩) | exact Or.inr (Or.inr (Or.inr ⟨_, _, _, rfl, rfl⟩)) | refine And.intro ?_ ?_))
      · rintro i ⟨hi1, hin, hcs⟩
        have hab := acc_bnd (s := s) (r := (b8 s 0 - 192)) (by omega) (by omega) i (by omega) hcs
        have hbi := b8_rng s i
        refine And.intro (fun hc => ?_) (fun hc => ?_)
        · have hc : i < 2 := by have : (i : Int) < 2 := of_decide_eq_true hc; omega
          refine And.intro ⟨by omega, by omega⟩ ?_
          refine And.intro (fun h1 => ?_) (fun h1 => ?_)
          · have h1 : ¬ b8 s i < 128 := of_decide_eq_false h1
            refine And.intro ⟨by omega, by omega⟩ ?_
            refine And.intro (fun h2 => ?_) (fun h2 => ?_)
            · have h2 : 192 ≤ b8 s i := of_decide_eq_true h2
              show AV.tup [.i .i32 (-1), .i .i64 1] = codeR s
              rw [codeR, hbad (fun h => by have := (hg.1 h).2.1 i hi1 hc; unfold cont at this; omega)]
              all_goals rfl
            · have h2 : ¬ 192 ≤ b8 s i := of_decide_eq_false h2
              have hwi : IntKind.i64.wrap (((s.getD (Int.toNat (i : Int)) 0).toNat : Nat) : Int) = b8 s i := IntWalk.i64_in _ ⟨by show _ ≤ b8 s i; omega, by show b8 s i ≤ _; omega⟩
              have hacc : acc s (b8 s 0 - 192) (i + 1) = acc s (b8 s 0 - 192) i * 64 + b8 s i - 128 := by
                obtain ⟨k, rfl⟩ : ∃ k, i = k + 1 := ⟨i - 1, by omega⟩
                rfl
              refine And.intro ⟨by omega, by omega⟩ ?_
              refine And.intro ⟨by omega, by omega⟩ ?_
              refine And.intro ⟨by rw [hwi]; omega, by rw [hwi]; omega⟩ ?_
              rw [hwi]
              refine And.intro ⟨by omega, by omega⟩ ?_
              refine And.intro ⟨by omega, by omega⟩ ?_
              have hcs' : ∀ j, 1 ≤ j → j < i + 1 → cont s j := fun j h3 h4 => by
                rcases Nat.lt_or_ge j i with h | h
                · exact hcs j h3 h
                · have : j = i := by omega
                  subst this
                  exact ⟨by omega, by omega⟩
              refine Exists.intro [] (Exists.intro (i + 1) (And.intro ⟨by omega, by omega, hcs'⟩ (And.intro ?_ ?_)))
              · (repeat' (first | exact trivial | exact Or.inl rfl | exact Or.inl (congrArg (AV.i .i64) hacc.symm) | refine And.intro ?_ ?_))
              · show 2 - (i + 1) < 2 - i
                omega
          · have h1 : b8 s i < 128 := of_decide_eq_true (show decide (b8 s i < 128) = true from h1)
            (focus (refine And.intro ?_ (fun h9 => ?_); rotate_left 1; (focus (exfalso; revert h9; first | decide | (simp <;> omega) | (intro h9; simp at h9 <;> omega))); refine fun _ => ?_))
            show AV.tup [.i .i32 (-1), .i .i64 1] = codeR s
            rw [codeR, hbad (fun h => by have := (hg.1 h).2.1 i hi1 hc; unfold cont at this; omega)]
            all_goals rfl
        · have hc : i = 2 := by have : ¬ (i : Int) < 2 := of_decide_eq_false hc; omega
          subst hc
          refine And.intro (fun h1 => ?_) (fun h1 => ?_)
          · have h1 : ¬ acc s (b8 s 0 - 192) 2 < 128 := of_decide_eq_false h1
            refine Or.inl (Exists.intro _ (And.intro (s_Scalar (acc s (b8 s 0 - 192) 2)) ?_))
            refine And.intro (fun h2 => ?_) (fun h2 => ?_)
            · have h2 : ¬ scalar (acc s (b8 s 0 - 192) 2) := by simpa using h2
              show AV.tup [.i .i32 (-1), .i .i64 1] = codeR s
              rw [codeR, hbad (fun h => h2 (hg.1 h).2.2.2)]
              all_goals rfl
            · have h2 : scalar (acc s (b8 s 0 - 192) 2) := by simpa using h2
              have hgood : good s := hg.2 ⟨by omega, hcs, by omega, h2⟩
              have hw2 : IntKind.i32.wrap (acc s (b8 s 0 - 192) 2) = acc s (b8 s 0 - 192) 2 := i32_in _ (by omega) (by unfold scalar at h2; omega)
              have hcd := (code_many h0 (by omega) (by omega)).1 hgood
              rw [hlead] at hcd
              rw [codeR, hcd]
              show AV.tup [.i .i32 (IntKind.i32.wrap (acc s (b8 s 0 - 192) 2)), .i .i64 2] = _
              rw [hw2]
              all_goals rfl
          · have h1 : acc s (b8 s 0 - 192) 2 < 128 := of_decide_eq_true (show decide (acc s (b8 s 0 - 192) 2 < 128) = true from h1)
            (focus (refine And.intro ?_ (fun h9 => ?_); rotate_left 1; (focus (exfalso; revert h9; first | decide | (simp <;> omega) | (intro h9; simp at h9 <;> omega))); refine fun _ => ?_))
            show AV.tup [.i .i32 (-1), .i .i64 1] = codeR s
            rw [codeR, hbad (fun h => by have := (hg.1 h).2.2.1; omega)]
            all_goals rfl
  · have hlead : lead s = (3, 2048, b8 s 0 - 224) := by unfold lead; rw [if_neg (by omega), if_pos (by omega)]
    have hg : good s ↔ (3 ≤ s.length ∧ (∀ i, 1 ≤ i → i < 3 → cont s i) ∧ 2048 ≤ acc s (b8 s 0 - 224) 3 ∧ scalar (acc s (b8 s 0 - 224) 3)) := by unfold good; rw [hlead]
    have hbad : ¬ good s → code s = (-1, 1) := (code_many h0 (by omega) (by omega)).2
    refine Exists.intro [.blk [0, 1, 2, 3, 4, 5]] (And.intro (by kernel_rfl) ?_)
    refine And.intro ⟨by omega, by omega⟩ ?_
    refine And.intro ⟨by omega, by omega⟩ ?_
    rw [hw]
    refine And.intro (fun h9 => absurd (of_decide_eq_true h9) (show ¬ (b8 s 0 < 128) by omega)) (fun _ => ?_)
    refine And.intro ⟨by omega, by omega⟩ ?_
    refine And.intro (fun _ => ?_) (fun h9 => absurd (show 192 ≤ b8 s 0 by omega) (of_decide_eq_false h9))
    refine And.intro ⟨by omega, by omega⟩ ?_
    refine And.intro (fun h9 => absurd (of_decide_eq_true h9) (show ¬ (b8 s 0 < 224) by omega)) (fun _ => ?_)
    refine And.intro ⟨by omega, by omega⟩ ?_
    refine And.intro (fun _ => ?_) (fun h9 => absurd (show 224 ≤ b8 s 0 by omega) (of_decide_eq_false h9))
    refine And.intro ⟨by omega, by omega⟩ ?_
    refine And.intro (fun _ => ?_) (fun h9 => absurd (show b8 s 0 < 240 by omega) (of_decide_eq_false h9))
    refine And.intro ⟨by omega, by omega⟩ ?_
    intro _
    refine And.intro (fun hs => ?_) (fun hs => ?_)
    · have hs : (s.length : Int) < 3 := of_decide_eq_true hs
      show AV.tup [.i .i32 (-1), .i .i64 1] = codeR s
      rw [codeR, hbad (fun h => by have := (hg.1 h).1; omega)]
      all_goals rfl
    · have hs : ¬ (s.length : Int) < 3 := of_decide_eq_false hs
      refine Exists.intro [] (Exists.intro [] (Exists.intro [] (Exists.intro Nat (Exists.intro (fun i => 1 ≤ i ∧ i ≤ 3 ∧ ∀ j, 1 ≤ j → j < i → cont s j) (Exists.intro (fun i => ⟨[(0, .s s), (4, .i .i64 3), (5, .i .i64 2048), (6, .i .i64 (acc s (b8 s 0 - 224) i)), (7, .i .i64 i)], []⟩) (Exists.intro (fun i => 3 - i) (Exists.intro 1 (And.intro ⟨Nat.le_refl _, by decide, fun j h1 h2 => by omega⟩ (And.intro ?_ ?_)))))))))
      · (repeat' (first | exact trivial | exact Or.inl rfl | exact Or.inr (Or.inl ⟨rfl, _, rfl⟩) | exact Or.inr (Or.inr (Or.inr ⟨_, _, _, rfl, rfl⟩)) | refine And.intro ?_ ?_))
      · rintro i ⟨hi1, hin, hcs⟩
        have hab := acc_bnd (s := s) (r := (b8 s 0 - 224)) (by omega) (by omega) i (by omega) hcs
        have hbi := b8_rng s i
        refine And.intro (fun hc => ?_) (fun hc => ?_)
        · have hc : i < 3 := by have : (i : Int) < 3 := of_decide_eq_true hc; omega
          refine And.intro ⟨by omega, by omega⟩ ?_
          refine And.intro (fun h1 => ?_) (fun h1 => ?_)
          · have h1 : ¬ b8 s i < 128 := of_decide_eq_false h1
            refine And.intro ⟨by omega, by omega⟩ ?_
            refine And.intro (fun h2 => ?_) (fun h2 => ?_)
            · have h2 : 192 ≤ b8 s i := of_decide_eq_true h2
              show AV.tup [.i .i32 (-1), .i .i64 1] = codeR s
              rw [codeR, hbad (fun h => by have := (hg.1 h).2.1 i hi1 hc; unfold cont at this; omega)]
              all_goals rfl
            · have h2 : ¬ 192 ≤ b8 s i := of_decide_eq_false h2
              have hwi : IntKind.i64.wrap (((s.getD (Int.toNat (i : Int)) 0).toNat : Nat) : Int) = b8 s i := IntWalk.i64_in _ ⟨by show _ ≤ b8 s i; omega, by show b8 s i ≤ _; omega⟩
              have hacc : acc s (b8 s 0 - 224) (i + 1) = acc s (b8 s 0 - 224) i * 64 + b8 s i - 128 := by
                obtain ⟨k, rfl⟩ : ∃ k, i = k + 1 := ⟨i - 1, by omega⟩
                rfl
              refine And.intro ⟨by omega, by omega⟩ ?_
              refine And.intro ⟨by omega, by omega⟩ ?_
              refine And.intro ⟨by rw [hwi]; omega, by rw [hwi]; omega⟩ ?_
              rw [hwi]
              refine And.intro ⟨by omega, by omega⟩ ?_
              refine And.intro ⟨by omega, by omega⟩ ?_
              have hcs' : ∀ j, 1 ≤ j → j < i + 1 → cont s j := fun j h3 h4 => by
                rcases Nat.lt_or_ge j i with h | h
                · exact hcs j h3 h
                · have : j = i := by omega
                  subst this
                  exact ⟨by omega, by omega⟩
              refine Exists.intro [] (Exists.intro (i + 1) (And.intro ⟨by omega, by omega, hcs'⟩ (And.intro ?_ ?_)))
              · (repeat' (first | exact trivial | exact Or.inl rfl | exact Or.inl (congrArg (AV.i .i64) hacc.symm) | refine And.intro ?_ ?_))
              · show 3 - (i + 1) < 3 - i
                omega
          · have h1 : b8 s i < 128 := of_decide_eq_true (show decide (b8 s i < 128) = true from h1)
            (focus (refine And.intro ?_ (fun h9 => ?_); rotate_left 1; (focus (exfalso; revert h9; first | decide | (simp <;> omega) | (intro h9; simp at h9 <;> omega))); refine fun _ => ?_))
            show AV.tup [.i .i32 (-1), .i .i64 1] = codeR s
            rw [codeR, hbad (fun h => by have := (hg.1 h).2.1 i hi1 hc; unfold cont at this; omega)]
            all_goals rfl
        · have hc : i = 3 := by have : ¬ (i : Int) < 3 := of_decide_eq_false hc; omega
          subst hc
          refine And.intro (fun h1 => ?_) (fun h1 => ?_)
          · have h1 : ¬ acc s (b8 s 0 - 224) 3 < 2048 := of_decide_eq_false h1
            refine Or.inl (Exists.intro _ (And.intro (s_Scalar (acc s (b8 s 0 - 224) 3)) ?_))
            refine And.intro (fun h2 => ?_) (fun h2 => ?_)
            · have h2 : ¬ scalar (acc s (b8 s 0 - 224) 3) := by simpa using h2
              show AV.tup [.i .i32 (-1), .i .i64 1] = codeR s
              rw [codeR, hbad (fun h => h2 (hg.1 h).2.2.2)]
              all_goals rfl
            · have h2 : scalar (acc s (b8 s 0 - 224) 3) := by simpa using h2
              have hgood : good s := hg.2 ⟨by omega, hcs, by omega, h2⟩
              have hw2 : IntKind.i32.wrap (acc s (b8 s 0 - 224) 3) = acc s (b8 s 0 - 224) 3 := i32_in _ (by omega) (by unfold scalar at h2; omega)
              have hcd := (code_many h0 (by omega) (by omega)).1 hgood
              rw [hlead] at hcd
              rw [codeR, hcd]
              show AV.tup [.i .i32 (IntKind.i32.wrap (acc s (b8 s 0 - 224) 3)), .i .i64 3] = _
              rw [hw2]
              all_goals rfl
          · have h1 : acc s (b8 s 0 - 224) 3 < 2048 := of_decide_eq_true (show decide (acc s (b8 s 0 - 224) 3 < 2048) = true from h1)
            (focus (refine And.intro ?_ (fun h9 => ?_); rotate_left 1; (focus (exfalso; revert h9; first | decide | (simp <;> omega) | (intro h9; simp at h9 <;> omega))); refine fun _ => ?_))
            show AV.tup [.i .i32 (-1), .i .i64 1] = codeR s
            rw [codeR, hbad (fun h => by have := (hg.1 h).2.2.1; omega)]
            all_goals rfl
  · have hlead : lead s = (4, 65536, b8 s 0 - 240) := by unfold lead; rw [if_neg (by omega), if_neg (by omega)]
    have hg : good s ↔ (4 ≤ s.length ∧ (∀ i, 1 ≤ i → i < 4 → cont s i) ∧ 65536 ≤ acc s (b8 s 0 - 240) 4 ∧ scalar (acc s (b8 s 0 - 240) 4)) := by unfold good; rw [hlead]
    have hbad : ¬ good s → code s = (-1, 1) := (code_many h0 (by omega) (by omega)).2
    refine Exists.intro [.blk [0, 1, 2, 3, 4, 5]] (And.intro (by kernel_rfl) ?_)
    refine And.intro ⟨by omega, by omega⟩ ?_
    refine And.intro ⟨by omega, by omega⟩ ?_
    rw [hw]
    refine And.intro (fun h9 => absurd (of_decide_eq_true h9) (show ¬ (b8 s 0 < 128) by omega)) (fun _ => ?_)
    refine And.intro ⟨by omega, by omega⟩ ?_
    refine And.intro (fun _ => ?_) (fun h9 => absurd (show 192 ≤ b8 s 0 by omega) (of_decide_eq_false h9))
    refine And.intro ⟨by omega, by omega⟩ ?_
    refine And.intro (fun h9 => absurd (of_decide_eq_true h9) (show ¬ (b8 s 0 < 224) by omega)) (fun _ => ?_)
    refine And.intro ⟨by omega, by omega⟩ ?_
    refine And.intro (fun _ => ?_) (fun h9 => absurd (show 224 ≤ b8 s 0 by omega) (of_decide_eq_false h9))
    refine And.intro ⟨by omega, by omega⟩ ?_
    refine And.intro (fun h9 => absurd (of_decide_eq_true h9) (show ¬ (b8 s 0 < 240) by omega)) (fun _ => ?_)
    refine And.intro ⟨by omega, by omega⟩ ?_
    refine And.intro (fun _ => ?_) (fun h9 => absurd (show 240 ≤ b8 s 0 by omega) (of_decide_eq_false h9))
    refine And.intro ⟨by omega, by omega⟩ ?_
    refine And.intro (fun _ => ?_) (fun h9 => absurd (show b8 s 0 < 248 by omega) (of_decide_eq_false h9))
    refine And.intro ⟨by omega, by omega⟩ ?_
    intro _
    refine And.intro (fun hs => ?_) (fun hs => ?_)
    · have hs : (s.length : Int) < 4 := of_decide_eq_true hs
      show AV.tup [.i .i32 (-1), .i .i64 1] = codeR s
      rw [codeR, hbad (fun h => by have := (hg.1 h).1; omega)]
      all_goals rfl
    · have hs : ¬ (s.length : Int) < 4 := of_decide_eq_false hs
      refine Exists.intro [] (Exists.intro [] (Exists.intro [] (Exists.intro Nat (Exists.intro (fun i => 1 ≤ i ∧ i ≤ 4 ∧ ∀ j, 1 ≤ j → j < i → cont s j) (Exists.intro (fun i => ⟨[(0, .s s), (4, .i .i64 4), (5, .i .i64 65536), (6, .i .i64 (acc s (b8 s 0 - 240) i)), (7, .i .i64 i)], []⟩) (Exists.intro (fun i => 4 - i) (Exists.intro 1 (And.intro ⟨Nat.le_refl _, by decide, fun j h1 h2 => by omega⟩ (And.intro ?_ ?_)))))))))
      · (repeat' (first | exact trivial | exact Or.inl rfl | exact Or.inr (Or.inl ⟨rfl, _, rfl⟩) | exact Or.inr (Or.inr (Or.inr ⟨_, _, _, rfl, rfl⟩)) | refine And.intro ?_ ?_))
      · rintro i ⟨hi1, hin, hcs⟩
        have hab := acc_bnd (s := s) (r := (b8 s 0 - 240)) (by omega) (by omega) i (by omega) hcs
        have hbi := b8_rng s i
        refine And.intro (fun hc => ?_) (fun hc => ?_)
        · have hc : i < 4 := by have : (i : Int) < 4 := of_decide_eq_true hc; omega
          refine And.intro ⟨by omega, by omega⟩ ?_
          refine And.intro (fun h1 => ?_) (fun h1 => ?_)
          · have h1 : ¬ b8 s i < 128 := of_decide_eq_false h1
            refine And.intro ⟨by omega, by omega⟩ ?_
            refine And.intro (fun h2 => ?_) (fun h2 => ?_)
            · have h2 : 192 ≤ b8 s i := of_decide_eq_true h2
              show AV.tup [.i .i32 (-1), .i .i64 1] = codeR s
              rw [codeR, hbad (fun h => by have := (hg.1 h).2.1 i hi1 hc; unfold cont at this; omega)]
              all_goals rfl
            · have h2 : ¬ 192 ≤ b8 s i := of_decide_eq_false h2
              have hwi : IntKind.i64.wrap (((s.getD (Int.toNat (i : Int)) 0).toNat : Nat) : Int) = b8 s i := IntWalk.i64_in _ ⟨by show _ ≤ b8 s i; omega, by show b8 s i ≤ _; omega⟩
              have hacc : acc s (b8 s 0 - 240) (i + 1) = acc s (b8 s 0 - 240) i * 64 + b8 s i - 128 := by
                obtain ⟨k, rfl⟩ : ∃ k, i = k + 1 := ⟨i - 1, by omega⟩
                rfl
              refine And.intro ⟨by omega, by omega⟩ ?_
              refine And.intro ⟨by omega, by omega⟩ ?_
              refine And.intro ⟨by rw [hwi]; omega, by rw [hwi]; omega⟩ ?_
              rw [hwi]
              refine And.intro ⟨by omega, by omega⟩ ?_
              refine And.intro ⟨by omega, by omega⟩ ?_
              have hcs' : ∀ j, 1 ≤ j → j < i + 1 → cont s j := fun j h3 h4 => by
                rcases Nat.lt_or_ge j i with h | h
                · exact hcs j h3 h
                · have : j = i := by omega
                  subst this
                  exact ⟨by omega, by omega⟩
              refine Exists.intro [] (Exists.intro (i + 1) (And.intro ⟨by omega, by omega, hcs'⟩ (And.intro ?_ ?_)))
              · (repeat' (first | exact trivial | exact Or.inl rfl | exact Or.inl (congrArg (AV.i .i64) hacc.symm) | refine And.intro ?_ ?_))
              · show 4 - (i + 1) < 4 - i
                omega
          · have h1 : b8 s i < 128 := of_decide_eq_true (show decide (b8 s i < 128) = true from h1)
            (focus (refine And.intro ?_ (fun h9 => ?_); rotate_left 1; (focus (exfalso; revert h9; first | decide | (simp <;> omega) | (intro h9; simp at h9 <;> omega))); refine fun _ => ?_))
            show AV.tup [.i .i32 (-1), .i .i64 1] = codeR s
            rw [codeR, hbad (fun h => by have := (hg.1 h).2.1 i hi1 hc; unfold cont at this; omega)]
            all_goals rfl
        · have hc : i = 4 := by have : ¬ (i : Int) < 4 := of_decide_eq_false hc; omega
          subst hc
          refine And.intro (fun h1 => ?_) (fun h1 => ?_)
          · have h1 : ¬ acc s (b8 s 0 - 240) 4 < 65536 := of_decide_eq_false h1
            refine Or.inl (Exists.intro _ (And.intro (s_Scalar (acc s (b8 s 0 - 240) 4)) ?_))
            refine And.intro (fun h2 => ?_) (fun h2 => ?_)
            · have h2 : ¬ scalar (acc s (b8 s 0 - 240) 4) := by simpa using h2
              show AV.tup [.i .i32 (-1), .i .i64 1] = codeR s
              rw [codeR, hbad (fun h => h2 (hg.1 h).2.2.2)]
              all_goals rfl
            · have h2 : scalar (acc s (b8 s 0 - 240) 4) := by simpa using h2
              have hgood : good s := hg.2 ⟨by omega, hcs, by omega, h2⟩
              have hw2 : IntKind.i32.wrap (acc s (b8 s 0 - 240) 4) = acc s (b8 s 0 - 240) 4 := i32_in _ (by omega) (by unfold scalar at h2; omega)
              have hcd := (code_many h0 (by omega) (by omega)).1 hgood
              rw [hlead] at hcd
              rw [codeR, hcd]
              show AV.tup [.i .i32 (IntKind.i32.wrap (acc s (b8 s 0 - 240) 4)), .i .i64 4] = _
              rw [hw2]
              all_goals rfl
          · have h1 : acc s (b8 s 0 - 240) 4 < 65536 := of_decide_eq_true (show decide (acc s (b8 s 0 - 240) 4 < 65536) = true from h1)
            (focus (refine And.intro ?_ (fun h9 => ?_); rotate_left 1; (focus (exfalso; revert h9; first | decide | (simp <;> omega) | (intro h9; simp at h9 <;> omega))); refine fun _ => ?_))
            show AV.tup [.i .i32 (-1), .i .i64 1] = codeR s
            rw [codeR, hbad (fun h => by have := (hg.1 h).2.2.1; omega)]
            all_goals rfl
  · have hbad : code s = (-1, 1) := code_bad h0 (by omega)
    refine Exists.intro [.blk [0, 1, 2, 3, 4, 5]] (And.intro (by kernel_rfl) ?_)
    refine And.intro ⟨by omega, by omega⟩ ?_
    refine And.intro ⟨by omega, by omega⟩ ?_
    rw [hw]
    refine And.intro (fun h9 => absurd (of_decide_eq_true h9) (show ¬ (b8 s 0 < 128) by omega)) (fun _ => ?_)
    refine And.intro ⟨by omega, by omega⟩ ?_
    refine And.intro (fun _ => ?_) (fun h9 => absurd (show 192 ≤ b8 s 0 by omega) (of_decide_eq_false h9))
    refine And.intro ⟨by omega, by omega⟩ ?_
    refine And.intro (fun h9 => absurd (of_decide_eq_true h9) (show ¬ (b8 s 0 < 224) by omega)) (fun _ => ?_)
    refine And.intro ⟨by omega, by omega⟩ ?_
    refine And.intro (fun _ => ?_) (fun h9 => absurd (show 224 ≤ b8 s 0 by omega) (of_decide_eq_false h9))
    refine And.intro ⟨by omega, by omega⟩ ?_
    refine And.intro (fun h9 => absurd (of_decide_eq_true h9) (show ¬ (b8 s 0 < 240) by omega)) (fun _ => ?_)
    refine And.intro ⟨by omega, by omega⟩ ?_
    refine And.intro (fun _ => ?_) (fun h9 => absurd (show 240 ≤ b8 s 0 by omega) (of_decide_eq_false h9))
    refine And.intro ⟨by omega, by omega⟩ ?_
    refine And.intro (fun h9 => absurd (of_decide_eq_true h9) (show ¬ (b8 s 0 < 248) by omega)) (fun _ => ?_)
    rw [codeR, hbad]
    rfl
theorem s_Code (s : Str) : PSpec Tryd.prog 178 [.s s] (codeR s) :=
  pspec_of_vc Γ_good Tryd.func178 rfl Tryd.call178 Tryd.results178 Tryd.ntmps178 (Nat.le_of_ble_eq_true rfl) (w_Code s)
end
end Go.Proofs.YtdcdmojbkmedpaaDoor
end
section
namespace Go.Ut
set_option linter.unusedSectionVars false
set_option linter.unusedSimpArgs false
set_option linter.unusedVariables false
open Go.SX

def eb (x : Int) : UInt8 := UInt8.ofNat (IntKind.u8.wrap x).toNat
def encS (n : Int) : Str := if n < 128 then [eb n] else if n < 2048 then [eb (192 + n.tdiv 64)] ++ [eb (128 + n.tmod 64)] else if n < 65536 then ([eb (224 + n.tdiv 4096)] ++ [eb (128 + (n.tdiv 64).tmod 64)]) ++ [eb (128 + n.tmod 64)]
  else (([eb (240 + n.tdiv 262144)] ++ [eb (128 + (n.tdiv 4096).tmod 64)]) ++ [eb (128 + (n.tdiv 64).tmod 64)]) ++ [eb (128 + n.tmod 64)]
theorem encS_len {n : Int} (h : scalar n) : ((encS n).length : Int) = sizeR n := by
  unfold encS sizeR
  rw [if_pos h]
  (repeat' split) <;> rfl
theorem eb_eq {c : UInt8} {x : Int} (h : x = (c.toNat : Int)) : eb x = c := by
  have := c.toNat_lt
  unfold eb
  rw [IntWalk.u8_in x ⟨by omega, by omega⟩, h, Int.toNat_natCast]
  exact UInt8.ofNat_toNat
theorem eb_nat {x : Int} (h0 : 0 ≤ x) (h1 : x ≤ 255) : eb x = x.toNat.toUInt8 := by
  unfold eb
  rw [IntWalk.u8_in x ⟨h0, h1⟩]
/-- the library's code of a rune -/
theorem encode_scalar {n : Int} (h : scalar n) : Lib.encodeRune n = encS n := by
  unfold scalar at h
  have d1 : n.tdiv 64 = n / 64 := Int.tdiv_eq_ediv_of_nonneg h.1
  have d2 : n.tdiv 4096 = n / 4096 := Int.tdiv_eq_ediv_of_nonneg h.1
  have d3 : n.tdiv 262144 = n / 262144 := Int.tdiv_eq_ediv_of_nonneg h.1
  have m1 : n.tmod 64 = n % 64 := Int.tmod_eq_emod_of_nonneg h.1
  have m2 : (n / 64).tmod 64 = (n / 64) % 64 := Int.tmod_eq_emod_of_nonneg (by omega)
  have m3 : (n / 4096).tmod 64 = (n / 4096) % 64 := Int.tmod_eq_emod_of_nonneg (by omega)
  unfold Lib.encodeRune Lib.encodeRuneZ encS
  rw [d1, d2, d3, m1, m2, m3]
  by_cases h1 : n < 128
  · rw [if_pos (by omega), if_pos h1, eb_nat (by omega) (by omega)]; rfl
  rw [if_neg (by omega), if_neg h1]
  by_cases h2 : n < 2048
  · rw [if_pos (by omega), if_pos h2, eb_nat (by omega) (by omega), eb_nat (by omega) (by omega)]; rfl
  rw [if_neg (by omega), if_neg h2]
  by_cases h3 : n < 65536
  · rw [if_pos (by omega), if_pos h3, eb_nat (by omega) (by omega), eb_nat (by omega) (by omega), eb_nat (by omega) (by omega)]; rfl
  rw [if_neg (by omega), if_neg h3, if_pos (by omega), eb_nat (by omega) (by omega), eb_nat (by omega) (by omega), eb_nat (by omega) (by omega), eb_nat (by omega) (by omega)]
  rfl
theorem encode_bad {n : Int} (h : ¬ scalar n) : Lib.encodeRune n = encS 65533 := by
  unfold scalar at h
  unfold Lib.encodeRune Lib.encodeRuneZ
  rw [if_neg (by omega), if_neg (by omega), if_neg (by omega), if_neg (by omega)]
  decide
theorem take_get (s : Str) (i : Nat) : ∀ (n : Nat), i + n ≤ s.length → (s.drop i).take n = (List.range n).map fun k => s.getD (i + k) 0 := by
  intro n h
  apply List.ext_getElem
  · simp; omega
  · intro k h1 h2
    simp at h1 h2 ⊢
    simp [List.getD_eq_getElem?_getD, List.getElem?_eq_getElem (show i + k < s.length by omega)]
/-- where a rune begins -/
theorem good_at {s : Str} {i : Nat} (hk : i < s.length) (hnb : ¬ ((decAt s i).1 = 65533 ∧ (decAt s i).2 = 1)) :
    scalar ((decAt s i).1 : Int) ∧ ((decAt s i).2 : Int) = sizeR ((decAt s i).1 : Int) ∧ (s.drop i).take (decAt s i).2 = encS ((decAt s i).1 : Int) := by
  have r0 := (s.getD i 0).toNat_lt
  have r1 := (s.getD (i + 1) 0).toNat_lt
  have r2 := (s.getD (i + 2) 0).toNat_lt
  have r3 := (s.getD (i + 3) 0).toNat_lt
  have hd : decAt s i = Lib.decodeN (s.length - i) (s.getD i 0).toNat (s.getD (i + 1) 0).toNat (s.getD (i + 2) 0).toNat (s.getD (i + 3) 0).toNat := rfl
  have fin : ∀ v k : Nat, decAt s i = (v, k) → scalar (v : Int) → (k : Int) = sizeR v → (s.drop i).take k = encS v → scalar ((decAt s i).1 : Int) ∧ ((decAt s i).2 : Int) = sizeR ((decAt s i).1 : Int) ∧ (s.drop i).take (decAt s i).2 = encS ((decAt s i).1 : Int) := by
    intro v k e h1 h2 h3
    rw [e]
    exact ⟨h1, h2, h3⟩
  have td : ∀ (v m : Nat), (v : Int).tdiv (m : Int) = ((v / m : Nat) : Int) := fun v m => rfl
  have tm : ∀ (v m : Nat), (v : Int).tmod (m : Int) = ((v % m : Nat) : Int) := fun v m => rfl
  by_cases c0 : (s.getD i 0).toNat < 128
  · have e : decAt s i = ((s.getD i 0).toNat, 1) := by rw [hd]; unfold Lib.decodeN; rw [if_pos c0]
    refine fin _ _ e (by unfold scalar; omega) (by unfold sizeR; rw [if_pos (by unfold scalar; omega), if_pos (by omega)]; rfl) ?_
    rw [take_get s i 1 (by omega)]
    unfold encS
    rw [if_pos (by omega), eb_eq rfl]
    rfl
  by_cases c1 : (s.getD i 0).toNat < 192 ∨ 248 ≤ (s.getD i 0).toNat
  · exfalso
    refine hnb ?_
    have e : decAt s i = (65533, 1) := by rw [hd]; unfold Lib.decodeN; rw [if_neg (by omega), if_neg (by omega), if_neg (by omega), if_neg (by omega)]
    rw [e]
    exact ⟨rfl, rfl⟩
  by_cases c2 : (s.getD i 0).toNat < 224
  · rw [dec2 (by omega) c2 r1] at hd
    by_cases g : 2 ≤ s.length - i ∧ (128 ≤ (s.getD (i + 1) 0).toNat ∧ (s.getD (i + 1) 0).toNat < 192) ∧ 128 ≤ ((s.getD i 0).toNat - 192) * 64 + ((s.getD (i + 1) 0).toNat - 128)
    · rw [if_pos g] at hd
      have hs : scalar ((((s.getD i 0).toNat - 192) * 64 + ((s.getD (i + 1) 0).toNat - 128) : Nat) : Int) := by unfold scalar; omega
      refine fin _ _ hd hs (by unfold sizeR; rw [if_pos hs, if_neg (by omega), if_pos (by omega)]; rfl) ?_
      rw [take_get s i 2 (by omega)]
      unfold encS
      rw [if_neg (by omega), if_pos (by omega), eb_eq (c := s.getD i 0) (by rw [show (64 : Int) = ((64 : Nat) : Int) from rfl, td]; omega), eb_eq (c := s.getD (i + 1) 0) (by rw [show (64 : Int) = ((64 : Nat) : Int) from rfl, tm]; omega)]
      rfl
    · exact absurd (by rw [hd, if_neg g]; exact ⟨rfl, rfl⟩) hnb
  by_cases c3 : (s.getD i 0).toNat < 240
  · rw [dec3 (by omega) c3 r1 r2] at hd
    by_cases g : (3 ≤ s.length - i ∧ (128 ≤ (s.getD (i + 1) 0).toNat ∧ (s.getD (i + 1) 0).toNat < 192) ∧ (128 ≤ (s.getD (i + 2) 0).toNat ∧ (s.getD (i + 2) 0).toNat < 192)) ∧ 2048 ≤ ((s.getD i 0).toNat - 224) * 4096 + ((s.getD (i + 1) 0).toNat - 128) * 64 + ((s.getD (i + 2) 0).toNat - 128) ∧ (((s.getD i 0).toNat - 224) * 4096 + ((s.getD (i + 1) 0).toNat - 128) * 64 + ((s.getD (i + 2) 0).toNat - 128) < 55296 ∨ 57343 < ((s.getD i 0).toNat - 224) * 4096 + ((s.getD (i + 1) 0).toNat - 128) * 64 + ((s.getD (i + 2) 0).toNat - 128))
    · rw [if_pos g] at hd
      have hs : scalar ((((s.getD i 0).toNat - 224) * 4096 + ((s.getD (i + 1) 0).toNat - 128) * 64 + ((s.getD (i + 2) 0).toNat - 128) : Nat) : Int) := by unfold scalar; omega
      refine fin _ _ hd hs (by unfold sizeR; rw [if_pos hs, if_neg (by omega), if_neg (by omega), if_pos (by omega)]; rfl) ?_
      rw [take_get s i 3 (by omega)]
      unfold encS
      rw [if_neg (by omega), if_neg (by omega), if_pos (by omega), eb_eq (c := s.getD i 0) (by rw [show (4096 : Int) = ((4096 : Nat) : Int) from rfl, td]; omega), eb_eq (c := s.getD (i + 1) 0) (by rw [show (64 : Int) = ((64 : Nat) : Int) from rfl, td, tm]; omega), eb_eq (c := s.getD (i + 2) 0) (by rw [show (64 : Int) = ((64 : Nat) : Int) from rfl, tm]; omega)]
      rfl
    · exact absurd (by rw [hd, if_neg g]; exact ⟨rfl, rfl⟩) hnb
  · rw [dec4 (by omega) (by omega) r1 r2 r3] at hd
    by_cases g : (4 ≤ s.length - i ∧ (128 ≤ (s.getD (i + 1) 0).toNat ∧ (s.getD (i + 1) 0).toNat < 192) ∧ (128 ≤ (s.getD (i + 2) 0).toNat ∧ (s.getD (i + 2) 0).toNat < 192) ∧ (128 ≤ (s.getD (i + 3) 0).toNat ∧ (s.getD (i + 3) 0).toNat < 192)) ∧ 65536 ≤ ((s.getD i 0).toNat - 240) * 262144 + ((s.getD (i + 1) 0).toNat - 128) * 4096 + ((s.getD (i + 2) 0).toNat - 128) * 64 + ((s.getD (i + 3) 0).toNat - 128) ∧ ((s.getD i 0).toNat - 240) * 262144 + ((s.getD (i + 1) 0).toNat - 128) * 4096 + ((s.getD (i + 2) 0).toNat - 128) * 64 + ((s.getD (i + 3) 0).toNat - 128) ≤ 1114111
    · rw [if_pos g] at hd
      have hs : scalar ((((s.getD i 0).toNat - 240) * 262144 + ((s.getD (i + 1) 0).toNat - 128) * 4096 + ((s.getD (i + 2) 0).toNat - 128) * 64 + ((s.getD (i + 3) 0).toNat - 128) : Nat) : Int) := by unfold scalar; omega
      refine fin _ _ hd hs (by unfold sizeR; rw [if_pos hs, if_neg (by omega), if_neg (by omega), if_neg (by omega)]; rfl) ?_
      rw [take_get s i 4 (by omega)]
      unfold encS
      rw [if_neg (by omega), if_neg (by omega), if_neg (by omega), eb_eq (c := s.getD i 0) (by rw [show (262144 : Int) = ((262144 : Nat) : Int) from rfl, td]; omega), eb_eq (c := s.getD (i + 1) 0) (by rw [show (4096 : Int) = ((4096 : Nat) : Int) from rfl, td, show (64 : Int) = ((64 : Nat) : Int) from rfl, tm]; omega), eb_eq (c := s.getD (i + 2) 0) (by rw [show (64 : Int) = ((64 : Nat) : Int) from rfl, td, tm]; omega), eb_eq (c := s.getD (i + 3) 0) (by rw [show (64 : Int) = ((64 : Nat) : Int) from rfl, tm]; omega)]
      rfl
    · exact absurd (by rw [hd, if_neg g]; exact ⟨rfl, rfl⟩) hnb
end Go.Ut
end
section
namespace Go.Proofs.YtdcdmojbkmedpaaDoor
set_option linter.unusedSectionVars false
set_option linter.unusedSimpArgs false
set_option linter.unusedVariables false
open Go Go.SX Go.Ut Go.RowKit
set_option maxRecDepth 100000
set_option maxHeartbeats 0
section
variable [G : Globs]
theorem w_BadPlace (s : Str) : vc Tryd.prog Γ 23 [0, 2, 3, 4, 5, 9, 18] (Tryd.f129.body.getD .skip) (postK Γ [.tmp 2] (fun v => v = .i .i64 (bad s))) ⟨argSlots 0 [.s s], []⟩ := by
  refine Exists.intro [] (Exists.intro [] (Exists.intro [] (Exists.intro Nat (Exists.intro (fun i => i ≤ s.length ∧ badFrom s i = bad s) (Exists.intro (fun i => ⟨[(0, .s s), (3, .i .i64 i)], []⟩) (Exists.intro (fun i => s.length - i) (Exists.intro 0 (And.intro ⟨Nat.zero_le _, rfl⟩ (And.intro ?_ ?_)))))))))
  · (repeat' (first | exact trivial | exact Or.inl rfl | exact Or.inr (Or.inl ⟨rfl, _, rfl⟩) | exact Or.inr (Or.inr (Or.inr ⟨_, _, _, rfl, rfl⟩)) | refine And.intro ?_ ?_))
  · rintro i ⟨hi, heq⟩
    intro hml
    unfold maxLen at hml
    refine And.intro (fun hc => ?_) (fun hc => ?_)
    · have hk : i < s.length := by have : (i : Int) < s.length := of_decide_eq_true hc; omega
      rw [bad_step hk] at heq
      have hp := dec_pos s i
      have hle := dec_le hk
      have ht : (s.take (Int.toNat (s.length : Int))).drop (Int.toNat i) = s.drop i := by simp only [Int.toNat_natCast, List.take_length]
      have qc := s_Code (s.drop i)
      unfold codeR at qc
      rw [code_at hk] at qc
      refine And.intro ⟨by omega, by omega, Int.le_refl _⟩ ?_
      rw [ht]
      by_cases hb : (decAt s i).1 = 65533 ∧ (decAt s i).2 = 1
      · rw [if_pos hb] at qc heq
        refine Or.inl (Exists.intro _ (And.intro (qc) ?_))
        (focus (refine And.intro ?_ (fun h9 => ?_); rotate_left 1; (focus (exfalso; revert h9; first | decide | (simp <;> omega) | (intro h9; simp at h9 <;> omega))); refine fun _ => ?_))
        exact congrArg (AV.i .i64) heq
      · rw [if_neg hb] at qc heq
        refine Or.inl (Exists.intro _ (And.intro (qc) ?_))
        refine And.intro (fun h9 => absurd (of_decide_eq_true h9) (by simp only; omega)) (fun _ => ?_)
        refine And.intro ⟨by simp only; omega, by simp only; omega⟩ ?_
        refine Exists.intro [] (Exists.intro (i + (decAt s i).2) (And.intro ⟨hle, heq⟩ (And.intro ?_ ?_)))
        · (repeat' (first | exact trivial | exact Or.inl rfl | exact Or.inr (Or.inl ⟨rfl, _, rfl⟩) | exact Or.inr (Or.inr (Or.inr ⟨_, _, _, rfl, rfl⟩)) | refine And.intro ?_ ?_))
        · show s.length - (i + (decAt s i).2) < s.length - i
          omega
    · have hk : s.length ≤ i := by have : ¬ (i : Int) < s.length := of_decide_eq_false hc; omega
      rw [bad_end hk] at heq
      exact congrArg (AV.i .i64) heq
theorem s_BadPlace (s : Str) : PSpec Tryd.prog 129 [.s s] (.i .i64 (bad s)) :=
  pspec_of_vc Γ_good Tryd.func129 rfl Tryd.call129 Tryd.results129 Tryd.ntmps129 (Nat.le_of_ble_eq_true rfl) (w_BadPlace s)
theorem w_Bad (hu : HasU8) (s : Str) : vc Tryd.prog Γ 25 [0, 2, 3, 4, 6, 8, 9, 10, 14, 23] (Tryd.f143.body.getD .skip) (postK Γ [.tmp 2] (fun v => v = .i .i64 (bad s))) ⟨argSlots 0 [.s s], []⟩ := by
  refine Exists.intro [] (Exists.intro [] (Exists.intro [] (Exists.intro Nat (Exists.intro (fun i => i ≤ s.length ∧ badFrom s i = bad s) (Exists.intro (fun i => ⟨[(0, .s s), (8, .ob 8 8 (.it s i))], []⟩) (Exists.intro (fun i => s.length - i) (Exists.intro 0 (And.intro ⟨Nat.zero_le _, rfl⟩ (And.intro ?_ ?_)))))))))
  · (repeat' (first | exact trivial | exact Or.inl rfl | exact Or.inr (Or.inl ⟨rfl, _, rfl⟩) | exact Or.inr (Or.inr (Or.inr ⟨_, _, _, rfl, rfl⟩)) | refine And.intro ?_ ?_))
  · rintro i ⟨hi, heq⟩
    refine And.intro (fun hk => ?_) (fun hk => ?_)
    · rw [bad_step hk] at heq
      have hp := dec_pos s i
      have hle := dec_le hk
      have ht : (s.take (Int.toNat (s.length : Int))).drop (Int.toNat i) = s.drop i := by simp only [Int.toNat_natCast, List.take_length]
      have qc := s_Next hu (s.drop i)
      unfold codeR at qc
      rw [code_at hk] at qc
      (focus (refine And.intro ?_ (fun h9 => ?_); rotate_left 1; (focus (exfalso; revert h9; first | decide | (simp <;> omega) | (intro h9; simp at h9 <;> omega))); refine fun _ => ?_))
      refine And.intro (fun h1 => ?_) (fun h1 => ?_)
      · have h1 : (decAt s i).1 = 65533 := by have := eq_of_beq h1; omega
        refine And.intro ⟨by omega, by omega, Int.le_refl _⟩ ?_
        rw [ht]
        by_cases hb : (decAt s i).1 = 65533 ∧ (decAt s i).2 = 1
        · rw [if_pos hb] at qc heq
          refine Or.inl (Exists.intro _ (And.intro (qc) ?_))
          (focus (refine And.intro ?_ (fun h9 => ?_); rotate_left 1; (focus (exfalso; revert h9; first | decide | (simp <;> omega) | (intro h9; simp at h9 <;> omega))); refine fun _ => ?_))
          exact congrArg (AV.i .i64) heq
        · rw [if_neg hb] at qc heq
          refine Or.inl (Exists.intro _ (And.intro (qc) ?_))
          have h2 : (decAt s i).2 ≠ 1 := fun e => hb ⟨h1, e⟩
          refine And.intro (fun h9 => absurd (eq_of_beq h9) (by simp only; omega)) (fun _ => ?_)
          refine Exists.intro [] (Exists.intro (i + (decAt s i).2) (And.intro ⟨hle, heq⟩ (And.intro ?_ ?_)))
          · (repeat' (first | exact trivial | exact Or.inl rfl | exact Or.inr (Or.inl ⟨rfl, _, rfl⟩) | exact Or.inr (Or.inr (Or.inr ⟨_, _, _, rfl, rfl⟩)) | refine And.intro ?_ ?_))
          · show s.length - (i + (decAt s i).2) < s.length - i
            omega
      · have h1 : (decAt s i).1 ≠ 65533 := by have := ne_of_beq_false h1; omega
        rw [if_neg (fun h => h1 h.1)] at heq
        refine Exists.intro [] (Exists.intro (i + (decAt s i).2) (And.intro ⟨hle, heq⟩ (And.intro ?_ ?_)))
        · (repeat' (first | exact trivial | exact Or.inl rfl | exact Or.inr (Or.inl ⟨rfl, _, rfl⟩) | exact Or.inr (Or.inr (Or.inr ⟨_, _, _, rfl, rfl⟩)) | refine And.intro ?_ ?_))
        · show s.length - (i + (decAt s i).2) < s.length - i
          omega
    · rw [bad_end (by omega)] at heq
      (focus (refine And.intro (fun h9 => ?_) ?_; (focus (exfalso; revert h9; first | decide | (simp <;> omega) | (intro h9; simp at h9 <;> omega))); refine fun _ => ?_))
      exact congrArg (AV.i .i64) heq
theorem s_Bad (hu : HasU8) (s : Str) : PSpec Tryd.prog 143 [.s s] (.i .i64 (bad s)) :=
  pspec_of_vc Γ_good Tryd.func143 rfl Tryd.call143 Tryd.results143 Tryd.ntmps143 (Nat.le_of_ble_eq_true rfl) (w_Bad hu s)
theorem w_Runes (hu : HasU8) (s : Str) (hs : s.length ≤ 1048576) : vc Tryd.prog Γ 9 [0, 2, 3, 6] (Tryd.f218.body.getD .skip) (postK Γ [.tmp 2, .tmp 3] (fun v => v = if 0 ≤ bad s then .tup [.nl, .i .i64 3] else .tup [.rd .rune (runes s), .i .i64 0])) ⟨argSlots 0 [.s s], []⟩ := by
  refine Or.inl (Exists.intro _ (And.intro (s_Bad hu s) ?_))
  refine And.intro (fun h => ?_) (fun h => ?_)
  · have h : 0 ≤ bad s := of_decide_eq_true h
    rw [if_pos h]
    rfl
  · have h : ¬ 0 ≤ bad s := of_decide_eq_false h
    rw [if_neg h]
    refine And.intro (by omega) ?_
    rfl
theorem s_Runes (hu : HasU8) (s : Str) (hs : s.length ≤ 1048576) : PSpec Tryd.prog 218 [.s s] (if 0 ≤ bad s then .tup [.nl, .i .i64 3] else .tup [.rd .rune (runes s), .i .i64 0]) :=
  pspec_of_vc Γ_good Tryd.func218 rfl Tryd.call218 Tryd.results218 Tryd.ntmps218 (Nat.le_of_ble_eq_true rfl) (w_Runes hu s hs)
theorem bad_range {s : Str} {i : Nat} (h : badFrom s i < 0) (hk : i < s.length) : ¬ ((decAt s i).1 = 65533 ∧ (decAt s i).2 = 1) ∧ badFrom s (i + (decAt s i).2) < 0 := by
  rw [bad_step hk] at h
  by_cases hb : (decAt s i).1 = 65533 ∧ (decAt s i).2 = 1
  · rw [if_pos hb] at h; omega
  · rw [if_neg hb] at h; exact ⟨hb, h⟩
theorem w_Scalars (s : Str) (hs : s.length ≤ 1048576) (hb : bad s < 0) : vc Tryd.prog Γ 22 [0, 2, 3, 4, 5, 8] (Tryd.f109.body.getD .skip) (postK Γ [.tmp 2] (fun v => v = .rd .rune (runes s))) ⟨argSlots 0 [.s s], []⟩ := by
  refine Exists.intro [(3, 30, .rune)] (Exists.intro [] (Exists.intro [] (Exists.intro (List Int × Nat) (Exists.intro (fun x => x.2 ≤ s.length ∧ x.1.length ≤ x.2 ∧ badFrom s x.2 < 0 ∧ x.1 ++ runesFrom s x.2 = runes s) (Exists.intro (fun ⟨out, i⟩ => ⟨[(0, .s (s.drop i)), (3, .vec 30 .rune out)], []⟩) (Exists.intro (fun x => s.length - x.2) (Exists.intro ([], 0) (And.intro ⟨Nat.zero_le _, Nat.le_refl _, hb, rfl⟩ (And.intro ?_ ?_)))))))))
  · (repeat' (first | exact trivial | exact Or.inl rfl | exact Or.inr (Or.inl ⟨rfl, _, rfl⟩) | exact Or.inr (Or.inr (Or.inr ⟨_, _, _, rfl, rfl⟩)) | refine And.intro ?_ ?_))
  · rintro ⟨out, i⟩ ⟨hi, hol, hbi, heq⟩
    simp only at hi hol hbi heq
    have hdl : (s.drop i).length = s.length - i := List.length_drop ..
    intro _
    refine And.intro (fun hc => ?_) (fun hc => ?_)
    · have hk : i < s.length := by have : (0 : Int) < (s.drop i).length := of_decide_eq_true hc; omega
      obtain ⟨hnb, hbn⟩ := bad_range hbi hk
      have hp := dec_pos s i
      have hle := dec_le hk
      have qc := s_Code (s.drop i)
      unfold codeR at qc
      rw [code_at hk, if_neg hnb] at qc
      rw [runes_step hk, ← List.singleton_append, ← List.append_assoc] at heq
      refine Or.inl (Exists.intro _ (And.intro (qc) ?_))
      refine And.intro (by show (out.length + 1) * 4 ≤ _; omega) ?_
      refine And.intro ⟨by simp only; omega, by simp only; omega, Int.le_refl _⟩ ?_
      have ht : ((s.drop i).take (Int.toNat ((s.drop i).length : Int))).drop (Int.toNat ((decAt s i).2 : Int)) = s.drop (i + (decAt s i).2) := by simp only [Int.toNat_natCast, List.take_length, List.drop_drop]
      rw [ht]
      refine Exists.intro [(17, 30)] (Exists.intro (out ++ [((decAt s i).1 : Int)], i + (decAt s i).2) (And.intro ⟨hle, by show (out ++ [_]).length ≤ _; rw [List.length_append, List.length_singleton]; show out.length + 1 ≤ i + (decAt s i).2; omega, hbn, heq⟩ (And.intro ?_ ?_)))
      · (repeat' (first | exact trivial | exact Or.inl rfl | exact Or.inr (Or.inl ⟨rfl, _, rfl⟩) | exact Or.inr (Or.inr (Or.inr ⟨_, _, _, rfl, rfl⟩)) | refine And.intro ?_ ?_))
      · show s.length - (i + (decAt s i).2) < s.length - i
        omega
    · have hk : s.length ≤ i := by have : ¬ (0 : Int) < (s.drop i).length := of_decide_eq_false hc; omega
      rw [runes_end hk, List.append_nil] at heq
      rw [← heq]
      show _ = _
      rfl
theorem s_Scalars (s : Str) (hs : s.length ≤ 1048576) (hb : bad s < 0) : PSpec Tryd.prog 109 [.s s] (.rd .rune (runes s)) :=
  pspec_of_vc Γ_good Tryd.func109 rfl Tryd.call109 Tryd.results109 Tryd.ntmps109 (Nat.le_of_ble_eq_true rfl) (w_Scalars s hs hb)
end
end Go.Proofs.YtdcdmojbkmedpaaDoor
end
section
namespace Go.SX
set_option linter.unusedSectionVars false
variable [Globs]
/-- what a condition comes to: the code's own weakest precondition -/
structure VCs (P : Program) (Γ : Ctx) (N : Nat) (L : List Nat) (c : Code) (Q : Exit → St → Prop) (s : St) : Prop where
  ok : ∀ (W0 : World) (F : Fr) (X : Nat → Prop) (Q' : Exit → Act → World → Prop) (a : Act) (w : World), (∀ e s a w, Q e s → Inv W0 F X N s a w → Q' e a w) → Inv W0 F X N s a w → c.wp P Q' a w
section
variable {P : Program} {N : Nat} {Γ : Ctx} {L : List Nat} {s : St}
theorem VCs.of_vc (hΓ : Γ.good P) {c : Code} {Q : Exit → St → Prop} (h : vc P Γ N L c Q s) : VCs P Γ N L c Q s := ⟨fun _ _ _ Q' a w hQ hI => vc_ok hΓ c Q Q' s a w hQ h hI⟩
/-- the first part is walked, the second one is walked behind each of its ends -/
theorem VCs.seq (hΓ : Γ.good P) {x y : Code} {Q : Exit → St → Prop} (h : vc P Γ N L x (fun e s' => match e with
    | .normal => VCs P Γ N L y Q s'
    | e => Q e s') s) : VCs P Γ N L (.seq x y) Q s := ⟨fun W0 F X Q' a w hQ hI =>
  wp_seq (vc_ok hΓ x _ _ s a w (fun e s' a' w' hq hI' => by
    cases e with
    | normal => exact hq.ok W0 F X Q' a' w' hQ hI'
    | _ => exact hQ _ _ _ _ hq hI') h hI)⟩
/-- a cut: behind the first part the state is as told -/
theorem VCs.cut (hΓ : Γ.good P) {x y : Code} {Q : Exit → St → Prop} (σ : Type) (I : σ → Prop) (S : σ → St) (h : vc P Γ N L x (fun e s' => match e with
    | .normal => ∃ v, I v ∧ Wk s' (S v)
    | e => Q e s') s) (h2 : ∀ v, I v → VCs P Γ N L y Q (S v)) : VCs P Γ N L (.seq x y) Q s := ⟨fun W0 F X Q' a w hQ hI =>
  wp_seq (vc_ok hΓ x _ _ s a w (fun e s' a' w' hq hI' => by
    cases e with
    | normal =>
      obtain ⟨v, hv, hw⟩ := hq
      obtain ⟨β, hI'⟩ := hI'
      exact (h2 v hv).ok W0 F X Q' a' w' hQ ⟨β, hI'.wk hw⟩
    | _ => exact hQ _ _ _ _ hq hI') h hI)⟩
/-- ways within ways -/
theorem VCs.block {id : Nat} {c : Code} {Q : Exit → St → Prop} (h : VCs P Γ N L c (fun e s' => match e with
    | .exit id' => bif Nat.beq id' id then Q .normal s' else Q (.exit id') s'
    | e => Q e s') s) : VCs P Γ N L (.block id c) Q s := ⟨fun W0 F X Q' a w hQ hI => by
  refine wp_block (h.ok W0 F X _ a w (fun e s' a' w' hq hI' => ?_) hI)
  cases e with
  | exit id' =>
    have hq : bif Nat.beq id' id then Q .normal s' else Q (.exit id') s' := hq
    cases hb : Nat.beq id' id with
    | true =>
      rw [hb] at hq
      have hq1 : Q .normal s' := hq
      have e := Nat.eq_of_beq_eq_true hb
      subst e
      simp only [Exit.inBlock, if_true]
      exact hQ _ _ _ _ hq1 hI'
    | false =>
      rw [hb] at hq
      have hne : id' ≠ id := fun e => by subst e; rw [Nat.beq_refl] at hb; cases hb
      simp only [Exit.inBlock, hne, if_false]; exact hQ _ _ _ _ hq hI'
  | _ => exact hQ _ _ _ _ hq hI'⟩
theorem VCs.cond {c : Operand} {x y : Code} {Q : Exit → St → Prop} {t : Bool} (hc : ev s c = .b t) (h1 : t = true → VCs P Γ N L x Q s) (h2 : t = false → VCs P Γ N L y Q s) : VCs P Γ N L (.cond c x y) Q s := ⟨fun W0 F X Q' a w hQ hI => by
  obtain ⟨β, hI⟩ := hI
  have hr := (ev_rel hI c).1
  rw [hc] at hr
  exact wp_cond_split hr.inv_b (fun ht => (h1 ht).ok W0 F X Q' a w hQ ⟨β, hI⟩) (fun ht => (h2 ht).ok W0 F X Q' a w hQ ⟨β, hI⟩)⟩
theorem VCs.seqS {x y : Code} {Q : Exit → St → Prop} (h : VCs P Γ N L x (fun e s' => match e with
    | .normal => VCs P Γ N L y Q s'
    | e => Q e s') s) : VCs P Γ N L (.seq x y) Q s := ⟨fun W0 F X Q' a w hQ hI =>
  wp_seq (h.ok W0 F X _ a w (fun e s' a' w' hq hI' => by
    cases e with
    | normal => exact hq.ok W0 F X Q' a' w' hQ hI'
    | _ => exact hQ _ _ _ _ hq hI') hI)⟩
theorem VCs.cutS {x y : Code} {Q : Exit → St → Prop} (σ : Type) (I : σ → Prop) (S : σ → St) (h : VCs P Γ N L x (fun e s' => match e with
    | .normal => ∃ v, I v ∧ Wk s' (S v)
    | e => Q e s') s) (h2 : ∀ v, I v → VCs P Γ N L y Q (S v)) : VCs P Γ N L (.seq x y) Q s := ⟨fun W0 F X Q' a w hQ hI =>
  wp_seq (h.ok W0 F X _ a w (fun e s' a' w' hq hI' => by
    cases e with
    | normal =>
      obtain ⟨v, hv, hw⟩ := hq
      obtain ⟨β, hI'⟩ := hI'
      exact (h2 v hv).ok W0 F X Q' a' w' hQ ⟨β, hI'.wk hw⟩
    | _ => exact hQ _ _ _ _ hq hI') hI)⟩
/-- a contract out of it -/
theorem pspec_of_VCs (_hΓ : Γ.good P) {f : FuncId} {fn : Func} {c : Code} (hf : P.funcs[f]? = some fn) (hb : fn.body = some c) (hcall : ∀ (vs : Array Value) (w : World), (callFunc f vs).run P w = .ok (.enter f vs) w)
    {rs : Array ResultVar} (hrs : fn.results = rs) (hN : fn.ntmps = N) {args : List AV} {r : AV} (hlen : args.length ≤ N)
    (hvc : VCs P Γ N L c (postK Γ rs.toList (fun v => v = r)) ⟨argSlots 0 args, []⟩) (hΓ : Γ.good P) : PSpec P f args r := by
  refine ⟨hcall, fun O w vs hO hG hargs => ?_⟩
  refine calls_of_wp hf hb ?_
  have hsz : vs.length = args.length := hargs.1.symm
  have hI : InvB w Fr.none O N ⟨argSlots 0 args, []⟩ (fun _ => none) { tmps := vs.toArray ++ Array.replicate (fn.ntmps - vs.toArray.size) undef, defers := [] } w := by
    have hNm : ∀ n, ¬ Nm ⟨argSlots 0 args, []⟩ n := by
      rintro n (⟨cs, h⟩ | ⟨m, h⟩ | ⟨b, cs, h, _⟩)
      · cases h
      · have := look_args args 0 m
        rw [Nat.zero_add] at this
        simp only [this] at h
        by_cases hm : m < args.length
        · rw [List.getD_eq_getElem?_getD, List.getElem?_eq_getElem hm] at h
          have := (hargs.2 m _ _ (List.getElem?_eq_getElem hm) (List.getElem?_eq_getElem (by rw [hsz]; exact hm))).ids_nil
          rw [show (some args[m]).getD AV.x = args[m] from rfl, this] at h
          cases h
        · rw [List.getD_eq_getElem?_getD, List.getElem?_eq_none (by omega)] at h
          simp [ids, ids0] at h
      · cases h
    refine ⟨Stp.refl _ _, fun n => ?_, ?_, fun n cs h => (by cases h), fun n m g hn => absurd hn (hNm n), fun n g hn => absurd hn (hNm n), rfl, fun k hk => ⟨hO k hk, id⟩, fun n cs g h => (by cases h), fun _ _ => rfl, hG.step (Stp.refl (fun _ => False) w) (fun _ _ h => h.elim) fun k _ hk => hk.elim id fun h => h.elim⟩
    · have h1 := look_args args 0 n
      rw [Nat.zero_add] at h1
      show Rel _ _ _ (look (argSlots 0 args) n) _
      rw [h1]
      by_cases hm : n < args.length
      · have hmv : n < vs.length := by rw [hsz]; exact hm
        have h2 := hargs.2 n _ _ (List.getElem?_eq_getElem hm) (List.getElem?_eq_getElem hmv)
        rw [List.getD_eq_getElem?_getD, List.getElem?_eq_getElem hm]
        have h3 : (vs.toArray ++ Array.replicate (fn.ntmps - vs.toArray.size) undef).getD n undef = vs[n] := by
          rw [Array.getD_eq_getD_getElem?, Array.getElem?_append_left (by simpa using hmv)]
          simp [hmv]
        rw [h3]
        refine Rel.im (h2.mono fun k hk => ?_)
        rcases hk with hk | ⟨m, hm', _⟩
        · exact hk
        · exact absurd hm' (hNm m)
      · rw [List.getD_eq_getElem?_getD, List.getElem?_eq_none (by omega)]
        exact Rel.x
    · show (vs.toArray ++ Array.replicate (fn.ntmps - vs.toArray.size) undef).size = N
      simp only [Array.size_append, List.size_toArray, Array.size_replicate, hN, hsz]
      omega
  refine hvc.ok w Fr.none O _ _ _ (fun e s a w' hq ⟨β, hI'⟩ => ?_) ⟨_, hI⟩
  have key : retK Γ s rs.toList (fun v => v = r) → a.defers = [] ∧ ∃ v, (results fn a.tmps).run P w' = .ok v w' ∧ ∃ v', Ending.returned v = .returned v' ∧ Stp (fun _ => False) w w' ∧ Im O w' r v' := by
    intro h
    rw [← hrs] at h
    obtain ⟨v, u, rfl, h1, h2⟩ := ret_ok hΓ hI' h
    exact ⟨hI'.defers, u, h2, u, rfl, hI'.ext, h1⟩
  cases e with
  | normal => exact key hq
  | ret => exact key hq
  | _ => exact hq.elim
/-- .. one that writes -/
theorem cspec_of_VCs (hΓ : Γ.good P) {f : FuncId} {fn : Func} {c : Code} (hf : P.funcs[f]? = some fn) (hb : fn.body = some c) (hcall : ∀ (vs : Array Value) (w : World), (callFunc f vs).run P w = .ok (.enter f vs) w)
    {rs : Array ResultVar} (hrs : fn.results = rs) (hN : fn.ntmps = N) {args : List AV} {boxes : List (Nat × List AV)} {r : AV} {boxes' : List (Nat × List AV)} {L : List Nat} (hlen : args.length ≤ N) (hN1 : 1 ≤ N)
    (hlow : (boxNames boxes).all (fun n => Nat.ble N n) = true) (hvc : VCs P Γ N L c (postBK Γ rs.toList r boxes') ⟨argSlots 0 args, boxes⟩) : CSpec P f args boxes r boxes' := by
  refine ⟨hcall, fun F X β w vs hvs hpin hI0 => ?_⟩
  refine calls_of_wp hf hb ?_
  have hpad : ∀ n, (vs.toArray ++ Array.replicate (fn.ntmps - vs.toArray.size) undef).getD n undef = vs.toArray.getD n undef ∨ look (argSlots 0 args) n = .x := fun n => by
    by_cases hm : n < vs.length
    · left
      simp only [Array.getD_eq_getD_getElem?]
      rw [Array.getElem?_append_left (by simpa using hm)]
    · right
      have h1 := look_args args 0 n
      rw [Nat.zero_add] at h1
      rw [h1, List.getD_eq_getElem?_getD, List.getElem?_eq_none (by omega)]
      rfl
  have hI : InvB w F X N ⟨argSlots 0 args, boxes⟩ β { tmps := vs.toArray ++ Array.replicate (fn.ntmps - vs.toArray.size) undef, defers := [] } w := by
    refine ⟨hI0.ext, fun n => ?_, ?_, hI0.boxes, hI0.inj, hI0.own, hI0.defers, hI0.ext2, hI0.pin, fun n hn => ?_, hI0.gl⟩
    · rcases hpad n with h1 | h1
      · show Rel _ _ _ _ ((vs.toArray ++ Array.replicate (fn.ntmps - vs.toArray.size) undef).getD n undef)
        rw [h1]; exact hI0.slots n
      · show Rel _ _ _ (look (argSlots 0 args) n) _
        rw [h1]; exact Rel.x
    · simp only [Array.size_append, List.size_toArray, Array.size_replicate, hN, hvs]
      omega
    · cases hp : F.pin n with
      | none => rfl
      | some g =>
        have h1 := boxNames_mem.2 (hpin n g hp)
        have := Nat.le_of_ble_eq_true (List.all_eq_true.1 hlow n h1)
        omega
  refine hvc.ok w F X _ _ _ (fun e s a w' hq ⟨β', hI'⟩ => ?_) ⟨_, hI⟩
  have key : endK Γ rs.toList r boxes' s → a.defers = [] ∧ ∃ v, (results fn a.tmps).run P w' = .ok v w' ∧ ∃ v' β'', Ending.returned v = .returned v' ∧ InvB w F X 1 ⟨[(0, r)], boxes'⟩ β'' ⟨#[v'], []⟩ w' := by
    intro h
    rw [← hrs] at h
    obtain ⟨u, β'', h1, h2⟩ := end_ok hΓ hN1 hI' h
    have hd : F.dfr = [] := hI0.defers.symm
    have hF : { F with dfr := [] } = F := by cases F; simp only at hd; subst hd; rfl
    rw [hF] at h2
    exact ⟨hI'.defers.trans hd, u, h1, u, β'', rfl, h2⟩
  cases e with
  | normal => exact key hq
  | ret => exact key hq
  | _ => exact hq.elim
/-- a nil slice handed in for an empty one of the caller's own -/
theorem CSpec.nl0 {f : FuncId} {id : Nat} {τ : Ty} {args : List AV} {boxes : List (Nat × List AV)} {r : AV} {boxes' : List (Nat × List AV)} (h : CSpec P f (.vec id τ [] :: args) boxes r boxes')
    (hf : inB id (namesV (.nl :: args) boxes) = false) : CSpec P f (.nl :: args) boxes r boxes' := by
  refine ⟨h.1, fun F X β w vs h1 h2 hI => h.2 F X (setβ β id none) w vs h1 h2 ?_⟩
  have hfree : ¬ Nm ⟨argSlots 0 (.nl :: args), boxes⟩ id := fun hm => by
    have := Nm_names (look_args_mem (.nl :: args) 0) hm
    rw [inB_iff.2 this] at hf
    cases hf
  exact hI.nlVec (n := 0) (id := id) rfl hfree τ
end
end Go.SX
end
section
namespace Go.SX
set_option linter.unusedSectionVars false
variable [Globs]
section
variable {P : Program} {N : Nat} {Γ : Ctx} {L : List Nat} {W0 : World} {F : Fr} {X : Nat → Prop} {s : St} {β : Nat → Option Nat} {a : Act} {w : World}
/-- the same, but that a nil slice may stand for an empty one -/
def RL1 : AV → AV → Prop
  | .agg cs, .agg ds => AVles cs ds
  | c, d => AVle c d
def RLs : List AV → List AV → Prop
  | [], [] => True
  | a :: r, b :: t => RL1 a b ∧ RLs r t
  | _, _ => False
def RL : AV → AV → Prop
  | .tup cs, .tup ds => RLs cs ds
  | c, d => RL1 c d
theorem im_RL1 {O : Nat → Prop} {c d : AV} {u : Value} (h : Im O w c u) (hle : RL1 c d) : Im O w d u := by
  unfold RL1 at hle
  split at hle
  · cases h with
    | agg _ vs h1 h2 h3 =>
      have := all_le (show All2 (Im O w) _ vs from ⟨h1, h3⟩) hle
      exact .agg _ vs this.1 h2 this.2
  · exact im_le h hle
theorem im_RLs {O : Nat → Prop} : ∀ {cs ds : List AV} {us : List Value}, All2 (Im O w) cs us → RLs cs ds → All2 (Im O w) ds us
  | [], [], us, h, _ => h
  | [], _ :: _, _, _, hle => hle.elim
  | _ :: _, [], _, _, hle => hle.elim
  | c :: r, d :: t, us, h, hle => by
    obtain ⟨u, us', rfl, h1, h2⟩ := h.cons_inv
    exact All2.cons (im_RL1 h1 hle.1) (im_RLs h2 hle.2)
theorem im_RL {O : Nat → Prop} {c d : AV} {u : Value} (h : Im O w c u) (hle : RL c d) : Im O w d u := by
  unfold RL at hle
  split at hle
  · cases h with
    | tup _ vs h1 h2 =>
      have := im_RLs (show All2 (Im O w) _ vs from ⟨h1, h2⟩) hle
      exact .tup _ vs this.1 this.2
  · exact im_RL1 h hle
/-- a contract called with nil slices in place of empty ones -/
theorem PSpec.arg {f : FuncId} {args args' : List AV} {r : AV} (h : PSpec P f args r) (hle : RLs args' args) : PSpec P f args' r :=
  ⟨h.1, fun O w vs h1 h2 h3 => h.2 O w vs h1 h2 (im_RLs h3 hle)⟩
theorem pspec_of_vcL (hΓ : Γ.good P) {f : FuncId} {fn : Func} {c : Code} (hf : P.funcs[f]? = some fn) (hb : fn.body = some c) (hcall : ∀ (vs : Array Value) (w : World), (callFunc f vs).run P w = .ok (.enter f vs) w)
    {rs : Array ResultVar} (hrs : fn.results = rs) (hN : fn.ntmps = N) {args : List AV} {r : AV} {L : List Nat} (hlen : args.length ≤ N)
    (hvc : vc P Γ N L c (postK Γ rs.toList (fun v => RL v r)) ⟨argSlots 0 args, []⟩) : PSpec P f args r := by
  refine ⟨hcall, fun O w vs hO hG hargs => ?_⟩
  refine calls_of_wp hf hb ?_
  have hsz : vs.length = args.length := hargs.1.symm
  have hI : InvB w Fr.none O N ⟨argSlots 0 args, []⟩ (fun _ => none) { tmps := vs.toArray ++ Array.replicate (fn.ntmps - vs.toArray.size) undef, defers := [] } w := by
    have hNm : ∀ n, ¬ Nm ⟨argSlots 0 args, []⟩ n := by
      rintro n (⟨cs, h⟩ | ⟨m, h⟩ | ⟨b, cs, h, _⟩)
      · cases h
      · have := look_args args 0 m
        rw [Nat.zero_add] at this
        simp only [this] at h
        by_cases hm : m < args.length
        · rw [List.getD_eq_getElem?_getD, List.getElem?_eq_getElem hm] at h
          have := (hargs.2 m _ _ (List.getElem?_eq_getElem hm) (List.getElem?_eq_getElem (by rw [hsz]; exact hm))).ids_nil
          rw [show (some args[m]).getD AV.x = args[m] from rfl, this] at h
          cases h
        · rw [List.getD_eq_getElem?_getD, List.getElem?_eq_none (by omega)] at h
          simp [ids, ids0] at h
      · cases h
    refine ⟨Stp.refl _ _, fun n => ?_, ?_, fun n cs h => (by cases h), fun n m g hn => absurd hn (hNm n), fun n g hn => absurd hn (hNm n), rfl, fun k hk => ⟨hO k hk, id⟩, fun n cs g h => (by cases h), fun _ _ => rfl, hG.step (Stp.refl (fun _ => False) w) (fun _ _ h => h.elim) fun k _ hk => hk.elim id fun h => h.elim⟩
    · have h1 := look_args args 0 n
      rw [Nat.zero_add] at h1
      show Rel _ _ _ (look (argSlots 0 args) n) _
      rw [h1]
      by_cases hm : n < args.length
      · have hmv : n < vs.length := by rw [hsz]; exact hm
        have h2 := hargs.2 n _ _ (List.getElem?_eq_getElem hm) (List.getElem?_eq_getElem hmv)
        rw [List.getD_eq_getElem?_getD, List.getElem?_eq_getElem hm]
        have h3 : (vs.toArray ++ Array.replicate (fn.ntmps - vs.toArray.size) undef).getD n undef = vs[n] := by
          rw [Array.getD_eq_getD_getElem?, Array.getElem?_append_left (by simpa using hmv)]
          simp [hmv]
        rw [h3]
        refine Rel.im (h2.mono fun k hk => ?_)
        rcases hk with hk | ⟨m, hm', _⟩
        · exact hk
        · exact absurd hm' (hNm m)
      · rw [List.getD_eq_getElem?_getD, List.getElem?_eq_none (by omega)]
        exact Rel.x
    · show (vs.toArray ++ Array.replicate (fn.ntmps - vs.toArray.size) undef).size = N
      simp only [Array.size_append, List.size_toArray, Array.size_replicate, hN, hsz]
      omega
  refine vc_ok (W0 := w) (F := Fr.none) (X := O) hΓ c _ _ _ _ _ (fun e s a w' hq ⟨β, hI'⟩ => ?_) hvc ⟨_, hI⟩
  have key : retK Γ s rs.toList (fun v => RL v r) → a.defers = [] ∧ ∃ v, (results fn a.tmps).run P w' = .ok v w' ∧ ∃ v', Ending.returned v = .returned v' ∧ Stp (fun _ => False) w w' ∧ Im O w' r v' := by
    intro h
    rw [← hrs] at h
    obtain ⟨v, u, hv, h1, h2⟩ := ret_ok hΓ hI' h
    exact ⟨hI'.defers, u, h2, u, rfl, hI'.ext, im_RL h1 hv⟩
  cases e with
  | normal => exact key hq
  | ret => exact key hq
  | _ => exact hq.elim

theorem pspec_of_VCsL (_hΓ : Γ.good P) {f : FuncId} {fn : Func} {c : Code} (hf : P.funcs[f]? = some fn) (hb : fn.body = some c) (hcall : ∀ (vs : Array Value) (w : World), (callFunc f vs).run P w = .ok (.enter f vs) w)
    {rs : Array ResultVar} (hrs : fn.results = rs) (hN : fn.ntmps = N) {args : List AV} {r : AV} (hlen : args.length ≤ N)
    (hvc : VCs P Γ N L c (postK Γ rs.toList (fun v => RL v r)) ⟨argSlots 0 args, []⟩) (hΓ : Γ.good P) : PSpec P f args r := by
  refine ⟨hcall, fun O w vs hO hG hargs => ?_⟩
  refine calls_of_wp hf hb ?_
  have hsz : vs.length = args.length := hargs.1.symm
  have hI : InvB w Fr.none O N ⟨argSlots 0 args, []⟩ (fun _ => none) { tmps := vs.toArray ++ Array.replicate (fn.ntmps - vs.toArray.size) undef, defers := [] } w := by
    have hNm : ∀ n, ¬ Nm ⟨argSlots 0 args, []⟩ n := by
      rintro n (⟨cs, h⟩ | ⟨m, h⟩ | ⟨b, cs, h, _⟩)
      · cases h
      · have := look_args args 0 m
        rw [Nat.zero_add] at this
        simp only [this] at h
        by_cases hm : m < args.length
        · rw [List.getD_eq_getElem?_getD, List.getElem?_eq_getElem hm] at h
          have := (hargs.2 m _ _ (List.getElem?_eq_getElem hm) (List.getElem?_eq_getElem (by rw [hsz]; exact hm))).ids_nil
          rw [show (some args[m]).getD AV.x = args[m] from rfl, this] at h
          cases h
        · rw [List.getD_eq_getElem?_getD, List.getElem?_eq_none (by omega)] at h
          simp [ids, ids0] at h
      · cases h
    refine ⟨Stp.refl _ _, fun n => ?_, ?_, fun n cs h => (by cases h), fun n m g hn => absurd hn (hNm n), fun n g hn => absurd hn (hNm n), rfl, fun k hk => ⟨hO k hk, id⟩, fun n cs g h => (by cases h), fun _ _ => rfl, hG.step (Stp.refl (fun _ => False) w) (fun _ _ h => h.elim) fun k _ hk => hk.elim id fun h => h.elim⟩
    · have h1 := look_args args 0 n
      rw [Nat.zero_add] at h1
      show Rel _ _ _ (look (argSlots 0 args) n) _
      rw [h1]
      by_cases hm : n < args.length
      · have hmv : n < vs.length := by rw [hsz]; exact hm
        have h2 := hargs.2 n _ _ (List.getElem?_eq_getElem hm) (List.getElem?_eq_getElem hmv)
        rw [List.getD_eq_getElem?_getD, List.getElem?_eq_getElem hm]
        have h3 : (vs.toArray ++ Array.replicate (fn.ntmps - vs.toArray.size) undef).getD n undef = vs[n] := by
          rw [Array.getD_eq_getD_getElem?, Array.getElem?_append_left (by simpa using hmv)]
          simp [hmv]
        rw [h3]
        refine Rel.im (h2.mono fun k hk => ?_)
        rcases hk with hk | ⟨m, hm', _⟩
        · exact hk
        · exact absurd hm' (hNm m)
      · rw [List.getD_eq_getElem?_getD, List.getElem?_eq_none (by omega)]
        exact Rel.x
    · show (vs.toArray ++ Array.replicate (fn.ntmps - vs.toArray.size) undef).size = N
      simp only [Array.size_append, List.size_toArray, Array.size_replicate, hN, hsz]
      omega
  refine hvc.ok w Fr.none O _ _ _ (fun e s a w' hq ⟨β, hI'⟩ => ?_) ⟨_, hI⟩
  have key : retK Γ s rs.toList (fun v => RL v r) → a.defers = [] ∧ ∃ v, (results fn a.tmps).run P w' = .ok v w' ∧ ∃ v', Ending.returned v = .returned v' ∧ Stp (fun _ => False) w w' ∧ Im O w' r v' := by
    intro h
    rw [← hrs] at h
    obtain ⟨v, u, hv, h1, h2⟩ := ret_ok hΓ hI' h
    exact ⟨hI'.defers, u, h2, u, rfl, hI'.ext, im_RL h1 hv⟩
  cases e with
  | normal => exact key hq
  | ret => exact key hq
  | _ => exact hq.elim
end
end Go.SX
end
section
namespace Go.Proofs.YtdcdmojbkmedpaaDoor
set_option linter.unusedSectionVars false
set_option linter.unusedSimpArgs false
set_option linter.unusedVariables false
open Go Go.SX
theorem rng64 {n : Int} (h1 : -9223372036854775808 ≤ n) (h2 : n ≤ 9223372036854775807) : Rng .i64 n := ⟨h1, h2⟩
theorem tmodN (c m : Nat) : (c : Int).tmod (m : Int) = ((c % m : Nat) : Int) := rfl
theorem tdivN (c m : Nat) : (c : Int).tdiv (m : Int) = ((c / m : Nat) : Int) := rfl
theorem len_le {n : Nat} (h : n ≤ maxLen) : n ≤ 9223372036854775807 := by unfold maxLen at h; omega
/-- what a loop's condition tells -/
theorem ltD {i n : Nat} (h : decide ((i : Int) < (n : Int)) = true) : i < n := by have := of_decide_eq_true h; omega
theorem geD {i n : Nat} (hi : i ≤ n) (h : decide ((i : Int) < (n : Int)) = false) : i = n := by have := of_decide_eq_false h; omega
theorem getI {τ : Ty} {l : List (den τ)} {i : Nat} (h : i < l.length) : l.getD (Int.toNat (i : Int)) (dflt τ) = l[i] := by rw [Int.toNat_natCast, List.getD_eq_getElem?_getD, List.getElem?_eq_getElem h]; rfl
theorem take_snoc {α : Type} {l : List α} {i : Nat} (h : i < l.length) : l.take (i + 1) = l.take i ++ [l[i]] := by rw [List.take_add_one, List.getElem?_eq_getElem h]; rfl
section
variable [G : Globs]
/-- a nil slice for an empty one -/
theorem pspec_le {P : Program} {f : FuncId} {args args' : List AV} {r : AV} (h : PSpec P f args r) (hle : AVles args' args) : PSpec P f args' r :=
  ⟨h.1, fun O w vs hO hG hargs => h.2 O w vs hO hG (all_le hargs hle)⟩
end
end Go.Proofs.YtdcdmojbkmedpaaDoor
end
section
namespace Go.Proofs.YtdcdmojbkmedpaaDoor
set_option linter.unusedSectionVars false
set_option linter.unusedSimpArgs false
set_option linter.unusedVariables false
open Go Go.SX Go.Vl
set_option maxRecDepth 100000
set_option maxHeartbeats 0
theorem less_ne {a b : Str} (h : Op.bytesLess a b = true) : a ≠ b := fun e => by rw [e, less_irrefl] at h; cases h
theorem beq_S (a : Str) : (a == a) = true := beq_self_eq_true a
theorem shr63 {f : Int} (h0 : 0 ≤ f) (h1 : f ≤ 18446744073709551615) : (f.fdiv (2 ^ min (Int.toNat 63) IntKind.u64.bits) == 1) = decide (¬ f < 9223372036854775808) := by
  rw [show (2 : Int) ^ min (Int.toNat 63) IntKind.u64.bits = 9223372036854775808 from rfl, Int.fdiv_eq_ediv_of_nonneg _ (by decide)]
  rw [Bool.eq_iff_iff, beq_iff_eq, decide_eq_true_eq]
  omega
theorem or63 {f : Int} (h0 : 0 ≤ f) (h1 : f < 9223372036854775808) : bits .or .u64 f 9223372036854775808 = f + 9223372036854775808 := by
  obtain ⟨n, rfl⟩ : ∃ n : Nat, f = n := ⟨f.toNat, by omega⟩
  rw [show (9223372036854775808 : Int) = ((2 ^ 63 * 1 : Nat) : Int) from rfl, bits_or_u64_nat _ _ (by omega) (by omega), Nat.or_comm, ← Nat.two_pow_add_eq_or_of_lt (by omega)]
  omega
theorem xor63 {f : Int} (h0 : 0 ≤ f) (h1 : f ≤ 18446744073709551615) : bits .xor .u64 (if IntKind.u64.signed = true then -1 else IntKind.u64.max) f = 18446744073709551615 - f := by
  obtain ⟨n, rfl⟩ : ∃ n : Nat, f = n := ⟨f.toNat, by omega⟩
  rw [show (if IntKind.u64.signed = true then (-1 : Int) else IntKind.u64.max) = ((18446744073709551615 : Nat) : Int) from rfl, bits_xor_u64_nat _ _ (by omega) (by omega)]
  have h : (18446744073709551615 ^^^ n : Nat) = 18446744073709551615 - n := by
    have h2 := congrArg BitVec.toNat (BitVec.allOnes_xor (x := BitVec.ofNat 64 n))
    rw [BitVec.toNat_xor, BitVec.toNat_not, BitVec.toNat_ofNat, Nat.mod_eq_of_lt (by omega), BitVec.toNat_allOnes] at h2
    exact h2
  rw [h]
  omega
section
variable [G : Globs]
theorem w_nanI64 (a : Int) : vc Tryd.prog Γ 6 [0, 2] (Tryd.f213.body.getD .skip) (postK Γ [.tmp 2] (fun v => v = .b false)) ⟨argSlots 0 [.i .i64 a], []⟩ := by
  show _ = _
  rw [bne_self_eq_false]
  rfl
theorem s_nanI64 (a : Int) : PSpec Tryd.prog 213 [.i .i64 a] (.b false) :=
  pspec_of_vc Γ_good Tryd.func213 rfl Tryd.call213 Tryd.results213 Tryd.ntmps213 (Nat.le_of_ble_eq_true rfl) (w_nanI64 a)
theorem w_cmpI64 (a b : Int) : vc Tryd.prog Γ 20 [0, 1, 4, 5, 6, 11, 12, 13, 16, 19] (Tryd.f167.body.getD .skip) (postK Γ [.tmp 4] (fun v => v = .i .i64 (cmpI a b))) ⟨argSlots 0 [.i .i64 a, .i .i64 b], []⟩ := by
  refine Or.inl (Exists.intro _ (And.intro (s_nanI64 a) ?_))
  refine Or.inl (Exists.intro _ (And.intro (s_nanI64 b) ?_))
  refine And.intro (fun h => Bool.noConfusion h) (fun _ => ?_)
  refine And.intro (fun h => Bool.noConfusion h) (fun _ => ?_)
  refine And.intro (fun h => ?_) (fun h => ?_)
  · have h : a < b := of_decide_eq_true h
    show AV.i .i64 (-1) = AV.i .i64 (cmpI a b)
    rw [cmpI, if_neg (by omega), if_pos h]
  · have h : ¬ a < b := of_decide_eq_false h
    refine And.intro (fun h2 => ?_) (fun h2 => ?_)
    · have h2 : b < a := of_decide_eq_true h2
      show AV.i .i64 1 = AV.i .i64 (cmpI a b)
      rw [cmpI, if_neg (by omega), if_neg h]
    · have h2 : ¬ b < a := of_decide_eq_false h2
      show AV.i .i64 0 = AV.i .i64 (cmpI a b)
      rw [cmpI, if_pos (by omega)]
theorem s_cmpI64 (a b : Int) : PSpec Tryd.prog 167 [.i .i64 a, .i .i64 b] (.i .i64 (cmpI a b)) :=
  pspec_of_vc Γ_good Tryd.func167 rfl Tryd.call167 Tryd.results167 Tryd.ntmps167 (Nat.le_of_ble_eq_true rfl) (w_cmpI64 a b)
theorem w_nanJ64 (a : Int) : vc Tryd.prog Γ 6 [0, 2] (Tryd.f214.body.getD .skip) (postK Γ [.tmp 2] (fun v => v = .b false)) ⟨argSlots 0 [.i .i64 a], []⟩ := by
  show _ = _
  rw [bne_self_eq_false]
  rfl
theorem s_nanJ64 (a : Int) : PSpec Tryd.prog 214 [.i .i64 a] (.b false) :=
  pspec_of_vc Γ_good Tryd.func214 rfl Tryd.call214 Tryd.results214 Tryd.ntmps214 (Nat.le_of_ble_eq_true rfl) (w_nanJ64 a)
theorem w_cmpJ64 (a b : Int) : vc Tryd.prog Γ 20 [0, 1, 4, 5, 6, 11, 12, 13, 16, 19] (Tryd.f168.body.getD .skip) (postK Γ [.tmp 4] (fun v => v = .i .i64 (cmpI a b))) ⟨argSlots 0 [.i .i64 a, .i .i64 b], []⟩ := by
  refine Or.inl (Exists.intro _ (And.intro (s_nanJ64 a) ?_))
  refine Or.inl (Exists.intro _ (And.intro (s_nanJ64 b) ?_))
  refine And.intro (fun h => Bool.noConfusion h) (fun _ => ?_)
  refine And.intro (fun h => Bool.noConfusion h) (fun _ => ?_)
  refine And.intro (fun h => ?_) (fun h => ?_)
  · have h : a < b := of_decide_eq_true h
    show AV.i .i64 (-1) = AV.i .i64 (cmpI a b)
    rw [cmpI, if_neg (by omega), if_pos h]
  · have h : ¬ a < b := of_decide_eq_false h
    refine And.intro (fun h2 => ?_) (fun h2 => ?_)
    · have h2 : b < a := of_decide_eq_true h2
      show AV.i .i64 1 = AV.i .i64 (cmpI a b)
      rw [cmpI, if_neg (by omega), if_neg h]
    · have h2 : ¬ b < a := of_decide_eq_false h2
      show AV.i .i64 0 = AV.i .i64 (cmpI a b)
      rw [cmpI, if_pos (by omega)]
theorem s_cmpJ64 (a b : Int) : PSpec Tryd.prog 168 [.i .i64 a, .i .i64 b] (.i .i64 (cmpI a b)) :=
  pspec_of_vc Γ_good Tryd.func168 rfl Tryd.call168 Tryd.results168 Tryd.ntmps168 (Nat.le_of_ble_eq_true rfl) (w_cmpJ64 a b)
theorem w_nanU64 (a : Int) : vc Tryd.prog Γ 6 [0, 2] (Tryd.f215.body.getD .skip) (postK Γ [.tmp 2] (fun v => v = .b false)) ⟨argSlots 0 [.i .u64 a], []⟩ := by
  show _ = _
  rw [bne_self_eq_false]
  rfl
theorem s_nanU64 (a : Int) : PSpec Tryd.prog 215 [.i .u64 a] (.b false) :=
  pspec_of_vc Γ_good Tryd.func215 rfl Tryd.call215 Tryd.results215 Tryd.ntmps215 (Nat.le_of_ble_eq_true rfl) (w_nanU64 a)
theorem w_cmpU64 (a b : Int) : vc Tryd.prog Γ 20 [0, 1, 4, 5, 6, 11, 12, 13, 16, 19] (Tryd.f169.body.getD .skip) (postK Γ [.tmp 4] (fun v => v = .i .i64 (cmpI a b))) ⟨argSlots 0 [.i .u64 a, .i .u64 b], []⟩ := by
  refine Or.inl (Exists.intro _ (And.intro (s_nanU64 a) ?_))
  refine Or.inl (Exists.intro _ (And.intro (s_nanU64 b) ?_))
  refine And.intro (fun h => Bool.noConfusion h) (fun _ => ?_)
  refine And.intro (fun h => Bool.noConfusion h) (fun _ => ?_)
  refine And.intro (fun h => ?_) (fun h => ?_)
  · have h : a < b := of_decide_eq_true h
    show AV.i .i64 (-1) = AV.i .i64 (cmpI a b)
    rw [cmpI, if_neg (by omega), if_pos h]
  · have h : ¬ a < b := of_decide_eq_false h
    refine And.intro (fun h2 => ?_) (fun h2 => ?_)
    · have h2 : b < a := of_decide_eq_true h2
      show AV.i .i64 1 = AV.i .i64 (cmpI a b)
      rw [cmpI, if_neg (by omega), if_neg h]
    · have h2 : ¬ b < a := of_decide_eq_false h2
      show AV.i .i64 0 = AV.i .i64 (cmpI a b)
      rw [cmpI, if_pos (by omega)]
theorem s_cmpU64 (a b : Int) : PSpec Tryd.prog 169 [.i .u64 a, .i .u64 b] (.i .i64 (cmpI a b)) :=
  pspec_of_vc Γ_good Tryd.func169 rfl Tryd.call169 Tryd.results169 Tryd.ntmps169 (Nat.le_of_ble_eq_true rfl) (w_cmpU64 a b)
theorem w_nanS (a : Str) : vc Tryd.prog Γ 6 [0, 2] (Tryd.f216.body.getD .skip) (postK Γ [.tmp 2] (fun v => v = .b false)) ⟨argSlots 0 [.s a], []⟩ := by
  show _ = _
  rw [beq_S]
  rfl
theorem s_nanS (a : Str) : PSpec Tryd.prog 216 [.s a] (.b false) :=
  pspec_of_vc Γ_good Tryd.func216 rfl Tryd.call216 Tryd.results216 Tryd.ntmps216 (Nat.le_of_ble_eq_true rfl) (w_nanS a)
theorem w_cmpStr (a b : Str) : vc Tryd.prog Γ 20 [0, 1, 4, 5, 6, 11, 12, 13, 16, 19] (Tryd.f171.body.getD .skip) (postK Γ [.tmp 4] (fun v => v = .i .i64 (cmpS a b))) ⟨argSlots 0 [.s a, .s b], []⟩ := by
  refine Or.inl (Exists.intro _ (And.intro (s_nanS a) ?_))
  refine Or.inl (Exists.intro _ (And.intro (s_nanS b) ?_))
  refine And.intro (fun h => Bool.noConfusion h) (fun _ => ?_)
  refine And.intro (fun h => Bool.noConfusion h) (fun _ => ?_)
  refine And.intro (fun h => ?_) (fun h => ?_)
  · have h : Op.bytesLess a b = true := h
    show AV.i .i64 (-1) = AV.i .i64 (cmpS a b)
    rw [cmpS, if_neg (less_ne h), if_pos h]
  · have h : Op.bytesLess a b = false := h
    refine And.intro (fun h2 => ?_) (fun h2 => ?_)
    · have h2 : (!(Op.bytesLess a b || a == b)) = true := h2
      rw [h, Bool.false_or] at h2
      have h3 : a ≠ b := by simpa using h2
      show AV.i .i64 1 = AV.i .i64 (cmpS a b)
      rw [cmpS, if_neg h3, if_neg (by rw [h]; decide)]
    · have h2 : (!(Op.bytesLess a b || a == b)) = false := h2
      rw [h, Bool.false_or] at h2
      have h3 : a = b := by simpa using h2
      show AV.i .i64 0 = AV.i .i64 (cmpS a b)
      rw [cmpS, if_pos h3]
theorem s_cmpStr (a b : Str) : PSpec Tryd.prog 171 [.s a, .s b] (.i .i64 (cmpS a b)) :=
  pspec_of_vc Γ_good Tryd.func171 rfl Tryd.call171 Tryd.results171 Tryd.ntmps171 (Nat.le_of_ble_eq_true rfl) (w_cmpStr a b)
theorem w_or (l : List Int) : vc Tryd.prog Γ 18 [0, 2, 3, 5, 6, 7, 8, 9, 14] (Tryd.f166.body.getD .skip) (postK Γ [.tmp 2] (fun v => v = .i .i64 (firstN l))) ⟨argSlots 0 [.rd .int l], []⟩ := by
  intro _
  refine Exists.intro [] (Exists.intro [] (Exists.intro [] (Exists.intro Nat (Exists.intro (fun k => k ≤ l.length ∧ firstN l = firstN (l.drop k)) (Exists.intro (fun k => ⟨[(3, .i .i64 0), (6, .rd .int l), (7, .i .i64 l.length), (8, .i .i64 k)], []⟩) (Exists.intro (fun k => l.length - k) (Exists.intro 0 (And.intro ⟨Nat.zero_le _, rfl⟩ (And.intro ?_ ?_)))))))))
  · (repeat' (first | exact trivial | exact Or.inl rfl | exact Or.inr (Or.inl ⟨rfl, _, rfl⟩) | exact Or.inr (Or.inr (Or.inr ⟨_, _, _, rfl, rfl⟩)) | refine And.intro ?_ ?_))
  · rintro k ⟨hk, he⟩
    refine And.intro (fun hc => ?_) (fun hc => ?_)
    · have hc : k < l.length := by have : (k : Int) < (l.length : Int) := of_decide_eq_true hc
                                   omega
      have hg : l.getD (Int.toNat (k : Int)) (dflt .int) = l[k] := by rw [Int.toNat_natCast, List.getD_eq_getElem?_getD, List.getElem?_eq_getElem hc]; rfl
      refine And.intro ⟨by omega, by omega⟩ ?_
      rw [firstN_drop hc] at he
      refine And.intro (fun hq => ?_) (fun hq => ?_)
      · have hq : l[k] ≠ 0 := by rw [hg] at hq; simpa using hq
        rw [orI_ne hq] at he
        show AV.i .i64 (l.getD (Int.toNat (k : Int)) (dflt .int)) = AV.i .i64 (firstN l)
        rw [hg, he]
      · have hq : l[k] = 0 := by rw [hg] at hq; simpa using hq
        rw [hq, orI_zero] at he
        refine And.intro (rng64 (by omega) (by have := len_le (by assumption : l.length ≤ maxLen); omega)) ?_
        refine Exists.intro [] (Exists.intro (k + 1) (And.intro ⟨hc, he⟩ (And.intro ?_ ?_)))
        · (repeat' (first | exact trivial | exact Or.inl rfl | exact Or.inr (Or.inl ⟨rfl, _, rfl⟩) | exact Or.inr (Or.inr (Or.inr ⟨_, _, _, rfl, rfl⟩)) | refine And.intro ?_ ?_))
        · show l.length - (k + 1) < l.length - k
          omega
    · have hc : k = l.length := by have : ¬ (k : Int) < (l.length : Int) := of_decide_eq_false hc
                                   omega
      subst hc
      rw [List.drop_length, firstN] at he
      exact congrArg (AV.i .i64) he.symm
theorem s_or (l : List Int) : PSpec Tryd.prog 166 [.rd .int l] (.i .i64 (firstN l)) :=
  pspec_of_vc Γ_good Tryd.func166 rfl Tryd.call166 Tryd.results166 Tryd.ntmps166 (Nat.le_of_ble_eq_true rfl) (w_or l)
theorem w_rk (f : Int) (h0 : 0 ≤ f) (h1 : f ≤ 18446744073709551615) : vc Tryd.prog Γ 10 [0, 2, 5] (Tryd.f170.body.getD .skip) (postK Γ [.tmp 2] (fun v => v = .i .u64 (rank f))) ⟨argSlots 0 [.i .u64 f], []⟩ := by
  refine And.intro (by decide) ?_
  refine And.intro (fun h => ?_) (fun h => ?_)
  · have h : ¬ f < 9223372036854775808 := of_decide_eq_true ((shr63 h0 h1).symm.trans h)
    refine congrArg (AV.i .u64) ?_
    rw [xor63 h0 h1, rank, if_neg h]
  · have h : f < 9223372036854775808 := by
      have := of_decide_eq_false ((shr63 h0 h1).symm.trans h)
      omega
    refine congrArg (AV.i .u64) ?_
    rw [or63 h0 h, rank, if_pos h]
theorem s_rk (f : Int) (h0 : 0 ≤ f) (h1 : f ≤ 18446744073709551615) : PSpec Tryd.prog 170 [.i .u64 f] (.i .u64 (rank f)) :=
  pspec_of_vc Γ_good Tryd.func170 rfl Tryd.call170 Tryd.results170 Tryd.ntmps170 (Nat.le_of_ble_eq_true rfl) (w_rk f h0 h1)
theorem rankB {f : Int} (h0 : 0 ≤ f) (h1 : f ≤ 18446744073709551615) : 0 ≤ rank f ∧ rank f ≤ 18446744073709551615 := by
  unfold rank
  split <;> omega
theorem w_cfV (l m : List Val) (hc : ∀ x ∈ l, ∀ y ∈ m, PSpec Tryd.prog 104 [.agg (encVal x), .agg (encVal y)] (.i .i64 (cmpV x y))) : vc Tryd.prog Γ 39 [0, 1, 2, 6, 7, 8, 9, 10, 11, 12, 13, 14, 21, 31, 38] (Tryd.f172.body.getD .skip) (postK Γ [.tmp 6] (fun v => v = .i .i64 (cmpL l m))) ⟨argSlots 0 [.rd .val l, .rd .val m, .fn 104 []], []⟩ := by
  intro hl
  refine Exists.intro [] (Exists.intro [] (Exists.intro [] (Exists.intro Nat (Exists.intro (fun k => k ≤ l.length ∧ k ≤ m.length ∧ cmpL l m = cmpL (l.drop k) (m.drop k)) (Exists.intro (fun k => ⟨[(0, .rd .val l), (1, .rd .val m), (2, .fn 104 []), (11, .rd .val l), (12, .i .i64 l.length), (13, .i .i64 k)], []⟩) (Exists.intro (fun k => l.length - k) (Exists.intro 0 (And.intro ⟨Nat.zero_le _, Nat.zero_le _, rfl⟩ (And.intro ?_ ?_)))))))))
  · (repeat' (first | exact trivial | exact Or.inl rfl | exact Or.inr (Or.inl ⟨rfl, _, rfl⟩) | exact Or.inr (Or.inr (Or.inr ⟨_, _, _, rfl, rfl⟩)) | refine And.intro ?_ ?_))
  · rintro k ⟨hk, hkm, he⟩
    refine And.intro (fun hd => ?_) (fun hd => ?_)
    · have hd : k < l.length := by have : (k : Int) < (l.length : Int) := of_decide_eq_true hd
                                   omega
      have hg : l.getD (Int.toNat (k : Int)) (dflt .val) = l[k] := by rw [Int.toNat_natCast, List.getD_eq_getElem?_getD, List.getElem?_eq_getElem hd]; rfl
      refine And.intro ⟨by omega, by omega⟩ ?_
      intro hm
      refine And.intro (fun hq => ?_) (fun hq => ?_)
      · have hq : m.length ≤ k := by have : (m.length : Int) ≤ (k : Int) := of_decide_eq_true hq
                                     omega
        rw [cmpL_short hd hq] at he
        exact congrArg (AV.i .i64) he.symm
      · have hq : k < m.length := by have : ¬ (m.length : Int) ≤ (k : Int) := of_decide_eq_false hq
                                     omega
        have hgm : m.getD (Int.toNat (k : Int)) (dflt .val) = m[k] := by rw [Int.toNat_natCast, List.getD_eq_getElem?_getD, List.getElem?_eq_getElem hq]; rfl
        refine And.intro ⟨by omega, by omega⟩ ?_
        have hs := hc l[k] (List.getElem_mem hd) m[k] (List.getElem_mem hq)
        rw [← hg, ← hgm] at hs
        refine Or.inl (Exists.intro _ (And.intro (hs) ?_))
        rw [hg, hgm]
        rw [cmpL_drop hd hq] at he
        refine And.intro (fun hz => ?_) (fun hz => ?_)
        · have hz : cmpV l[k] m[k] ≠ 0 := by simpa using hz
          rw [orI_ne hz] at he
          exact congrArg (AV.i .i64) he.symm
        · have hz : cmpV l[k] m[k] = 0 := by simpa using hz
          rw [hz, orI_zero] at he
          have := len_le hl
          (refine And.intro (rng64 (by omega) (by omega)) ?_)
          refine Exists.intro [] (Exists.intro (k + 1) (And.intro ⟨hd, hq, he⟩ (And.intro ?_ ?_)))
          · (repeat' (first | exact trivial | exact Or.inl rfl | exact Or.inr (Or.inl ⟨rfl, _, rfl⟩) | exact Or.inr (Or.inr (Or.inr ⟨_, _, _, rfl, rfl⟩)) | refine And.intro ?_ ?_))
          · show l.length - (k + 1) < l.length - k
            omega
    · have hd : k = l.length := by have : ¬ (k : Int) < (l.length : Int) := of_decide_eq_false hd
                                   omega
      subst hd
      intro _
      intro hm
      refine And.intro (fun hq => ?_) (fun hq => ?_)
      · have hq : l.length < m.length := by have : (l.length : Int) < (m.length : Int) := of_decide_eq_true hq
                                            omega
        rw [cmpL_long (Nat.le_refl _) hq] at he
        exact congrArg (AV.i .i64) he.symm
      · have hq : m.length ≤ l.length := by have : ¬ (l.length : Int) < (m.length : Int) := of_decide_eq_false hq
                                            omega
        rw [cmpL_end (Nat.le_refl _) hq] at he
        exact congrArg (AV.i .i64) he.symm
theorem s_cfV (l m : List Val) (hc : ∀ x ∈ l, ∀ y ∈ m, PSpec Tryd.prog 104 [.agg (encVal x), .agg (encVal y)] (.i .i64 (cmpV x y))) : PSpec Tryd.prog 172 [.rd .val l, .rd .val m, .fn 104 []] (.i .i64 (cmpL l m)) :=
  pspec_of_vc Γ_good Tryd.func172 rfl Tryd.call172 Tryd.results172 Tryd.ntmps172 (Nat.le_of_ble_eq_true rfl) (w_cfV l m hc)
theorem w_cfE (l m : List (Str × Val)) (hc : ∀ x ∈ l, ∀ y ∈ m, PSpec Tryd.prog 174 [.agg (enc .ent x), .agg (enc .ent y)] (.i .i64 (cmpP x y))) : vc Tryd.prog Γ 39 [0, 1, 2, 6, 7, 8, 9, 10, 11, 12, 13, 14, 21, 31, 38] (Tryd.f173.body.getD .skip) (postK Γ [.tmp 6] (fun v => v = .i .i64 (cmpE l m))) ⟨argSlots 0 [.rd .ent l, .rd .ent m, .fn 174 []], []⟩ := by
  intro hl
  refine Exists.intro [] (Exists.intro [] (Exists.intro [] (Exists.intro Nat (Exists.intro (fun k => k ≤ l.length ∧ k ≤ m.length ∧ cmpE l m = cmpE (l.drop k) (m.drop k)) (Exists.intro (fun k => ⟨[(0, .rd .ent l), (1, .rd .ent m), (2, .fn 174 []), (11, .rd .ent l), (12, .i .i64 l.length), (13, .i .i64 k)], []⟩) (Exists.intro (fun k => l.length - k) (Exists.intro 0 (And.intro ⟨Nat.zero_le _, Nat.zero_le _, rfl⟩ (And.intro ?_ ?_)))))))))
  · (repeat' (first | exact trivial | exact Or.inl rfl | exact Or.inr (Or.inl ⟨rfl, _, rfl⟩) | exact Or.inr (Or.inr (Or.inr ⟨_, _, _, rfl, rfl⟩)) | refine And.intro ?_ ?_))
  · rintro k ⟨hk, hkm, he⟩
    refine And.intro (fun hd => ?_) (fun hd => ?_)
    · have hd : k < l.length := by have : (k : Int) < (l.length : Int) := of_decide_eq_true hd
                                   omega
      have hg : l.getD (Int.toNat (k : Int)) (dflt .ent) = l[k] := by rw [Int.toNat_natCast, List.getD_eq_getElem?_getD, List.getElem?_eq_getElem hd]; rfl
      refine And.intro ⟨by omega, by omega⟩ ?_
      intro hm
      refine And.intro (fun hq => ?_) (fun hq => ?_)
      · have hq : m.length ≤ k := by have : (m.length : Int) ≤ (k : Int) := of_decide_eq_true hq
                                     omega
        rw [cmpE_short hd hq] at he
        exact congrArg (AV.i .i64) he.symm
      · have hq : k < m.length := by have : ¬ (m.length : Int) ≤ (k : Int) := of_decide_eq_false hq
                                     omega
        have hgm : m.getD (Int.toNat (k : Int)) (dflt .ent) = m[k] := by rw [Int.toNat_natCast, List.getD_eq_getElem?_getD, List.getElem?_eq_getElem hq]; rfl
        refine And.intro ⟨by omega, by omega⟩ ?_
        have hs := hc l[k] (List.getElem_mem hd) m[k] (List.getElem_mem hq)
        rw [← hg, ← hgm] at hs
        refine Or.inl (Exists.intro _ (And.intro (hs) ?_))
        rw [hg, hgm]
        rw [cmpE_drop hd hq] at he
        refine And.intro (fun hz => ?_) (fun hz => ?_)
        · have hz : cmpP l[k] m[k] ≠ 0 := by simpa using hz
          rw [orI_ne hz] at he
          exact congrArg (AV.i .i64) he.symm
        · have hz : cmpP l[k] m[k] = 0 := by simpa using hz
          rw [hz, orI_zero] at he
          have := len_le hl
          (refine And.intro (rng64 (by omega) (by omega)) ?_)
          refine Exists.intro [] (Exists.intro (k + 1) (And.intro ⟨hd, hq, he⟩ (And.intro ?_ ?_)))
          · (repeat' (first | exact trivial | exact Or.inl rfl | exact Or.inr (Or.inl ⟨rfl, _, rfl⟩) | exact Or.inr (Or.inr (Or.inr ⟨_, _, _, rfl, rfl⟩)) | refine And.intro ?_ ?_))
          · show l.length - (k + 1) < l.length - k
            omega
    · have hd : k = l.length := by have : ¬ (k : Int) < (l.length : Int) := of_decide_eq_false hd
                                   omega
      subst hd
      intro _
      intro hm
      refine And.intro (fun hq => ?_) (fun hq => ?_)
      · have hq : l.length < m.length := by have : (l.length : Int) < (m.length : Int) := of_decide_eq_true hq
                                            omega
        rw [cmpE_long (Nat.le_refl _) hq] at he
        exact congrArg (AV.i .i64) he.symm
      · have hq : m.length ≤ l.length := by have : ¬ (l.length : Int) < (m.length : Int) := of_decide_eq_false hq
                                            omega
        rw [cmpE_end (Nat.le_refl _) hq] at he
        exact congrArg (AV.i .i64) he.symm
theorem s_cfE (l m : List (Str × Val)) (hc : ∀ x ∈ l, ∀ y ∈ m, PSpec Tryd.prog 174 [.agg (enc .ent x), .agg (enc .ent y)] (.i .i64 (cmpP x y))) : PSpec Tryd.prog 173 [.rd .ent l, .rd .ent m, .fn 174 []] (.i .i64 (cmpE l m)) :=
  pspec_of_vc Γ_good Tryd.func173 rfl Tryd.call173 Tryd.results173 Tryd.ntmps173 (Nat.le_of_ble_eq_true rfl) (w_cfE l m hc)
theorem w_cmp1 (p q : Str × Val) (hc : PSpec Tryd.prog 104 [.agg (encVal p.2), .agg (encVal q.2)] (.i .i64 (cmpV p.2 q.2))) : vc Tryd.prog Γ 17 [2, 3, 4] (Tryd.f174.body.getD .skip) (postK Γ [.tmp 4] (fun v => v = .i .i64 (cmpP p q))) ⟨argSlots 0 [.agg (enc .ent p), .agg (enc .ent q)], []⟩ := by
  refine Exists.intro [.blk [0, 1, 2, 3, 4, 5, 6, 7, 8, 9, 10, 11, 12] [15]] (And.intro (by kernel_rfl) ?_)
  refine Exists.intro _ (And.intro (s_cmpStr p.1 q.1) ?_)
  refine Exists.intro _ (And.intro (hc) ?_)
  refine Exists.intro _ (And.intro (s_or [cmpS p.1 q.1, cmpV p.2 q.2]) ?_)
  refine congrArg (AV.i .i64) ?_
  rw [cmpP_eq]
  simp only [firstN, orI_right]
theorem s_cmp1 (p q : Str × Val) (hc : PSpec Tryd.prog 104 [.agg (encVal p.2), .agg (encVal q.2)] (.i .i64 (cmpV p.2 q.2))) : PSpec Tryd.prog 174 [.agg (enc .ent p), .agg (enc .ent q)] (.i .i64 (cmpP p q)) :=
  pspec_of_vc Γ_good Tryd.func174 rfl Tryd.call174 Tryd.results174 Tryd.ntmps174 (Nat.le_of_ble_eq_true rfl) (w_cmp1 p q hc)
theorem w_cmpr (a b : Val) (h0 : 0 ≤ a.f ∧ a.f ≤ 18446744073709551615) (h1 : 0 ≤ b.f ∧ b.f ≤ 18446744073709551615) (hc : ∀ x ∈ a.l, ∀ y ∈ b.l, PSpec Tryd.prog 104 [.agg (encVal x), .agg (encVal y)] (.i .i64 (cmpV x y))) (he : ∀ x ∈ a.e, ∀ y ∈ b.e, PSpec Tryd.prog 174 [.agg (enc .ent x), .agg (enc .ent y)] (.i .i64 (cmpP x y))) : vc Tryd.prog Γ 39 [2, 3, 4] (Tryd.f104.body.getD .skip) (postK Γ [.tmp 4] (fun v => v = .i .i64 (cmpV a b))) ⟨argSlots 0 [.agg (encVal a), .agg (encVal b)], []⟩ := by
  refine Exists.intro [.blk [0, 1, 2, 3, 4, 5, 6, 7, 8, 9, 10, 11, 12, 13, 14, 15, 16, 17, 18, 19, 20, 21, 22, 23, 24, 25, 26, 27, 28, 29, 30, 31, 32, 33, 34] [37]] (And.intro (by kernel_rfl) ?_)
  refine Exists.intro _ (And.intro (s_cmpI64 a.kind b.kind) ?_)
  refine Exists.intro _ (And.intro (s_cmpJ64 a.n b.n) ?_)
  refine Exists.intro _ (And.intro (s_rk a.f h0.1 h0.2) ?_)
  refine Exists.intro _ (And.intro (s_rk b.f h1.1 h1.2) ?_)
  refine Exists.intro _ (And.intro (s_cmpU64 (rank a.f) (rank b.f)) ?_)
  refine Exists.intro _ (And.intro (s_cmpStr a.s b.s) ?_)
  refine Exists.intro _ (And.intro (s_cfV a.l b.l hc) ?_)
  refine Exists.intro _ (And.intro (s_cfE a.e b.e he) ?_)
  refine Exists.intro _ (And.intro (s_or [cmpI a.kind b.kind, cmpI a.n b.n, cmpI (rank a.f) (rank b.f), cmpS a.s b.s, cmpL a.l b.l, cmpE a.e b.e]) ?_)
  refine congrArg (AV.i .i64) ?_
  rw [cmpV_eq]
  simp only [firstN, orI_right]
theorem s_cmpr (a b : Val) (h0 : 0 ≤ a.f ∧ a.f ≤ 18446744073709551615) (h1 : 0 ≤ b.f ∧ b.f ≤ 18446744073709551615) (hc : ∀ x ∈ a.l, ∀ y ∈ b.l, PSpec Tryd.prog 104 [.agg (encVal x), .agg (encVal y)] (.i .i64 (cmpV x y))) (he : ∀ x ∈ a.e, ∀ y ∈ b.e, PSpec Tryd.prog 174 [.agg (enc .ent x), .agg (enc .ent y)] (.i .i64 (cmpP x y))) : PSpec Tryd.prog 104 [.agg (encVal a), .agg (encVal b)] (.i .i64 (cmpV a b)) :=
  pspec_of_vc Γ_good Tryd.func104 rfl Tryd.call104 Tryd.results104 Tryd.ntmps104 (Nat.le_of_ble_eq_true rfl) (w_cmpr a b h0 h1 hc he)
theorem compare_spec : ∀ (n : Nat) (a b : Val), SizeOf.sizeOf a < n → VB a → VB b → PSpec Tryd.prog 104 [.agg (encVal a), .agg (encVal b)] (.i .i64 (cmpV a b)) := by
  intro n
  induction n with
  | zero => intro a b h; exact absurd h (Nat.not_lt_zero _)
  | succ n ih =>
    intro a b hs ha hb
    cases ha with
    | mk _ a1 a2 a3 a4 a5 =>
    cases hb with
    | mk _ b1 b2 b3 b4 b5 =>
      refine s_cmpr a b a3 b3 (fun x hx y hy => ih x y ?_ (a4 x hx) (b4 y hy)) (fun x hx y hy => s_cmp1 x y (ih x.2 y.2 ?_ (a5 x hx) (b5 y hy)))
      · have := val_sz_l hx; omega
      · have := val_sz_e hx; omega
theorem s_Compare (a b : Val) (ha : VB a) (hb : VB b) : PSpec Tryd.prog 104 [.agg (encVal a), .agg (encVal b)] (.i .i64 (cmpV a b)) :=
  compare_spec _ a b (Nat.lt_succ_self _) ha hb
end
end Go.Proofs.YtdcdmojbkmedpaaDoor
end
section
namespace Go.Proofs.YtdcdmojbkmedpaaDoor
set_option linter.unusedSectionVars false
set_option linter.unusedSimpArgs false
set_option linter.unusedVariables false
open Go Go.SX Go.Vl
set_option maxRecDepth 100000
set_option maxHeartbeats 0
def sg (t : Bool) : Int := if t = true then -1 else 1
theorem cmpI_ne {a b : Int} (h : a ≠ b) : cmpI a b = sg (decide (a < b)) := by
  unfold cmpI sg
  rw [if_neg h]
  simp
theorem cmpS_ne {a b : Str} (h : a ≠ b) : cmpS a b = sg (Op.bytesLess a b) := by
  unfold cmpS sg
  rw [if_neg h]
theorem bool_ne {a b : Bool} (h : (!(a == b)) = true) : a ≠ b := by simpa using h
theorem bool_eq {a b : Bool} (h : (!(a == b)) = false) : a = b := by simpa using h
theorem len_ne {m n : Nat} (h : (((m : Nat) : Int) != ((n : Nat) : Int)) = true) : m ≠ n := fun e => by subst e; simp at h
theorem len_eq {m n : Nat} (h : (((m : Nat) : Int) != ((n : Nat) : Int)) = false) : m = n := by
  have : (m : Int) = (n : Int) := by simpa using h
  omega
theorem sg_nz (t : Bool) : sg t ≠ 0 := by cases t <;> decide
theorem shr63z {f : Int} (h0 : 0 ≤ f) (h1 : f ≤ 18446744073709551615) : (f.fdiv (2 ^ min (Int.toNat 63) IntKind.u64.bits) == 0) = decide (f < 9223372036854775808) := by
  rw [show (2 : Int) ^ min (Int.toNat 63) IntKind.u64.bits = 9223372036854775808 from rfl, Int.fdiv_eq_ediv_of_nonneg _ (by decide)]
  rw [Bool.eq_iff_iff, beq_iff_eq, decide_eq_true_eq]
  omega
theorem rank_low {a b : Int} (ha : 0 ≤ a ∧ a ≤ 18446744073709551615) (hb : 0 ≤ b ∧ b ≤ 18446744073709551615) (h : decide (a < 9223372036854775808) ≠ decide (b < 9223372036854775808)) : cmpI (rank a) (rank b) = sg (decide (b < 9223372036854775808)) := by
  by_cases h1 : a < 9223372036854775808 <;> by_cases h2 : b < 9223372036854775808
  · simp [h1, h2] at h
  · rw [decide_eq_false h2, rank, rank, if_pos h1, if_neg h2, cmpI_ne (by omega), decide_eq_false (by omega)]
  · rw [decide_eq_true h2, rank, rank, if_neg h1, if_pos h2, cmpI_ne (by omega), decide_eq_true (by omega)]
  · simp [h1, h2] at h
theorem rank_high {a b : Int} (ha : 0 ≤ a ∧ a ≤ 18446744073709551615) (hb : 0 ≤ b ∧ b ≤ 18446744073709551615) (hne : a ≠ b) (h : decide (a < 9223372036854775808) = decide (b < 9223372036854775808)) : cmpI (rank a) (rank b) = sg (decide (a < b) == decide (a < 9223372036854775808)) := by
  by_cases h1 : a < 9223372036854775808 <;> by_cases h2 : b < 9223372036854775808
  · rw [rank, rank, if_pos h1, if_pos h2, cmpI_ne (by omega), decide_eq_true h1]
    congr 1
    by_cases h3 : a < b
    · rw [decide_eq_true h3, decide_eq_true (by omega)]; rfl
    · rw [decide_eq_false h3, decide_eq_false (by omega)]; rfl
  · simp [h1, h2] at h
  · simp [h1, h2] at h
  · rw [rank, rank, if_neg h1, if_neg h2, cmpI_ne (by omega), decide_eq_false h1]
    congr 1
    by_cases h3 : a < b
    · rw [decide_eq_true h3, decide_eq_false (by omega)]; rfl
    · rw [decide_eq_false h3, decide_eq_true (by omega)]; rfl
section
variable [G : Globs]
theorem w_sgn (t : Bool) : vc Tryd.prog Γ 4 [0, 2, 3] (Tryd.f127.body.getD .skip) (postK Γ [.tmp 2] (fun v => v = .i .i64 (sg t))) ⟨argSlots 0 [.b t], []⟩ := by
  refine And.intro (fun h => ?_) (fun h => ?_)
  · have h : t = true := h
    subst h
    rfl
  · have h : t = false := h
    subst h
    rfl
theorem s_sgn (t : Bool) : PSpec Tryd.prog 127 [.b t] (.i .i64 (sg t)) :=
  pspec_of_vc Γ_good Tryd.func127 rfl Tryd.call127 Tryd.results127 Tryd.ntmps127 (Nat.le_of_ble_eq_true rfl) (w_sgn t)
theorem w_besd (a b : Val) (h0 : 0 ≤ a.f ∧ a.f ≤ 18446744073709551615) (h1 : 0 ≤ b.f ∧ b.f ≤ 18446744073709551615) (hc : ∀ x ∈ a.l, ∀ y ∈ b.l, PSpec Tryd.prog 58 [.agg (encVal x), .agg (encVal y)] (.i .i64 (cmpV x y))) (hp : ∀ x ∈ a.e, ∀ y ∈ b.e, PSpec Tryd.prog 58 [.agg (encVal x.2), .agg (encVal y.2)] (.i .i64 (cmpV x.2 y.2))) : VCs Tryd.prog Γ 185 [2, 3, 4, 5, 6, 7, 8, 9, 10, 15, 26, 37, 48, 63, 81, 96, 104, 124, 139, 168, 176] (Tryd.f58.body.getD .skip) (postK Γ [.tmp 4] (fun v => v = .i .i64 (cmpV a b))) ⟨argSlots 0 [.agg (encVal a), .agg (encVal b)], []⟩ := by
  refine VCs.seq (by first | exact Γ_good | exact Ctx.good_kp Γ_good _) ?_
  refine VCs.seq (by first | exact Γ_good | exact Ctx.good_kp Γ_good _) ?_
  refine And.intro (fun hk => ?_) (fun hk => ?_)
  · have hk : a.kind ≠ b.kind := by simpa using hk
    refine Or.inl (Exists.intro _ (And.intro (s_sgn (decide (a.kind < b.kind))) ?_))
    refine congrArg (AV.i .i64) ?_
    rw [cmpV_eq, cmpI_ne hk, orI_ne (sg_nz _)]
  have hk : a.kind = b.kind := by simpa using hk
  refine VCs.seq (by first | exact Γ_good | exact Ctx.good_kp Γ_good _) ?_
  refine And.intro (fun hn => ?_) (fun hn => ?_)
  · have hn : a.n ≠ b.n := by simpa using hn
    refine Or.inl (Exists.intro _ (And.intro (s_sgn (decide (a.n < b.n))) ?_))
    refine congrArg (AV.i .i64) ?_
    rw [cmpV_eq, hk, cmpI_self, orI_zero, cmpI_ne hn, orI_ne (sg_nz _)]
  have hn : a.n = b.n := by simpa using hn
  refine VCs.seq (by first | exact Γ_good | exact Ctx.good_kp Γ_good _) ?_
  refine And.intro (fun hf => ?_) (fun hf => ?_)
  · have hf : a.f ≠ b.f := by simpa using hf
    refine Exists.intro [.blk [0, 1, 2, 3, 4, 5, 6, 7, 8, 9]] (And.intro (by kernel_rfl) ?_)
    refine And.intro (by decide) ?_
    refine And.intro (by decide) ?_
    refine And.intro (fun hd => ?_) (fun hd => ?_)
    · have hd := bool_ne hd
      rw [shr63z h0.1 h0.2, shr63z h1.1 h1.2] at hd
      refine Or.inl (Exists.intro _ (And.intro (s_sgn (b.f.fdiv (2 ^ min (Int.toNat 63) IntKind.u64.bits) == 0)) ?_))
      refine congrArg (AV.i .i64) ?_
      rw [shr63z h1.1 h1.2, cmpV_eq, hk, cmpI_self, orI_zero, hn, cmpI_self, orI_zero, rank_low h0 h1 hd, orI_ne (sg_nz _)]
    · have hd := bool_eq hd
      rw [shr63z h0.1 h0.2, shr63z h1.1 h1.2] at hd
      refine Or.inl (Exists.intro _ (And.intro (s_sgn (decide (a.f < b.f) == (a.f.fdiv (2 ^ min (Int.toNat 63) IntKind.u64.bits) == 0))) ?_))
      refine congrArg (AV.i .i64) ?_
      rw [shr63z h0.1 h0.2, cmpV_eq, hk, cmpI_self, orI_zero, hn, cmpI_self, orI_zero, rank_high h0 h1 hf hd, orI_ne (sg_nz _)]
  have hf : a.f = b.f := by simpa using hf
  refine VCs.seq (by first | exact Γ_good | exact Ctx.good_kp Γ_good _) ?_
  refine And.intro (fun hs => ?_) (fun hs => ?_)
  · have hs : a.s ≠ b.s := by simpa using hs
    refine Or.inl (Exists.intro _ (And.intro (s_sgn (Op.bytesLess a.s b.s)) ?_))
    refine congrArg (AV.i .i64) ?_
    rw [cmpV_eq, hk, cmpI_self, orI_zero, hn, cmpI_self, orI_zero, hf, cmpI_self, orI_zero, cmpS_ne hs, orI_ne (sg_nz _)]
  have hs : a.s = b.s := by simpa using hs
  have hr : cmpV a b = orI (cmpL a.l b.l) (cmpE a.e b.e) := by rw [cmpV_eq, hk, cmpI_self, orI_zero, hn, cmpI_self, orI_zero, hf, cmpI_self, orI_zero, hs, cmpS_self, orI_zero]
  refine VCs.cut (by first | exact Γ_good | exact Ctx.good_kp Γ_good _) Unit (fun _ => ∃ k, cmpL a.l b.l = cmpL (a.l.drop k) (b.l.drop k) ∧ ((k = a.l.length ∧ k ≤ b.l.length) ∨ (k = b.l.length ∧ k ≤ a.l.length))) (fun _ => ⟨[(2, .pt 2 0), (3, .pt 3 0)], [(2, encVal a), (3, encVal b)]⟩) ?_ ?_
  · refine Exists.intro [] (Exists.intro [] (Exists.intro [] (Exists.intro Nat (Exists.intro (fun k => k ≤ a.l.length ∧ k ≤ b.l.length ∧ cmpL a.l b.l = cmpL (a.l.drop k) (b.l.drop k)) (Exists.intro (fun k => ⟨[(2, .pt 2 0), (3, .pt 3 0), (7, .i .i64 k)], [(2, encVal a), (3, encVal b)]⟩) (Exists.intro (fun k => a.l.length - k) (Exists.intro 0 (And.intro ⟨Nat.zero_le _, Nat.zero_le _, rfl⟩ (And.intro ?_ ?_)))))))))
    · (repeat' (first | exact trivial | exact Or.inl rfl | exact Or.inr (Or.inl ⟨rfl, _, rfl⟩) | exact Or.inr (Or.inr (Or.inr ⟨_, _, _, rfl, rfl⟩)) | refine And.intro ?_ ?_))
    · rintro k ⟨hka, hkb, he⟩
      intro hla
      refine And.intro (fun hc1 => ?_) (fun hc1 => ?_)
      · have hc1 : k < a.l.length := by have : (k : Int) < (a.l.length : Int) := of_decide_eq_true hc1
                                        omega
        intro _
        refine And.intro (fun hc2 => ?_) (fun hc2 => ?_)
        · have hc2 : k < b.l.length := by have : (k : Int) < (b.l.length : Int) := of_decide_eq_true hc2
                                          omega
          have hg : a.l.getD (Int.toNat (k : Int)) (dflt .val) = a.l[k] := by rw [Int.toNat_natCast, List.getD_eq_getElem?_getD, List.getElem?_eq_getElem hc1]; rfl
          have hgb : b.l.getD (Int.toNat (k : Int)) (dflt .val) = b.l[k] := by rw [Int.toNat_natCast, List.getD_eq_getElem?_getD, List.getElem?_eq_getElem hc2]; rfl
          have hcall := hc a.l[k] (List.getElem_mem hc1) b.l[k] (List.getElem_mem hc2)
          rw [← hg, ← hgb] at hcall
          refine Exists.intro [.blk [0, 1, 2, 3, 4, 5, 6, 7, 8, 9, 10, 11]] (And.intro (by kernel_rfl) ?_)
          refine And.intro ⟨by omega, by omega⟩ ?_
          refine And.intro ⟨by omega, by omega⟩ ?_
          refine Exists.intro _ (And.intro (hcall) ?_)
          rw [hg, hgb]
          rw [cmpL_drop hc1 hc2] at he
          refine And.intro (fun hz => ?_) (fun hz => ?_)
          · have hz : cmpV a.l[k] b.l[k] ≠ 0 := by simpa using hz
            rw [orI_ne hz] at he
            refine congrArg (AV.i .i64) ?_
            rw [hr, he, orI_ne hz]
          · have hz : cmpV a.l[k] b.l[k] = 0 := by simpa using hz
            rw [hz, orI_zero] at he
            have := len_le hla
            (refine And.intro (rng64 (by omega) (by omega)) ?_)
            refine Exists.intro [] (Exists.intro (k + 1) (And.intro ⟨hc1, hc2, he⟩ (And.intro ?_ ?_)))
            · (repeat' (first | exact trivial | exact Or.inl rfl | exact Or.inr (Or.inl ⟨rfl, _, rfl⟩) | exact Or.inr (Or.inr (Or.inr ⟨_, _, _, rfl, rfl⟩)) | refine And.intro ?_ ?_))
            · show a.l.length - (k + 1) < a.l.length - k
              omega
        · have hc2 : k = b.l.length := by have : ¬ (k : Int) < (b.l.length : Int) := of_decide_eq_false hc2
                                          omega
          refine Exists.intro () (And.intro ⟨k, he, .inr ⟨hc2, hka⟩⟩ ?_)
          (repeat' (first | exact trivial | exact Or.inl rfl | exact Or.inr (Or.inl ⟨rfl, _, rfl⟩) | exact Or.inr (Or.inr (Or.inr ⟨_, _, _, rfl, rfl⟩)) | refine And.intro ?_ ?_))
      · have hc1 : k = a.l.length := by have : ¬ (k : Int) < (a.l.length : Int) := of_decide_eq_false hc1
                                        omega
        refine And.intro (fun h9 => Bool.noConfusion h9) (fun _ => ?_)
        refine Exists.intro () (And.intro ⟨k, he, .inl ⟨hc1, hkb⟩⟩ ?_)
        (repeat' (first | exact trivial | exact Or.inl rfl | exact Or.inr (Or.inl ⟨rfl, _, rfl⟩) | exact Or.inr (Or.inr (Or.inr ⟨_, _, _, rfl, rfl⟩)) | refine And.intro ?_ ?_))
  rintro _ ⟨k, he, hk2⟩
  refine VCs.seq (by first | exact Γ_good | exact Ctx.good_kp Γ_good _) ?_
  intro hla
  intro hlb
  refine And.intro (fun hz => ?_) (fun hz => ?_)
  · have hz : a.l.length ≠ b.l.length := len_ne hz
    intro _
    intro _
    refine Or.inl (Exists.intro _ (And.intro (s_sgn (decide ((a.l.length : Int) < (b.l.length : Int)))) ?_))
    refine congrArg (AV.i .i64) ?_
    rcases hk2 with ⟨h2, h3⟩ | ⟨h2, h3⟩
    · rw [cmpL_long (by omega) (by omega)] at he
      rw [hr, he, decide_eq_true (by omega)]
      rfl
    · rw [cmpL_short (by omega) (by omega)] at he
      rw [hr, he, decide_eq_false (by omega)]
      rfl
  have hz : a.l.length = b.l.length := len_eq hz
  have hr : cmpV a b = cmpE a.e b.e := by rw [hr, he, cmpL_end (by omega) (by omega), orI_zero]
  clear he hk2 k
  refine VCs.cut (by first | exact Γ_good | exact Ctx.good_kp Γ_good _) Unit (fun _ => ∃ k, cmpE a.e b.e = cmpE (a.e.drop k) (b.e.drop k) ∧ ((k = a.e.length ∧ k ≤ b.e.length) ∨ (k = b.e.length ∧ k ≤ a.e.length))) (fun _ => ⟨[(2, .pt 2 0), (3, .pt 3 0)], [(2, encVal a), (3, encVal b)]⟩) ?_ ?_
  · refine Exists.intro [] (Exists.intro [] (Exists.intro [] (Exists.intro Nat (Exists.intro (fun k => k ≤ a.e.length ∧ k ≤ b.e.length ∧ cmpE a.e b.e = cmpE (a.e.drop k) (b.e.drop k)) (Exists.intro (fun k => ⟨[(2, .pt 2 0), (3, .pt 3 0), (9, .i .i64 k)], [(2, encVal a), (3, encVal b)]⟩) (Exists.intro (fun k => a.e.length - k) (Exists.intro 0 (And.intro ⟨Nat.zero_le _, Nat.zero_le _, rfl⟩ (And.intro ?_ ?_)))))))))
    · (repeat' (first | exact trivial | exact Or.inl rfl | exact Or.inr (Or.inl ⟨rfl, _, rfl⟩) | exact Or.inr (Or.inr (Or.inr ⟨_, _, _, rfl, rfl⟩)) | refine And.intro ?_ ?_))
    · rintro k ⟨hka, hkb, he⟩
      intro hla
      refine And.intro (fun hc1 => ?_) (fun hc1 => ?_)
      · have hc1 : k < a.e.length := by have : (k : Int) < (a.e.length : Int) := of_decide_eq_true hc1
                                        omega
        intro _
        refine And.intro (fun hc2 => ?_) (fun hc2 => ?_)
        · have hc2 : k < b.e.length := by have : (k : Int) < (b.e.length : Int) := of_decide_eq_true hc2
                                          omega
          have hg : a.e.getD (Int.toNat (k : Int)) (dflt .ent) = a.e[k] := by rw [Int.toNat_natCast, List.getD_eq_getElem?_getD, List.getElem?_eq_getElem hc1]; rfl
          have hgb : b.e.getD (Int.toNat (k : Int)) (dflt .ent) = b.e[k] := by rw [Int.toNat_natCast, List.getD_eq_getElem?_getD, List.getElem?_eq_getElem hc2]; rfl
          have hcall := hp a.e[k] (List.getElem_mem hc1) b.e[k] (List.getElem_mem hc2)
          rw [← hg, ← hgb] at hcall
          refine Exists.intro [.blk [0, 1, 2, 3, 4, 5, 6, 7, 8, 9, 10, 11, 12]] (And.intro (by kernel_rfl) ?_)
          refine And.intro ⟨by omega, by omega⟩ ?_
          refine And.intro ⟨by omega, by omega⟩ ?_
          rw [cmpE_drop hc1 hc2, cmpP_eq] at he
          refine And.intro (fun hq => ?_) (fun hq => ?_)
          · have hq : a.e[k].1 ≠ b.e[k].1 := by rw [hg, hgb] at hq; simpa using hq
            refine Exists.intro [.blk [0, 1, 2, 3, 4, 5, 6, 7, 8, 9, 10, 11, 12, 13, 14]] (And.intro (by kernel_rfl) ?_)
            refine And.intro ⟨by omega, by omega⟩ ?_
            refine And.intro ⟨by omega, by omega⟩ ?_
            refine Exists.intro _ (And.intro (s_sgn (Op.bytesLess (a.e.getD (Int.toNat (k : Int)) (dflt .ent)).1 (b.e.getD (Int.toNat (k : Int)) (dflt .ent)).1)) ?_)
            refine congrArg (AV.i .i64) ?_
            rw [hg, hgb, hr, he, cmpS_ne hq, orI_ne (sg_nz _), orI_ne (sg_nz _)]
          · have hq : a.e[k].1 = b.e[k].1 := by rw [hg, hgb] at hq; simpa using hq
            rw [hq, cmpS_self, orI_zero] at he
            refine Exists.intro [.blk [0, 1, 2, 3, 4, 5, 6, 7, 8, 9, 10, 11, 12, 13]] (And.intro (by kernel_rfl) ?_)
            refine And.intro ⟨by omega, by omega⟩ ?_
            refine And.intro ⟨by omega, by omega⟩ ?_
            refine Exists.intro _ (And.intro (hcall) ?_)
            rw [hg, hgb]
            refine And.intro (fun hz => ?_) (fun hz => ?_)
            · have hz : cmpV a.e[k].2 b.e[k].2 ≠ 0 := by simpa using hz
              rw [orI_ne hz] at he
              refine congrArg (AV.i .i64) ?_
              rw [hr, he]
            · have hz : cmpV a.e[k].2 b.e[k].2 = 0 := by simpa using hz
              rw [hz, orI_zero] at he
              have := len_le hla
              (refine And.intro (rng64 (by omega) (by omega)) ?_)
              refine Exists.intro [] (Exists.intro (k + 1) (And.intro ⟨hc1, hc2, he⟩ (And.intro ?_ ?_)))
              · (repeat' (first | exact trivial | exact Or.inl rfl | exact Or.inr (Or.inl ⟨rfl, _, rfl⟩) | exact Or.inr (Or.inr (Or.inr ⟨_, _, _, rfl, rfl⟩)) | refine And.intro ?_ ?_))
              · show a.e.length - (k + 1) < a.e.length - k
                omega
        · have hc2 : k = b.e.length := by have : ¬ (k : Int) < (b.e.length : Int) := of_decide_eq_false hc2
                                          omega
          refine Exists.intro () (And.intro ⟨k, he, .inr ⟨hc2, hka⟩⟩ ?_)
          (repeat' (first | exact trivial | exact Or.inl rfl | exact Or.inr (Or.inl ⟨rfl, _, rfl⟩) | exact Or.inr (Or.inr (Or.inr ⟨_, _, _, rfl, rfl⟩)) | refine And.intro ?_ ?_))
      · have hc1 : k = a.e.length := by have : ¬ (k : Int) < (a.e.length : Int) := of_decide_eq_false hc1
                                        omega
        refine And.intro (fun h9 => Bool.noConfusion h9) (fun _ => ?_)
        refine Exists.intro () (And.intro ⟨k, he, .inl ⟨hc1, hkb⟩⟩ ?_)
        (repeat' (first | exact trivial | exact Or.inl rfl | exact Or.inr (Or.inl ⟨rfl, _, rfl⟩) | exact Or.inr (Or.inr (Or.inr ⟨_, _, _, rfl, rfl⟩)) | refine And.intro ?_ ?_))
  rintro _ ⟨k, he, hk2⟩
  refine VCs.of_vc (by first | exact Γ_good | exact Ctx.good_kp Γ_good _) ?_
  intro hla
  intro hlb
  refine And.intro (fun hz => ?_) (fun hz => ?_)
  · have hz : a.e.length ≠ b.e.length := len_ne hz
    intro _
    intro _
    refine Or.inl (Exists.intro _ (And.intro (s_sgn (decide ((a.e.length : Int) < (b.e.length : Int)))) ?_))
    refine congrArg (AV.i .i64) ?_
    rcases hk2 with ⟨h2, h3⟩ | ⟨h2, h3⟩
    · rw [cmpE_long (by omega) (by omega)] at he
      rw [hr, he, decide_eq_true (by omega)]
      rfl
    · rw [cmpE_short (by omega) (by omega)] at he
      rw [hr, he, decide_eq_false (by omega)]
      rfl
  · have hz : a.e.length = b.e.length := len_eq hz
    refine congrArg (AV.i .i64) ?_
    rw [hr, he, cmpE_end (by omega) (by omega)]
theorem s_besd (a b : Val) (h0 : 0 ≤ a.f ∧ a.f ≤ 18446744073709551615) (h1 : 0 ≤ b.f ∧ b.f ≤ 18446744073709551615) (hc : ∀ x ∈ a.l, ∀ y ∈ b.l, PSpec Tryd.prog 58 [.agg (encVal x), .agg (encVal y)] (.i .i64 (cmpV x y))) (hp : ∀ x ∈ a.e, ∀ y ∈ b.e, PSpec Tryd.prog 58 [.agg (encVal x.2), .agg (encVal y.2)] (.i .i64 (cmpV x.2 y.2))) : PSpec Tryd.prog 58 [.agg (encVal a), .agg (encVal b)] (.i .i64 (cmpV a b)) :=
  pspec_of_VCs Γ_good Tryd.func58 rfl Tryd.call58 Tryd.results58 Tryd.ntmps58 (Nat.le_of_ble_eq_true rfl) (w_besd a b h0 h1 hc hp) Γ_good
theorem beside_spec : ∀ (n : Nat) (a b : Val), SizeOf.sizeOf a < n → VB a → VB b → PSpec Tryd.prog 58 [.agg (encVal a), .agg (encVal b)] (.i .i64 (cmpV a b)) := by
  intro n
  induction n with
  | zero => intro a b h; exact absurd h (Nat.not_lt_zero _)
  | succ n ih =>
    intro a b hs ha hb
    cases ha with
    | mk _ a1 a2 a3 a4 a5 =>
    cases hb with
    | mk _ b1 b2 b3 b4 b5 =>
      refine s_besd a b a3 b3 (fun x hx y hy => ih x y ?_ (a4 x hx) (b4 y hy)) (fun x hx y hy => ih x.2 y.2 ?_ (a5 x hx) (b5 y hy))
      · have := val_sz_l hx; omega
      · have := val_sz_e hx; omega
theorem s_Beside (a b : Val) (ha : VB a) (hb : VB b) : PSpec Tryd.prog 58 [.agg (encVal a), .agg (encVal b)] (.i .i64 (cmpV a b)) :=
  beside_spec _ a b (Nat.lt_succ_self _) ha hb
end
end Go.Proofs.YtdcdmojbkmedpaaDoor
end
section
namespace Go.Proofs.YtdcdmojbkmedpaaDoor
set_option linter.unusedSectionVars false
set_option linter.unusedSimpArgs false
set_option linter.unusedVariables false
open Go Go.SX Go.Vl
set_option maxRecDepth 100000
set_option maxHeartbeats 0
section
variable [G : Globs]
theorem w_same (a b : Val) (ha : VB a) (hb : VB b) : vc Tryd.prog Γ 9 [2, 3, 4] (Tryd.f14.body.getD .skip) (postK Γ [.tmp 4] (fun v => v = .b (decide (cmpV a b = 0)))) ⟨argSlots 0 [.agg (encVal a), .agg (encVal b)], []⟩ := by
  refine Or.inl (Exists.intro _ (And.intro (s_Beside a b ha hb) ?_))
  rfl
theorem s_same (a b : Val) (ha : VB a) (hb : VB b) : PSpec Tryd.prog 14 [.agg (encVal a), .agg (encVal b)] (.b (decide (cmpV a b = 0))) :=
  pspec_of_vc Γ_good Tryd.func14 rfl Tryd.call14 Tryd.results14 Tryd.ntmps14 (Nat.le_of_ble_eq_true rfl) (w_same a b ha hb)
theorem w_fnd1 (p : Ent) (k : Str) : vc Tryd.prog Γ 8 [1, 2, 3] (Tryd.f203.body.getD .skip) (postK Γ [.tmp 3] (fun v => v = .b (keyIs k p))) ⟨argSlots 0 [.agg (enc .ent p), .rp [.s k]], []⟩ := by
  rfl
theorem s_fnd1 (p : Ent) (k : Str) : PSpec Tryd.prog 203 [.agg (enc .ent p), .rp [.s k]] (.b (keyIs k p)) :=
  pspec_of_vc Γ_good Tryd.func203 rfl Tryd.call203 Tryd.results203 Tryd.ntmps203 (Nat.le_of_ble_eq_true rfl) (w_fnd1 p k)
theorem w_put1 (p : Ent) (k : Str) : vc Tryd.prog Γ 8 [1, 2, 3] (Tryd.f204.body.getD .skip) (postK Γ [.tmp 3] (fun v => v = .b (keyGt k p))) ⟨argSlots 0 [.agg (enc .ent p), .rp [.s k]], []⟩ := by
  rfl
theorem s_put1 (p : Ent) (k : Str) : PSpec Tryd.prog 204 [.agg (enc .ent p), .rp [.s k]] (.b (keyGt k p)) :=
  pspec_of_vc Γ_good Tryd.func204 rfl Tryd.call204 Tryd.results204 Tryd.ntmps204 (Nat.le_of_ble_eq_true rfl) (w_put1 p k)
theorem w_ixE (l : List Ent) (k : Str) (q : Ent → Bool) (f : Nat) (hq : ∀ x ∈ l, PSpec Tryd.prog f [.agg (enc .ent x), .rp [.s k]] (.b (q x))) : vc Tryd.prog Γ 19 [0, 1, 4, 5, 7, 8, 9, 16] (Tryd.f202.body.getD .skip) (postK Γ [.tmp 4] (fun v => v = .i .i64 (ixI l q))) ⟨argSlots 0 [.rd .ent l, .fn f [.rp [.s k]]], []⟩ := by
  intro hl
  refine Exists.intro [] (Exists.intro [] (Exists.intro [] (Exists.intro Nat (Exists.intro (fun i => i ≤ l.length ∧ i ≤ l.findIdx q) (Exists.intro (fun i => ⟨[(0, .rd .ent l), (1, .fn f [.rp [.s k]]), (7, .i .i64 l.length), (8, .i .i64 i)], []⟩) (Exists.intro (fun i => l.length - i) (Exists.intro 0 (And.intro ⟨Nat.zero_le _, Nat.zero_le _⟩ (And.intro ?_ ?_)))))))))
  · (repeat' (first | exact trivial | exact Or.inl rfl | exact Or.inr (Or.inl ⟨rfl, _, rfl⟩) | exact Or.inr (Or.inr (Or.inr ⟨_, _, _, rfl, rfl⟩)) | refine And.intro ?_ ?_))
  · rintro i ⟨hi, hf⟩
    refine And.intro (fun he => ?_) (fun he => ?_)
    · have hi : i < l.length := by have : (i : Int) < (l.length : Int) := of_decide_eq_true he
                                   omega
      have hg : l.getD (Int.toNat (i : Int)) (dflt .ent) = l[i] := by rw [Int.toNat_natCast, List.getD_eq_getElem?_getD, List.getElem?_eq_getElem hi]; rfl
      refine And.intro ⟨by omega, by omega⟩ ?_
      have hs := hq l[i] (List.getElem_mem hi)
      rw [← hg] at hs
      refine Or.inl (Exists.intro _ (And.intro (hs) ?_))
      rw [hg]
      refine And.intro (fun hz => ?_) (fun hz => ?_)
      · have hz : q l[i] = true := hz
        rw [ix_hit hi hf hz]
        rfl
      · have hz : q l[i] = false := hz
        have := len_le hl
        (refine And.intro (rng64 (by omega) (by omega)) ?_)
        refine Exists.intro [] (Exists.intro (i + 1) (And.intro ⟨hi, ix_miss hi hf hz⟩ (And.intro ?_ ?_)))
        · (repeat' (first | exact trivial | exact Or.inl rfl | exact Or.inr (Or.inl ⟨rfl, _, rfl⟩) | exact Or.inr (Or.inr (Or.inr ⟨_, _, _, rfl, rfl⟩)) | refine And.intro ?_ ?_))
        · show l.length - (i + 1) < l.length - i
          omega
    · have hi : i = l.length := by have : ¬ (i : Int) < (l.length : Int) := of_decide_eq_false he
                                   omega
      rw [ix_none (by omega)]
      rfl
theorem s_ixE (l : List Ent) (k : Str) (q : Ent → Bool) (f : Nat) (hq : ∀ x ∈ l, PSpec Tryd.prog f [.agg (enc .ent x), .rp [.s k]] (.b (q x))) : PSpec Tryd.prog 202 [.rd .ent l, .fn f [.rp [.s k]]] (.i .i64 (ixI l q)) :=
  pspec_of_vc Γ_good Tryd.func202 rfl Tryd.call202 Tryd.results202 Tryd.ntmps202 (Nat.le_of_ble_eq_true rfl) (w_ixE l k q f hq)
theorem w_find (l : List Ent) (k : Str) : vc Tryd.prog Γ 8 [0, 3, 4] (Tryd.f145.body.getD .skip) (postK Γ [.tmp 4] (fun v => v = .i .i64 (ixI l (keyIs k)))) ⟨argSlots 0 [.rd .ent l, .s k], []⟩ := by
  refine Or.inr (Or.inr (Or.inl (Exists.intro _ (And.intro (s_ixE l k (keyIs k) 203 (fun x _ => s_fnd1 x k)) ?_))))
  rfl
theorem s_find (l : List Ent) (k : Str) : PSpec Tryd.prog 145 [.rd .ent l, .s k] (.i .i64 (ixI l (keyIs k))) :=
  pspec_of_vc Γ_good Tryd.func145 rfl Tryd.call145 Tryd.results145 Tryd.ntmps145 (Nat.le_of_ble_eq_true rfl) (w_find l k)
theorem w_entAt (l : List Ent) (k : Str) : vc Tryd.prog Γ 20 [0, 1, 4, 5, 6, 7, 8, 9, 10, 17] (Tryd.f75.body.getD .skip) (postK Γ [.tmp 4] (fun v => v = .i .i64 (ixI l (keyIs k)))) ⟨argSlots 0 [.rd .ent l, .s k], []⟩ := by
  intro hl
  refine Exists.intro [] (Exists.intro [] (Exists.intro [] (Exists.intro Nat (Exists.intro (fun i => i ≤ l.length ∧ i ≤ l.findIdx (keyIs k)) (Exists.intro (fun i => ⟨[(1, .s k), (7, .rd .ent l), (8, .i .i64 l.length), (9, .i .i64 i)], []⟩) (Exists.intro (fun i => l.length - i) (Exists.intro 0 (And.intro ⟨Nat.zero_le _, Nat.zero_le _⟩ (And.intro ?_ ?_)))))))))
  · (repeat' (first | exact trivial | exact Or.inl rfl | exact Or.inr (Or.inl ⟨rfl, _, rfl⟩) | exact Or.inr (Or.inr (Or.inr ⟨_, _, _, rfl, rfl⟩)) | refine And.intro ?_ ?_))
  · rintro i ⟨hi, hf⟩
    refine And.intro (fun he => ?_) (fun he => ?_)
    · have hi : i < l.length := by have : (i : Int) < (l.length : Int) := of_decide_eq_true he
                                   omega
      have hg : l.getD (Int.toNat (i : Int)) (dflt .ent) = l[i] := by rw [Int.toNat_natCast, List.getD_eq_getElem?_getD, List.getElem?_eq_getElem hi]; rfl
      refine And.intro ⟨by omega, by omega⟩ ?_
      refine And.intro (fun hz => ?_) (fun hz => ?_)
      · have hz : keyIs k l[i] = true := by rw [← hg]; exact hz
        rw [ix_hit hi hf hz]
        rfl
      · have hz : keyIs k l[i] = false := by rw [← hg]; exact hz
        have := len_le hl
        (refine And.intro (rng64 (by omega) (by omega)) ?_)
        refine Exists.intro [] (Exists.intro (i + 1) (And.intro ⟨hi, ix_miss hi hf hz⟩ (And.intro ?_ ?_)))
        · (repeat' (first | exact trivial | exact Or.inl rfl | exact Or.inr (Or.inl ⟨rfl, _, rfl⟩) | exact Or.inr (Or.inr (Or.inr ⟨_, _, _, rfl, rfl⟩)) | refine And.intro ?_ ?_))
        · show l.length - (i + 1) < l.length - i
          omega
    · have hi : i = l.length := by have : ¬ (i : Int) < (l.length : Int) := of_decide_eq_false he
                                   omega
      rw [ix_none (by omega)]
      rfl
theorem s_entAt (l : List Ent) (k : Str) : PSpec Tryd.prog 75 [.rd .ent l, .s k] (.i .i64 (ixI l (keyIs k))) :=
  pspec_of_vc Γ_good Tryd.func75 rfl Tryd.call75 Tryd.results75 Tryd.ntmps75 (Nat.le_of_ble_eq_true rfl) (w_entAt l k)
theorem w_wout (l : List Ent) (k : Str) (hl1 : l.length ≤ 100000000) : vc Tryd.prog Γ 24 [0, 1, 4, 5, 7, 8, 9, 10, 11, 17] (Tryd.f152.body.getD .skip) (postK Γ [.tmp 4] (fun v => v = .rd .ent (withoutE l k))) ⟨argSlots 0 [.rd .ent l, .s k], []⟩ := by
  intro hl
  refine Exists.intro [(5, 5, .ent)] (Exists.intro [] (Exists.intro [] (Exists.intro Nat (Exists.intro (fun i => i ≤ l.length) (Exists.intro (fun i => ⟨[(1, .s k), (5, .vec 5 .ent (withoutE (l.take i) k)), (8, .rd .ent l), (9, .i .i64 l.length), (10, .i .i64 i)], []⟩) (Exists.intro (fun i => l.length - i) (Exists.intro 0 (And.intro (Nat.zero_le _) (And.intro ?_ ?_)))))))))
  · (repeat' (first | exact trivial | exact Or.inl rfl | exact Or.inr (Or.inl ⟨rfl, _, rfl⟩) | exact Or.inr (Or.inr (Or.inr ⟨_, _, _, rfl, rfl⟩)) | refine And.intro ?_ ?_))
  · rintro i hi
    refine And.intro (fun he => ?_) (fun he => ?_)
    · have hi : i < l.length := by have : (i : Int) < (l.length : Int) := of_decide_eq_true he
                                   omega
      have hg : l.getD (Int.toNat (i : Int)) (dflt .ent) = l[i] := by rw [Int.toNat_natCast, List.getD_eq_getElem?_getD, List.getElem?_eq_getElem hi]; rfl
      refine And.intro ⟨by omega, by omega⟩ ?_
      refine And.intro (fun hz => ?_) (fun hz => ?_)
      · have hz : keyIs k l[i] = false := by rw [← hg]; simpa [keyIs] using hz
        rw [hg]
        have hfl := filter_len (l := l) (k := k) (i := i)
        refine And.intro (show ((withoutE (l.take i) k).length + 1) * 104 ≤ 140737488355328 by omega) ?_
        (refine And.intro (rng64 (by omega) (by omega)) ?_)
        refine Exists.intro [(21, 5)] (Exists.intro (i + 1) (And.intro hi (And.intro ?_ ?_)))
        · have e : withoutE (l.take i) k ++ [(l[i].1, (⟨l[i].2.kind, l[i].2.n, l[i].2.f, l[i].2.s, l[i].2.l, l[i].2.e⟩ : Val))] = withoutE (l.take (i + 1)) k := by rw [val_eta]; exact (filter_next hi hz).symm
          (repeat' (first | exact trivial | exact Or.inl rfl | exact Or.inl ((congrArg (AV.vec 5 .ent) e)) | refine And.intro ?_ ?_))
        · show l.length - (i + 1) < l.length - i
          omega
      · have hz : keyIs k l[i] = true := by rw [← hg]; simpa [keyIs] using hz
        (refine And.intro (rng64 (by omega) (by omega)) ?_)
        refine Exists.intro [] (Exists.intro (i + 1) (And.intro hi (And.intro ?_ ?_)))
        · (repeat' (first | exact trivial | exact Or.inl rfl | exact Or.inl ((congrArg (AV.vec 5 .ent) (filter_skip hi hz).symm)) | refine And.intro ?_ ?_))
        · show l.length - (i + 1) < l.length - i
          omega
    · have hi : i = l.length := by have : ¬ (i : Int) < (l.length : Int) := of_decide_eq_false he
                                   omega
      subst hi
      rw [List.take_length]
      rfl
theorem s_wout (l : List Ent) (k : Str) (hl1 : l.length ≤ 100000000) : PSpec Tryd.prog 152 [.rd .ent l, .s k] (.rd .ent (withoutE l k)) :=
  pspec_of_vc Γ_good Tryd.func152 rfl Tryd.call152 Tryd.results152 Tryd.ntmps152 (Nat.le_of_ble_eq_true rfl) (w_wout l k hl1)
end
end Go.Proofs.YtdcdmojbkmedpaaDoor
end
section
namespace Go.SX
set_option linter.unusedSectionVars false
set_option linter.unusedVariables false
set_option linter.unusedSimpArgs false
variable [Globs]
open Go.RowKit Go.WideShapes Go.ChangeShapes Go.Deep
/-- no list of it, at whatever depth, is longer than n -/
inductive VN (n : Nat) : Val → Prop
  | mk (a : Val) : a.l.length ≤ n → a.e.length ≤ n → (∀ x ∈ a.l, VN n x) → (∀ p ∈ a.e, VN n p.2) → VN n a
theorem VN.mono {n m : Nat} (h : n ≤ m) {a : Val} (ha : VN n a) : VN m a := by
  induction ha with
  | mk a h1 h2 _ _ i1 i2 => exact .mk a (Nat.le_trans h1 h) (Nat.le_trans h2 h) i1 i2
/-- a measure of data by which a whole is no less than its parts -/
structure Bulk {H : Type} (bk : DataW H → Nat) : Prop where
  len : ∀ els rest, els.length ≤ bk (.slice els rest)
  el : ∀ els rest, ∀ d ∈ els, bk d ≤ bk (.slice els rest)
  part : ∀ ds, ∀ d ∈ ds, bk d ≤ bk (.agg ds)
section
variable {H : Type} {encH : TypeId × Value → H} {P : Program} {W : World} {sp : Nat → Bool} {hd : Bool} {O : Nat → Prop} {bk : DataW H → Nat}
/-- a slice, by its elements, which are read with less fuel -/
theorem arg_sliceB {t e : TypeId} {τ : Ty} {R : Nat → den τ → Prop} (hbk : Bulk bk) (hR : ∀ n m y, n ≤ m → R n y → R m y) (hO : ∀ k, ¬ O k) (ht : P.underlying t = some (.slice e)) (hc : P.cellsOf e = esz τ) {fuel : Nat}
    (hel : ∀ n, n < fuel → ∀ (cs : List Value) (x : DataW H × List MemPlace), DataW.trod encH P W 0 sp hd n e cs = some x → ∃ y : den τ, All2 (Im O W) (enc τ y) cs ∧ R (bk x.1) y)
    {cs : List Value} {x : DataW H × List MemPlace} (h : DataW.trod encH P W 0 sp hd fuel t cs = some x) : ∃ (l : List (den τ)) (v : Value), cs = [v] ∧ Im O W (.rd τ l) v ∧ l.length ≤ bk x.1 ∧ ∀ y ∈ l, R (bk x.1) y := by
  rcases DataW.trod_slice ht h with ⟨rfl, _⟩ | ⟨a, len, cap, elems, rest, n, rfl, rfl, rfl, hb, hlc, hcm, hlen, hall, _, _⟩
  · exact ⟨[], _, rfl, .rd0 τ none 0 (Nat.zero_le _), Nat.zero_le _, fun y hy => nomatch hy⟩
  by_cases h0 : len = 0
  · subst h0; exact ⟨[], _, rfl, .rd0 τ _ _ hcm, Nat.zero_le _, fun y hy => nomatch hy⟩
  have hall : ∀ i, i < len → ∃ (us : List Value) (y : DataW H × List MemPlace), W.cells? 0 (a.add (i * P.cellsOf e)) (P.cellsOf e) = some us ∧ DataW.trod encH P W 0 sp hd n e us = some y ∧ y ∈ elems := fun i hi => by
    have := hall i hi
    rw [List.getElem?_eq_getElem (by omega)] at this
    obtain ⟨us, h1, h2⟩ := Option.bind_eq_some_iff.1 this
    exact ⟨us, _, h1, h2, List.getElem_mem _⟩
  have hch : ∀ i, i < len → ∃ (y : den τ) (us : List Value), (All2 (Im O W) (enc τ y) us ∧ R (bk (DataW.slice (elems.map (·.1)) (rest.map (·.1)))) y) ∧ us.length = esz τ ∧ ∀ (j : Nat) v, us[j]? = some v → W.cell? ⟨a.block, a.off + (i * esz τ + j), none⟩ = some v := by
    intro i hi
    obtain ⟨us, yy, h1, h2, hm⟩ := hall i hi
    obtain ⟨y, hy⟩ := hel n (Nat.lt_succ_self n) _ _ h2
    replace hy := And.intro hy.1 (hR _ _ _ (hbk.el _ (rest.map (·.1)) yy.1 (List.mem_map.2 ⟨yy, hm, rfl⟩)) hy.2)
    rw [hc] at h1
    obtain ⟨h3, h4⟩ := cells_get h1
    refine ⟨y, us, hy, h3, fun j v hv => ?_⟩
    have h5 := h4 j v hv
    have hs : ∀ j v, us[j]? = some v → ((a.add (i * esz τ)).add j).spot = none := fun j v hv => World.cell?_spot (h4 j v hv)
    have hpos := esz_pos τ
    have h00 : (a.add (i * esz τ)).spot = none := by
      have := hs 0 (us[0]'(by omega)) (List.getElem?_eq_getElem _)
      simpa [Addr.add] using this
    have e1 := add_of h00
    rw [e1] at h5
    rw [add_none] at h5
    rw [← h5, Nat.add_assoc]
  have ys : ∃ l : List (den τ), l.length = len ∧ ∀ (i : Nat) y, l[i]? = some y → ∃ us : List Value, (All2 (Im O W) (enc τ y) us ∧ R (bk (DataW.slice (elems.map (·.1)) (rest.map (·.1)))) y) ∧ ∀ (j : Nat) v, us[j]? = some v → W.cell? ⟨a.block, a.off + (i * esz τ + j), none⟩ = some v := by
    have hch' := fun (i : Fin len) => hch i.1 i.2
    refine ⟨List.ofFn fun i : Fin len => Classical.choose (hch' i), by simp, fun i y hy => ?_⟩
    have hi : i < len := by have := (List.getElem?_eq_some_iff.1 hy).1; simpa using this
    rw [List.getElem?_ofFn, dif_pos hi] at hy
    injection hy with hy
    subst hy
    obtain ⟨us, h1, _, h2⟩ := Classical.choose_spec (hch' ⟨i, hi⟩)
    exact ⟨us, h1, h2⟩
  obtain ⟨l, hll, hl⟩ := ys
  refine ⟨l, _, rfl, ?_, by rw [hll, ← hlen]; exact Nat.le_trans (Nat.le_of_eq (List.length_map ..).symm) (hbk.len _ _), fun y hy => ?_⟩
  rotate_left
  · obtain ⟨i, hi, rfl⟩ := List.getElem_of_mem hy
    obtain ⟨us, h1, _⟩ := hl i _ (List.getElem?_eq_getElem hi)
    exact h1.2
  have hane : a = ⟨a.block, a.off, none⟩ := by
    obtain ⟨us', yy, h1, h2, _⟩ := hall 0 (by omega)
    have hpos := esz_pos τ
    rw [hc] at h1
    obtain ⟨h5, h6⟩ := cells_get h1
    have := World.cell?_spot (h6 0 (us'[0]'(by omega)) (List.getElem?_eq_getElem _))
    simp [Addr.add] at this
    obtain ⟨b, o, s⟩ := a
    simp only at this
    subst this
    rfl
  rw [hane, ← hll]
  refine .rd τ l a.block a.off cap (fun i j => (W.cell? ⟨a.block, a.off + (i * esz τ + j), none⟩).getD undef) (hO _) (by omega) hcm (fun e => h0 (by rw [← hll, e]; rfl)) (fun i y j av hy hav => ?_) (fun i y j av hy hav => ?_)
  · obtain ⟨us, h1, h2⟩ := hl i y hy
    have hj : j < us.length := by rw [← h1.1.1]; exact (List.getElem?_eq_some_iff.1 hav).1
    rw [h2 j _ (List.getElem?_eq_getElem hj)]; rfl
  · obtain ⟨us, h1, h2⟩ := hl i y hy
    have hj : j < us.length := by rw [← h1.1.1]; exact (List.getElem?_eq_some_iff.1 hav).1
    rw [h2 j _ (List.getElem?_eq_getElem hj)]
    exact h1.1.2 j av _ hav (List.getElem?_eq_getElem hj)
theorem one_fieldB {t : TypeId} {fs : Array Field} {fuel : Nat} {cs : List Value} {x : DataW H × List MemPlace} (hbk : Bulk bk) (ht : P.underlying t = some (.struct fs)) (h : DataW.trod encH P W 0 sp hd fuel t cs = some x) :
    ∃ n, fuel = n + 1 ∧ cs.length = P.cellsOf t ∧ ∀ (i off : Nat) (t' : TypeId), HasF fs i off t' → ∃ y, DataW.trod encH P W 0 sp hd n t' ((cs.drop off).take (P.cellsOf t')) = some y ∧ bk y.1 ≤ bk x.1 := by
  obtain ⟨xs, n, hn, rfl, h1, h2, h3⟩ := DataW.trod_struct ht h
  refine ⟨n, hn, h1, fun i off t' hf => ?_⟩
  obtain ⟨f, hf, rfl, rfl⟩ := hf
  have hi : i < xs.length := by rw [h2]; exact (Array.getElem?_eq_some_iff.1 hf).1
  rw [h3 i f hf, List.getElem?_eq_getElem hi]
  exact ⟨_, rfl, hbk.part _ _ (List.mem_map.2 ⟨xs[i], List.getElem_mem hi, rfl⟩)⟩
theorem arg_valB {V : TypeId} (hbk : Bulk bk) (T : VTy P V) (hO : ∀ k, ¬ O k) : ∀ (fuel : Nat) (cs : List Value) (x : DataW H × List MemPlace), DataW.trod encH P W 0 sp hd fuel V cs = some x → ∃ y : Val, All2 (Im O W) (encVal y) cs ∧ VB y ∧ VN (bk x.1) y := by
  intro fuel
  induction fuel using Nat.strongRecOn with
  | _ fuel ih =>
  intro cs x h
  obtain ⟨n, rfl, hl, hf⟩ := one_fieldB hbk T.hV h
  rw [T.cV] at hl
  obtain ⟨c0, c1, c2, c3, c4, c5⟩ := T.c
  match cs, hl with
  | [u0, u1, u2, u3, u4, u5], _ =>
    obtain ⟨_, q0, k0⟩ := hf 0 0 _ T.h0
    obtain ⟨_, q1, k1⟩ := hf 1 1 _ T.h1
    obtain ⟨_, q2, k2⟩ := hf 2 2 _ T.h2
    obtain ⟨_, q3, k3⟩ := hf 3 3 _ T.h3
    obtain ⟨_, q4, k4⟩ := hf 4 4 _ T.h4
    obtain ⟨_, q5, k5⟩ := hf 5 5 _ T.h5
    rw [c0] at q0
    rw [c1] at q1
    rw [c2] at q2
    rw [c3] at q3
    rw [c4] at q4
    rw [c5] at q5
    obtain ⟨k, e0, i0, w0⟩ := arg_int (O := O) T.uK q0
    obtain ⟨m, e1, i1, w1⟩ := arg_int (O := O) T.uN q1
    obtain ⟨f, e2, i2, w2⟩ := arg_int (O := O) T.uU q2
    obtain ⟨s, vs, e3, i3⟩ := arg_str (O := O) T.uS q3
    obtain ⟨l, vl, e4, i4, z4, r4⟩ := arg_sliceB (O := O) (τ := .val) (R := fun n y => VB y ∧ VN n y) hbk (fun _ _ _ hle hy => ⟨hy.1, hy.2.mono hle⟩) hO T.uL T.cV (fun n' hn cs' x' hx => ih n' (by omega) cs' x' hx) q4
    obtain ⟨es, ve, e5, i5, z5, r5⟩ := arg_sliceB (O := O) (τ := .ent) (R := fun n p => VB p.2 ∧ VN n p.2) hbk (fun _ _ _ hle hy => ⟨hy.1, hy.2.mono hle⟩) hO T.uE T.cE (fun n' hn cs' x' hx => by
      obtain ⟨n2, rfl, hl2, hf2⟩ := one_fieldB hbk T.hE hx
      rw [T.cE] at hl2
      match cs', hl2 with
      | [z0, z1, z2, z3, z4, z5, z6], _ =>
        obtain ⟨_, p0, m0⟩ := hf2 0 0 _ T.g0
        obtain ⟨_, p1, m1⟩ := hf2 1 1 _ T.g1
        rw [c3] at p0
        rw [T.cV] at p1
        obtain ⟨ks, kv, d0, j0⟩ := arg_str (O := O) T.uS p0
        obtain ⟨y, j1, hy⟩ := ih n2 (by omega) _ _ p1
        simp at d0
        subst d0
        exact ⟨(ks, y), All2.cons j0 (by simpa using j1), hy.1, hy.2.mono m1⟩) q5
    simp at e0 e1 e2 e3 e4 e5
    subst e0 e1 e2 e3 e4 e5
    exact ⟨⟨k, m, f, s, l, es⟩, All2.cons i0 (All2.cons i1 (All2.cons i2 (All2.cons i3 (All2.cons i4 (All2.cons i5 (All2.nil _)))))), .mk _ (wf_i64 w0) (wf_i64 w1) (wf_u64 w2) (fun x hx => (r4 x hx).1) (fun p hp => (r5 p hp).1), .mk _ (Nat.le_trans z4 k4) (Nat.le_trans z5 k5) (fun x hx => (r4 x hx).2.mono k4) (fun p hp => (r5 p hp).2.mono k5)⟩
theorem arg_entB {V : TypeId} (hbk : Bulk bk) (T : VTy P V) (hO : ∀ k, ¬ O k) {fuel : Nat} {cs : List Value} {x : DataW H × List MemPlace} (hx : DataW.trod encH P W 0 sp hd fuel T.En cs = some x) : ∃ p : Str × Val, All2 (Im O W) (enc .ent p) cs ∧ VB p.2 ∧ VN (bk x.1) p.2 := by
  obtain ⟨n2, rfl, hl2, hf2⟩ := one_fieldB hbk T.hE hx
  rw [T.cE] at hl2
  match cs, hl2 with
  | [z0, z1, z2, z3, z4, z5, z6], _ =>
    obtain ⟨_, p0, m0⟩ := hf2 0 0 _ T.g0
    obtain ⟨_, p1, m1⟩ := hf2 1 1 _ T.g1
    obtain ⟨c0, c1, c2, c3, c4, c5⟩ := T.c
    rw [c3] at p0
    rw [T.cV] at p1
    obtain ⟨ks, kv, d0, j0⟩ := arg_str (O := O) T.uS p0
    obtain ⟨y, j1, hy⟩ := arg_valB hbk T hO n2 _ _ p1
    simp at d0
    subst d0
    exact ⟨(ks, y), All2.cons j0 (by simpa using j1), hy.1, hy.2.mono m1⟩
end
end Go.SX
end
section
namespace Go.Proofs.YtdcdmojbkmedpaaDoor
set_option linter.unusedSectionVars false
set_option linter.unusedSimpArgs false
set_option linter.unusedVariables false
open Go Go.SX Go.Vl
set_option maxRecDepth 100000
set_option maxHeartbeats 0
section
variable [G : Globs]
theorem w_own (a : Val) (hl : a.l.length ≤ 100000000) (he : a.e.length ≤ 100000000) (hc : ∀ x ∈ a.l, PSpec Tryd.prog 76 [.agg (encVal x)] (.agg (encVal x))) (hp : ∀ x ∈ a.e, PSpec Tryd.prog 76 [.agg (encVal x.2)] (.agg (encVal x.2))) : vc Tryd.prog Γ 48 [1, 2, 3, 4, 6, 8, 15, 16, 17, 18, 29, 30, 31, 32] (Tryd.f76.body.getD .skip) (postK Γ [.cell 2 26] (fun v => v = .agg (encVal a))) ⟨argSlots 0 [.agg (encVal a)], []⟩ := by
  refine Exists.intro [.blk [0, 1, 2, 3, 4, 5]] (And.intro (by kernel_rfl) ?_)
  intro hml
  refine Exists.intro [] (Exists.intro [(1, 4, 47, .val)] (Exists.intro [] (Exists.intro Nat (Exists.intro (fun i => i ≤ a.l.length) (Exists.intro (fun i => ⟨[(1, .pt 1 0), (2, .pt 2 0), (4, .rd .ent a.e), (15, .rd .val a.l), (16, .i .i64 a.l.length), (17, .i .i64 i)], [(1, [.i .i64 a.kind, .i .i64 a.n, .i .u64 a.f, .s a.s, .vec 47 .val (a.l.take i), .nl]), (2, [.i .i64 0, .i .i64 0, .i .u64 0, .s [], .nl, .nl])]⟩) (Exists.intro (fun i => a.l.length - i) (Exists.intro 0 (And.intro (Nat.zero_le _) (And.intro ?_ ?_)))))))))
  · (repeat' (first | exact trivial | exact Or.inl rfl | exact Or.inr (Or.inl ⟨rfl, _, rfl⟩) | exact Or.inr (Or.inr (Or.inr ⟨_, _, _, rfl, rfl⟩)) | refine And.intro ?_ ?_))
  · rintro i hi
    refine And.intro (fun hz => ?_) (fun hz => ?_)
    · have hi : i < a.l.length := by have : (i : Int) < (a.l.length : Int) := of_decide_eq_true hz
                                     omega
      have hg : a.l.getD (Int.toNat (i : Int)) (dflt .val) = a.l[i] := by rw [Int.toNat_natCast, List.getD_eq_getElem?_getD, List.getElem?_eq_getElem hi]; rfl
      refine And.intro ⟨by omega, by omega⟩ ?_
      have hs := hc a.l[i] (List.getElem_mem hi)
      rw [← hg] at hs
      refine Exists.intro [.blk [0, 1, 2, 3, 4] [25], .one 5, .take 6, .one 7] (And.intro (by kernel_rfl) ?_)
      refine Exists.intro _ (And.intro (hs) ?_)
      rw [hg]
      refine And.intro (show ((a.l.take i).length + 1) * 88 ≤ 140737488355328 by rw [List.length_take]; omega) ?_
      (refine And.intro (rng64 (by omega) (by omega)) ?_)
      have e : a.l.take i ++ [(⟨a.l[i].kind, a.l[i].n, a.l[i].f, a.l[i].s, a.l[i].l, a.l[i].e⟩ : Val)] = a.l.take (i + 1) := by rw [val_eta, List.take_add_one, List.getElem?_eq_getElem hi]; rfl
      refine Exists.intro [(26, 47)] (Exists.intro (i + 1) (And.intro hi (And.intro ?_ ?_)))
      · (repeat' (first | exact trivial | exact Or.inl rfl | exact Or.inl ((congrArg (AV.vec 47 .val) e)) | refine And.intro ?_ ?_))
      · show a.l.length - (i + 1) < a.l.length - i
        omega
    · have hi : i = a.l.length := by have : ¬ (i : Int) < (a.l.length : Int) := of_decide_eq_false hz
                                     omega
      subst hi
      rw [List.take_length]
      intro hme
      refine Exists.intro [] (Exists.intro [(1, 5, 46, .ent)] (Exists.intro [] (Exists.intro Nat (Exists.intro (fun i => i ≤ a.e.length) (Exists.intro (fun i => ⟨[(1, .pt 1 0), (2, .pt 2 0), (29, .rd .ent a.e), (30, .i .i64 a.e.length), (31, .i .i64 i)], [(1, [.i .i64 a.kind, .i .i64 a.n, .i .u64 a.f, .s a.s, .vec 47 .val a.l, .vec 46 .ent (a.e.take i)]), (2, [.i .i64 0, .i .i64 0, .i .u64 0, .s [], .nl, .nl])]⟩) (Exists.intro (fun i => a.e.length - i) (Exists.intro 0 (And.intro (Nat.zero_le _) (And.intro ?_ ?_)))))))))
      · (repeat' (first | exact trivial | exact Or.inl rfl | exact Or.inr (Or.inl ⟨rfl, _, rfl⟩) | exact Or.inr (Or.inr (Or.inr ⟨_, _, _, rfl, rfl⟩)) | refine And.intro ?_ ?_))
      · rintro i hi
        refine And.intro (fun hz => ?_) (fun hz => ?_)
        · have hi : i < a.e.length := by have : (i : Int) < (a.e.length : Int) := of_decide_eq_true hz
                                         omega
          have hg : a.e.getD (Int.toNat (i : Int)) (dflt .ent) = a.e[i] := by rw [Int.toNat_natCast, List.getD_eq_getElem?_getD, List.getElem?_eq_getElem hi]; rfl
          refine And.intro ⟨by omega, by omega⟩ ?_
          have hs := hp a.e[i] (List.getElem_mem hi)
          rw [← hg] at hs
          refine Exists.intro [.blk [0, 1, 2, 3, 4, 5, 6, 7, 8] [43], .one 9, .take 10, .one 11] (And.intro (by kernel_rfl) ?_)
          refine Exists.intro _ (And.intro (hs) ?_)
          rw [hg]
          refine And.intro (show ((a.e.take i).length + 1) * 104 ≤ 140737488355328 by rw [List.length_take]; omega) ?_
          (refine And.intro (rng64 (by omega) (by omega)) ?_)
          have e : a.e.take i ++ [(a.e[i].1, (⟨a.e[i].2.kind, a.e[i].2.n, a.e[i].2.f, a.e[i].2.s, a.e[i].2.l, a.e[i].2.e⟩ : Val))] = a.e.take (i + 1) := by rw [val_eta, List.take_add_one, List.getElem?_eq_getElem hi]; rfl
          refine Exists.intro [(44, 46)] (Exists.intro (i + 1) (And.intro hi (And.intro ?_ ?_)))
          · (repeat' (first | exact trivial | exact Or.inl rfl | exact Or.inl ((congrArg (AV.vec 46 .ent) e)) | refine And.intro ?_ ?_))
          · show a.e.length - (i + 1) < a.e.length - i
            omega
        · have hi : i = a.e.length := by have : ¬ (i : Int) < (a.e.length : Int) := of_decide_eq_false hz
                                         omega
          subst hi
          rw [List.take_length]
          rfl
theorem s_own (a : Val) (hl : a.l.length ≤ 100000000) (he : a.e.length ≤ 100000000) (hc : ∀ x ∈ a.l, PSpec Tryd.prog 76 [.agg (encVal x)] (.agg (encVal x))) (hp : ∀ x ∈ a.e, PSpec Tryd.prog 76 [.agg (encVal x.2)] (.agg (encVal x.2))) : PSpec Tryd.prog 76 [.agg (encVal a)] (.agg (encVal a)) :=
  pspec_of_vc Γ_good Tryd.func76 rfl Tryd.call76 Tryd.results76 Tryd.ntmps76 (Nat.le_of_ble_eq_true rfl) (w_own a hl he hc hp)
theorem own_spec : ∀ (m : Nat) (a : Val), SizeOf.sizeOf a < m → VN 100000000 a → PSpec Tryd.prog 76 [.agg (encVal a)] (.agg (encVal a)) := by
  intro m
  induction m with
  | zero => intro a h; exact absurd h (Nat.not_lt_zero _)
  | succ m ih =>
    intro a hs ha
    cases ha with
    | mk _ a1 a2 a3 a4 =>
      refine s_own a a1 a2 (fun x hx => ih x ?_ (a3 x hx)) (fun x hx => ih x.2 ?_ (a4 x hx))
      · have := val_sz_l hx; omega
      · have := val_sz_e hx; omega
theorem s_Own (a : Val) (ha : VN 100000000 a) : PSpec Tryd.prog 76 [.agg (encVal a)] (.agg (encVal a)) := own_spec _ a (Nat.lt_succ_self _) ha
theorem w_drop (l : List Ent) (k : Str) (hl1 : l.length ≤ 100000000) (hn : ∀ p ∈ l, VN 100000000 p.2) : vc Tryd.prog Γ 29 [0, 1, 4, 5, 7, 8, 9, 10, 11, 17] (Tryd.f148.body.getD .skip) (postK Γ [.tmp 4] (fun v => v = .rd .ent (withoutE l k))) ⟨argSlots 0 [.rd .ent l, .s k], []⟩ := by
  intro hl
  refine Exists.intro [(5, 5, .ent)] (Exists.intro [] (Exists.intro [] (Exists.intro Nat (Exists.intro (fun i => i ≤ l.length) (Exists.intro (fun i => ⟨[(1, .s k), (5, .vec 5 .ent (withoutE (l.take i) k)), (8, .rd .ent l), (9, .i .i64 l.length), (10, .i .i64 i)], []⟩) (Exists.intro (fun i => l.length - i) (Exists.intro 0 (And.intro (Nat.zero_le _) (And.intro ?_ ?_)))))))))
  · (repeat' (first | exact trivial | exact Or.inl rfl | exact Or.inr (Or.inl ⟨rfl, _, rfl⟩) | exact Or.inr (Or.inr (Or.inr ⟨_, _, _, rfl, rfl⟩)) | refine And.intro ?_ ?_))
  · rintro i hi
    refine And.intro (fun he => ?_) (fun he => ?_)
    · have hi : i < l.length := by have : (i : Int) < (l.length : Int) := of_decide_eq_true he
                                   omega
      have hg : l.getD (Int.toNat (i : Int)) (dflt .ent) = l[i] := by rw [Int.toNat_natCast, List.getD_eq_getElem?_getD, List.getElem?_eq_getElem hi]; rfl
      refine And.intro ⟨by omega, by omega⟩ ?_
      refine And.intro (fun hz => ?_) (fun hz => ?_)
      · have hz : keyIs k l[i] = false := by rw [← hg]; simpa [keyIs] using hz
        have hs := s_Own l[i].2 (hn _ (List.getElem_mem hi))
        rw [← hg] at hs
        refine Exists.intro [.blk [0, 1, 2, 3, 4, 5, 6, 7] [25], .one 8, .take 9] (And.intro (by kernel_rfl) ?_)
        refine Exists.intro _ (And.intro (hs) ?_)
        rw [hg]
        have hfl := filter_len (l := l) (k := k) (i := i)
        refine And.intro (show ((withoutE (l.take i) k).length + 1) * 104 ≤ 140737488355328 by omega) ?_
        (refine And.intro (rng64 (by omega) (by omega)) ?_)
        refine Exists.intro [(26, 5)] (Exists.intro (i + 1) (And.intro hi (And.intro ?_ ?_)))
        · have e : withoutE (l.take i) k ++ [(l[i].1, (⟨l[i].2.kind, l[i].2.n, l[i].2.f, l[i].2.s, l[i].2.l, l[i].2.e⟩ : Val))] = withoutE (l.take (i + 1)) k := by rw [val_eta]; exact (filter_next hi hz).symm
          (repeat' (first | exact trivial | exact Or.inl rfl | exact Or.inl ((congrArg (AV.vec 5 .ent) e)) | refine And.intro ?_ ?_))
        · show l.length - (i + 1) < l.length - i
          omega
      · have hz : keyIs k l[i] = true := by rw [← hg]; simpa [keyIs] using hz
        (refine And.intro (rng64 (by omega) (by omega)) ?_)
        refine Exists.intro [] (Exists.intro (i + 1) (And.intro hi (And.intro ?_ ?_)))
        · (repeat' (first | exact trivial | exact Or.inl rfl | exact Or.inl ((congrArg (AV.vec 5 .ent) (filter_skip hi hz).symm)) | refine And.intro ?_ ?_))
        · show l.length - (i + 1) < l.length - i
          omega
    · have hi : i = l.length := by have : ¬ (i : Int) < (l.length : Int) := of_decide_eq_false he
                                   omega
      subst hi
      rw [List.take_length]
      rfl
theorem s_drop (l : List Ent) (k : Str) (hl1 : l.length ≤ 100000000) (hn : ∀ p ∈ l, VN 100000000 p.2) : PSpec Tryd.prog 148 [.rd .ent l, .s k] (.rd .ent (withoutE l k)) :=
  pspec_of_vc Γ_good Tryd.func148 rfl Tryd.call148 Tryd.results148 Tryd.ntmps148 (Nat.le_of_ble_eq_true rfl) (w_drop l k hl1 hn)
end
end Go.Proofs.YtdcdmojbkmedpaaDoor
end
section
namespace Go.Proofs.YtdcdmojbkmedpaaDoor
set_option linter.unusedSectionVars false
set_option linter.unusedSimpArgs false
set_option linter.unusedVariables false
open Go Go.SX Go.Ck Go.Vl Go.Ut Go.Up
set_option maxRecDepth 100000
set_option maxHeartbeats 1000000
theorem stepF1 {p : PStep} (h : p.i < -1 ∨ (0 ≤ p.i ∧ p.key ≠ [])) : stepF p = 1 := if_pos h
theorem stepF2 {p : PStep} (h : ¬ (p.i < -1 ∨ (0 ≤ p.i ∧ p.key ≠ []))) (h2 : 100 < p.key.length) : stepF p = 2 := by unfold stepF; rw [if_neg h, if_pos h2]
theorem stepF3 {p : PStep} (h : ¬ (p.i < -1 ∨ (0 ≤ p.i ∧ p.key ≠ []))) (h2 : ¬ 100 < p.key.length) (h3 : 0 ≤ bad p.key) : stepF p = 3 := by unfold stepF; rw [if_neg h, if_neg h2, if_pos h3]
theorem stepF0 {p : PStep} (h : ¬ (p.i < -1 ∨ (0 ≤ p.i ∧ p.key ≠ []))) (h2 : ¬ 100 < p.key.length) (h3 : ¬ 0 ≤ bad p.key) : stepF p = 0 := by unfold stepF; rw [if_neg h, if_neg h2, if_neg h3]
theorem stepsF_stop {l : List PStep} {i : Nat} {e : Int} (h : i < l.length) (he : stepF l[i] = e) (h0 : e ≠ 0) : stepsF (l.drop i) = e := by rw [stepsF_drop h, he, orI_ne h0]
theorem stepsF_go {l : List PStep} {i : Nat} (h : i < l.length) (he : stepF l[i] = 0) : stepsF (l.drop i) = stepsF (l.drop (i + 1)) := by rw [stepsF_drop h, he, orI_zero]
section
variable [G : Globs]
theorem w_pathC (hu : HasU8) (l : List PStep) : vc Tryd.prog Γ 39 [0, 2, 4, 7, 8, 9, 10, 11, 14, 28, 33] (Tryd.f142.body.getD .skip) (postK Γ [.tmp 2] (fun v => v = .i .i64 (pathF l))) ⟨argSlots 0 [.rd .pstep l], []⟩ := by
  intro hl
  refine And.intro (fun hq => ?_) (fun hq => ?_)
  · refine congrArg (AV.i .i64) ?_
    rw [pathF, if_pos (by have := of_decide_eq_true hq; omega)]
  rw [pathF, if_neg (by have := of_decide_eq_false hq; omega)]
  intro _
  refine Exists.intro [] (Exists.intro [] (Exists.intro [] (Exists.intro Nat (Exists.intro (fun i => i ≤ (l).length ∧ (stepsF l = stepsF (l.drop i))) (Exists.intro (fun i => ⟨[(8, .rd .pstep l), (9, .i .i64 l.length), (10, .i .i64 i)], []⟩) (Exists.intro (fun i => (l).length - i) (Exists.intro 0 (And.intro ⟨Nat.zero_le _, rfl⟩ (And.intro ?_ ?_)))))))))
  · (repeat' (first | exact trivial | exact Or.inl rfl | exact Or.inr (Or.inl ⟨rfl, _, rfl⟩) | exact Or.inr (Or.inr (Or.inr ⟨_, _, _, rfl, rfl⟩)) | refine And.intro ?_ ?_))
  rintro i ⟨hi, hI⟩
  refine And.intro (fun hz => ?_) (fun hz => ?_)
  · have hi := ltD hz
    have hg := getI (τ := .pstep) hi
    refine And.intro ⟨by omega, by omega⟩ ?_
    rw [hg]
    by_cases c : l[i].i < -1 ∨ (0 ≤ l[i].i ∧ l[i].key ≠ [])
    · rw [stepsF_stop hi (stepF1 c) (by decide)] at hI
      rcases c with c | ⟨c, c3⟩
      all_goals (repeat' (first | (refine And.intro (fun h => ?_) (fun h => ?_) <;> (try simp [-List.getD_eq_getElem?_getD, -Int.pred_toNat] at h) <;> (try (exfalso; first | omega | contradiction))) | (refine And.intro (rng64 (by omega) (by omega)) ?_) | (refine And.intro ⟨by omega, by omega⟩ ?_) | (refine And.intro ⟨by omega, by omega, by omega⟩ ?_) | (intro _)))
      all_goals exact congrArg (AV.i .i64) hI.symm
    · have c1 : -1 ≤ l[i].i := by omega
      have c2 : l[i].i < 0 ∨ (0 ≤ l[i].i ∧ l[i].key = []) := by grind
      by_cases d : 100 < l[i].key.length
      · rw [stepsF_stop hi (stepF2 c d) (by decide)] at hI
        rcases c2 with c2 | ⟨c2, c3⟩
        all_goals (repeat' (first | (refine And.intro (fun h => ?_) (fun h => ?_) <;> (try simp [-List.getD_eq_getElem?_getD, -Int.pred_toNat] at h) <;> (try (exfalso; first | omega | contradiction))) | (refine And.intro (rng64 (by omega) (by omega)) ?_) | (refine And.intro ⟨by omega, by omega⟩ ?_) | (refine And.intro ⟨by omega, by omega, by omega⟩ ?_) | (intro _)))
        all_goals exact congrArg (AV.i .i64) hI.symm
      · by_cases e : 0 ≤ bad l[i].key
        · rw [stepsF_stop hi (stepF3 c d e) (by decide)] at hI
          rcases c2 with c2 | ⟨c2, c3⟩
          all_goals (repeat' (first | (refine And.intro (fun h => ?_) (fun h => ?_) <;> (try simp [-List.getD_eq_getElem?_getD, -Int.pred_toNat] at h) <;> (try (exfalso; first | omega | contradiction))) | (refine And.intro (rng64 (by omega) (by omega)) ?_) | (refine And.intro ⟨by omega, by omega⟩ ?_) | (refine And.intro ⟨by omega, by omega, by omega⟩ ?_) | (intro _)))
          all_goals refine Or.inl (Exists.intro _ (And.intro (s_Bad hu l[i].key) ?_))
          all_goals (repeat' (first | (refine And.intro (fun h => ?_) (fun h => ?_) <;> (try simp [-List.getD_eq_getElem?_getD, -Int.pred_toNat] at h) <;> (try (exfalso; first | omega | contradiction))) | (refine And.intro (rng64 (by omega) (by omega)) ?_) | (refine And.intro ⟨by omega, by omega⟩ ?_) | (refine And.intro ⟨by omega, by omega, by omega⟩ ?_) | (intro _)))
          all_goals exact congrArg (AV.i .i64) hI.symm
        · rw [stepsF_go hi (stepF0 c d e)] at hI
          have := len_le hl
          rcases c2 with c2 | ⟨c2, c3⟩
          all_goals (repeat' (first | (refine And.intro (fun h => ?_) (fun h => ?_) <;> (try simp [-List.getD_eq_getElem?_getD, -Int.pred_toNat] at h) <;> (try (exfalso; first | omega | contradiction))) | (refine And.intro (rng64 (by omega) (by omega)) ?_) | (refine And.intro ⟨by omega, by omega⟩ ?_) | (refine And.intro ⟨by omega, by omega, by omega⟩ ?_) | (intro _)))
          all_goals refine Or.inl (Exists.intro _ (And.intro (s_Bad hu l[i].key) ?_))
          all_goals (repeat' (first | (refine And.intro (fun h => ?_) (fun h => ?_) <;> (try simp [-List.getD_eq_getElem?_getD, -Int.pred_toNat] at h) <;> (try (exfalso; first | omega | contradiction))) | (refine And.intro (rng64 (by omega) (by omega)) ?_) | (refine And.intro ⟨by omega, by omega⟩ ?_) | (refine And.intro ⟨by omega, by omega, by omega⟩ ?_) | (intro _)))
          all_goals refine Exists.intro [] (Exists.intro (i + 1) (And.intro ⟨hi, hI⟩ (And.intro ?_ ?_)))
          all_goals first | (exact Nat.sub_lt_sub_left (by omega) (by omega)) | (repeat' (first | exact trivial | exact Or.inl rfl | exact Or.inr (Or.inl ⟨rfl, _, rfl⟩) | exact Or.inr (Or.inr (Or.inr ⟨_, _, _, rfl, rfl⟩)) | refine And.intro ?_ ?_))
  · (have hi := geD hi hz)
    rw [hI, List.drop_eq_nil_of_le (by omega)]
    rfl
theorem s_pathC (hu : HasU8) (l : List PStep) : PSpec Tryd.prog 142 [.rd .pstep l] (.i .i64 (pathF l)) :=
  pspec_of_vc Γ_good Tryd.func142 rfl Tryd.call142 Tryd.results142 Tryd.ntmps142 (Nat.le_of_ble_eq_true rfl) (w_pathC hu l)
def partA (a : Val) (p : PStep) : AV := .tup [.agg (encVal (partV a p).1), .i .i64 (partV a p).2]
theorem partA_eq {a : Val} {p : PStep} {w : Val} {e : Int} (h : partV a p = (w, e)) : partA a p = .tup [.agg (encVal w), .i .i64 e] := by unfold partA; rw [h]
theorem partV_tk {a : Val} {p : PStep} (h : p.i < 0) (h2 : a.kind ≠ 6) : partV a p = (zeroV, 10) := by unfold partV; rw [if_pos h, if_pos h2]
theorem partV_tn {a : Val} {p : PStep} (h : p.i < 0) (h2 : ¬ a.kind ≠ 6) (h3 : ixI a.e (keyIs p.key) < 0) : partV a p = (zeroV, 8) := by unfold partV; rw [if_pos h, if_neg h2, if_pos h3]
theorem partV_t {a : Val} {p : PStep} (h : p.i < 0) (h2 : ¬ a.kind ≠ 6) (h3 : ¬ ixI a.e (keyIs p.key) < 0) : partV a p = ((a.e.getD (ixI a.e (keyIs p.key)).toNat (dflt .ent)).2, 0) := by unfold partV; rw [if_pos h, if_neg h2, if_neg h3]
theorem partV_lk {a : Val} {p : PStep} (h : ¬ p.i < 0) (h2 : a.kind ≠ 5) : partV a p = (zeroV, 10) := by unfold partV; rw [if_neg h, if_pos h2]
theorem partV_ln {a : Val} {p : PStep} (h : ¬ p.i < 0) (h2 : ¬ a.kind ≠ 5) (h3 : (a.l.length : Int) ≤ p.i) : partV a p = (zeroV, 8) := by unfold partV; rw [if_neg h, if_neg h2, if_pos h3]
theorem partV_l {a : Val} {p : PStep} (h : ¬ p.i < 0) (h2 : ¬ a.kind ≠ 5) (h3 : ¬ (a.l.length : Int) ≤ p.i) : partV a p = (a.l.getD p.i.toNat (dflt .val), 0) := by unfold partV; rw [if_neg h, if_neg h2, if_neg h3]
theorem w_partOf (a : Val) (p : PStep) (h : -1 ≤ p.i) : vc Tryd.prog Γ 46 [2, 3, 4, 5, 6, 7, 10, 13, 21, 31, 38] (Tryd.f141.body.getD .skip) (postK Γ [.cell 4 26, .tmp 5] (fun v => RL v (partA a p))) ⟨argSlots 0 [.agg (encVal a), .agg (enc .pstep p)], []⟩ := by
  refine And.intro (fun hq => ?_) (fun hq => ?_)
  · have hq : p.i < 0 := by have := eq_of_beq hq; omega
    refine And.intro (fun hk => ?_) (fun hk => ?_)
    · have hk : a.kind ≠ 6 := by simpa using hk
      rw [partA_eq (partV_tk hq hk)]
      (repeat' (first | exact trivial | exact Or.inl rfl | exact Or.inr ⟨rfl, _, rfl⟩ | refine And.intro ?_ ?_))
    have hk : ¬ a.kind ≠ 6 := by simpa using hk
    refine Or.inl (Exists.intro _ (And.intro (s_entAt a.e p.key) ?_))
    refine And.intro (fun hx => ?_) (fun hx => ?_)
    · have hx : ixI a.e (keyIs p.key) < 0 := of_decide_eq_true hx
      rw [partA_eq (partV_tn hq hk hx)]
      (repeat' (first | exact trivial | exact Or.inl rfl | exact Or.inr ⟨rfl, _, rfl⟩ | refine And.intro ?_ ?_))
    have hx : ¬ ixI a.e (keyIs p.key) < 0 := of_decide_eq_false hx
    have hb := ix_bound hx
    rw [partA_eq (partV_t hq hk hx)]
    refine And.intro ⟨by omega, by omega⟩ ?_
    (repeat' (first | exact trivial | exact Or.inl rfl | exact Or.inr ⟨rfl, _, rfl⟩ | refine And.intro ?_ ?_))
  · have hq : ¬ p.i < 0 := by have := ne_of_beq_false hq; omega
    refine And.intro (fun hk => ?_) (fun hk => ?_)
    · have hk : a.kind ≠ 5 := by simpa using hk
      rw [partA_eq (partV_lk hq hk)]
      (repeat' (first | exact trivial | exact Or.inl rfl | exact Or.inr ⟨rfl, _, rfl⟩ | refine And.intro ?_ ?_))
    have hk : ¬ a.kind ≠ 5 := by simpa using hk
    intro _
    refine And.intro (fun hx => ?_) (fun hx => ?_)
    · rw [partA_eq (partV_ln hq hk (of_decide_eq_true hx))]
      (repeat' (first | exact trivial | exact Or.inl rfl | exact Or.inr ⟨rfl, _, rfl⟩ | refine And.intro ?_ ?_))
    have hx : ¬ (a.l.length : Int) ≤ p.i := of_decide_eq_false hx
    rw [partA_eq (partV_l hq hk hx)]
    refine And.intro ⟨by omega, by omega⟩ ?_
    (repeat' (first | exact trivial | exact Or.inl rfl | exact Or.inr ⟨rfl, _, rfl⟩ | refine And.intro ?_ ?_))
theorem s_partOf (a : Val) (p : PStep) (h : -1 ≤ p.i) : PSpec Tryd.prog 141 [.agg (encVal a), .agg (enc .pstep p)] (partA a p) :=
  pspec_of_vcL Γ_good Tryd.func141 rfl Tryd.call141 Tryd.results141 Tryd.ntmps141 (Nat.le_of_ble_eq_true rfl) (w_partOf a p h)
theorem w_part (a : Val) (p : PStep) : vc Tryd.prog Γ 49 [2, 3, 4, 5, 6, 9, 15, 20, 30, 35] (Tryd.f144.body.getD .skip) (postK Γ [.cell 4 26, .tmp 5] (fun v => RL v (partA a p))) ⟨argSlots 0 [.agg (encVal a), .agg (enc .pstep p)], []⟩ := by
  refine And.intro (fun hq => ?_) (fun hq => ?_)
  · have hq : p.i < 0 := of_decide_eq_true hq
    refine Or.inl (Exists.intro _ (And.intro (s_find a.e p.key) ?_))
    refine And.intro (fun hk => ?_) (fun hk => ?_)
    · have hk : a.kind ≠ 6 := by simpa using hk
      rw [partA_eq (partV_tk hq hk)]
      (repeat' (first | exact trivial | exact Or.inl rfl | exact Or.inr ⟨rfl, _, rfl⟩ | refine And.intro ?_ ?_))
    have hk : ¬ a.kind ≠ 6 := by simpa using hk
    refine And.intro (fun hx => ?_) (fun hx => ?_)
    · have hx : ixI a.e (keyIs p.key) < 0 := of_decide_eq_true hx
      rw [partA_eq (partV_tn hq hk hx)]
      (repeat' (first | exact trivial | exact Or.inl rfl | exact Or.inr ⟨rfl, _, rfl⟩ | refine And.intro ?_ ?_))
    have hx : ¬ ixI a.e (keyIs p.key) < 0 := of_decide_eq_false hx
    have hb := ix_bound hx
    rw [partA_eq (partV_t hq hk hx)]
    refine And.intro ⟨by omega, by omega⟩ ?_
    (repeat' (first | exact trivial | exact Or.inl rfl | exact Or.inr ⟨rfl, _, rfl⟩ | refine And.intro ?_ ?_))
  · have hq : ¬ p.i < 0 := of_decide_eq_false hq
    refine And.intro (fun hk => ?_) (fun hk => ?_)
    · have hk : a.kind ≠ 5 := by simpa using hk
      rw [partA_eq (partV_lk hq hk)]
      (repeat' (first | exact trivial | exact Or.inl rfl | exact Or.inr ⟨rfl, _, rfl⟩ | refine And.intro ?_ ?_))
    have hk : ¬ a.kind ≠ 5 := by simpa using hk
    intro _
    refine And.intro (fun hx => ?_) (fun hx => ?_)
    · rw [partA_eq (partV_ln hq hk (of_decide_eq_true hx))]
      (repeat' (first | exact trivial | exact Or.inl rfl | exact Or.inr ⟨rfl, _, rfl⟩ | refine And.intro ?_ ?_))
    have hx : ¬ (a.l.length : Int) ≤ p.i := of_decide_eq_false hx
    rw [partA_eq (partV_l hq hk hx)]
    refine And.intro ⟨by omega, by omega⟩ ?_
    (repeat' (first | exact trivial | exact Or.inl rfl | exact Or.inr ⟨rfl, _, rfl⟩ | refine And.intro ?_ ?_))
theorem s_part (a : Val) (p : PStep) : PSpec Tryd.prog 144 [.agg (encVal a), .agg (enc .pstep p)] (partA a p) :=
  pspec_of_vcL Γ_good Tryd.func144 rfl Tryd.call144 Tryd.results144 Tryd.ntmps144 (Nat.le_of_ble_eq_true rfl) (w_part a p)
theorem w_pathR (l : List PStep) : vc Tryd.prog Γ 36 [0, 2, 4, 7, 8, 9, 10, 11, 26, 30, 34] (Tryd.f150.body.getD .skip) (postK Γ [.tmp 2] (fun v => v = .i .i64 (pathF l))) ⟨argSlots 0 [.rd .pstep l], []⟩ := by
  intro hl
  refine And.intro (fun hq => ?_) (fun hq => ?_)
  · refine congrArg (AV.i .i64) ?_
    rw [pathF, if_pos (by have := of_decide_eq_true hq; omega)]
  rw [pathF, if_neg (by have := of_decide_eq_false hq; omega)]
  intro _
  refine Exists.intro [] (Exists.intro [] (Exists.intro [] (Exists.intro Nat (Exists.intro (fun i => i ≤ (l).length ∧ (stepsF l = stepsF (l.drop i))) (Exists.intro (fun i => ⟨[(8, .rd .pstep l), (9, .i .i64 l.length), (10, .i .i64 i)], []⟩) (Exists.intro (fun i => (l).length - i) (Exists.intro 0 (And.intro ⟨Nat.zero_le _, rfl⟩ (And.intro ?_ ?_)))))))))
  · (repeat' (first | exact trivial | exact Or.inl rfl | exact Or.inr (Or.inl ⟨rfl, _, rfl⟩) | exact Or.inr (Or.inr (Or.inr ⟨_, _, _, rfl, rfl⟩)) | refine And.intro ?_ ?_))
  rintro i ⟨hi, hI⟩
  refine And.intro (fun hz => ?_) (fun hz => ?_)
  · have hi := ltD hz
    have hg := getI (τ := .pstep) hi
    refine And.intro ⟨by omega, by omega⟩ ?_
    rw [hg]
    by_cases c : l[i].i < -1 ∨ (0 ≤ l[i].i ∧ l[i].key ≠ [])
    · rw [stepsF_stop hi (stepF1 c) (by decide)] at hI
      rcases c with c | ⟨c, c3⟩
      all_goals (repeat' (first | (refine And.intro (fun h => ?_) (fun h => ?_) <;> (try simp [-List.getD_eq_getElem?_getD, -Int.pred_toNat] at h) <;> (try (exfalso; first | omega | contradiction))) | (refine And.intro (rng64 (by omega) (by omega)) ?_) | (refine And.intro ⟨by omega, by omega⟩ ?_) | (refine And.intro ⟨by omega, by omega, by omega⟩ ?_) | (intro _)))
      all_goals exact congrArg (AV.i .i64) hI.symm
    · have c1 : -1 ≤ l[i].i := by omega
      have c2 : l[i].i = -1 ∨ (0 ≤ l[i].i ∧ l[i].key = []) := by grind
      by_cases d : 100 < l[i].key.length
      · rw [stepsF_stop hi (stepF2 c d) (by decide)] at hI
        rcases c2 with c2 | ⟨c2, c3⟩
        all_goals (repeat' (first | (refine And.intro (fun h => ?_) (fun h => ?_) <;> (try simp [-List.getD_eq_getElem?_getD, -Int.pred_toNat] at h) <;> (try (exfalso; first | omega | contradiction))) | (refine And.intro (rng64 (by omega) (by omega)) ?_) | (refine And.intro ⟨by omega, by omega⟩ ?_) | (refine And.intro ⟨by omega, by omega, by omega⟩ ?_) | (intro _)))
        all_goals exact congrArg (AV.i .i64) hI.symm
      · by_cases e : 0 ≤ bad l[i].key
        · rw [stepsF_stop hi (stepF3 c d e) (by decide)] at hI
          rcases c2 with c2 | ⟨c2, c3⟩
          all_goals (repeat' (first | (refine And.intro (fun h => ?_) (fun h => ?_) <;> (try simp [-List.getD_eq_getElem?_getD, -Int.pred_toNat] at h) <;> (try (exfalso; first | omega | contradiction))) | (refine And.intro (rng64 (by omega) (by omega)) ?_) | (refine And.intro ⟨by omega, by omega⟩ ?_) | (refine And.intro ⟨by omega, by omega, by omega⟩ ?_) | (intro _)))
          all_goals refine Or.inl (Exists.intro _ (And.intro (s_BadPlace l[i].key) ?_))
          all_goals (repeat' (first | (refine And.intro (fun h => ?_) (fun h => ?_) <;> (try simp [-List.getD_eq_getElem?_getD, -Int.pred_toNat] at h) <;> (try (exfalso; first | omega | contradiction))) | (refine And.intro (rng64 (by omega) (by omega)) ?_) | (refine And.intro ⟨by omega, by omega⟩ ?_) | (refine And.intro ⟨by omega, by omega, by omega⟩ ?_) | (intro _)))
          all_goals exact congrArg (AV.i .i64) hI.symm
        · rw [stepsF_go hi (stepF0 c d e)] at hI
          have := len_le hl
          rcases c2 with c2 | ⟨c2, c3⟩
          all_goals (repeat' (first | (refine And.intro (fun h => ?_) (fun h => ?_) <;> (try simp [-List.getD_eq_getElem?_getD, -Int.pred_toNat] at h) <;> (try (exfalso; first | omega | contradiction))) | (refine And.intro (rng64 (by omega) (by omega)) ?_) | (refine And.intro ⟨by omega, by omega⟩ ?_) | (refine And.intro ⟨by omega, by omega, by omega⟩ ?_) | (intro _)))
          all_goals refine Or.inl (Exists.intro _ (And.intro (s_BadPlace l[i].key) ?_))
          all_goals (repeat' (first | (refine And.intro (fun h => ?_) (fun h => ?_) <;> (try simp [-List.getD_eq_getElem?_getD, -Int.pred_toNat] at h) <;> (try (exfalso; first | omega | contradiction))) | (refine And.intro (rng64 (by omega) (by omega)) ?_) | (refine And.intro ⟨by omega, by omega⟩ ?_) | (refine And.intro ⟨by omega, by omega, by omega⟩ ?_) | (intro _)))
          all_goals refine Exists.intro [] (Exists.intro (i + 1) (And.intro ⟨hi, hI⟩ (And.intro ?_ ?_)))
          all_goals first | (exact Nat.sub_lt_sub_left (by omega) (by omega)) | (repeat' (first | exact trivial | exact Or.inl rfl | exact Or.inr (Or.inl ⟨rfl, _, rfl⟩) | exact Or.inr (Or.inr (Or.inr ⟨_, _, _, rfl, rfl⟩)) | refine And.intro ?_ ?_))
  · (have hi := geD hi hz)
    rw [hI, List.drop_eq_nil_of_le (by omega)]
    rfl
theorem s_pathR (l : List PStep) : PSpec Tryd.prog 150 [.rd .pstep l] (.i .i64 (pathF l)) :=
  pspec_of_vc Γ_good Tryd.func150 rfl Tryd.call150 Tryd.results150 Tryd.ntmps150 (Nat.le_of_ble_eq_true rfl) (w_pathR l)
def ledA (a : Val) (l : List PStep) : AV := .tup [.agg (encVal (ledV a l).1), .i .i64 (ledV a l).2]
theorem ledA_eq {a w : Val} {l : List PStep} {e : Int} (h : ledV a l = (w, e)) : ledA a l = .tup [.agg (encVal w), .i .i64 e] := by unfold ledA; rw [h]
theorem tail_eq (p : PStep) (r : List PStep) : ((p :: r).take (Int.toNat ((p :: r).length : Int))).drop (Int.toNat 1) = r := by
  rw [Int.toNat_natCast, List.take_length]; rfl
theorem w_led0 (a : Val) : vc Tryd.prog Γ 30 [1, 2, 4, 5, 6, 7, 10, 21] (Tryd.f74.body.getD .skip) (postK Γ [.cell 4 26, .tmp 5] (fun v => RL v (ledA a []))) ⟨argSlots 0 [.agg (encVal a), .rd .pstep []], []⟩ := by
  intro _
  refine And.intro (fun _ => ?_) (fun hq => Bool.noConfusion hq)
  (repeat' (first | exact trivial | exact Or.inl rfl | exact Or.inr ⟨rfl, _, rfl⟩ | refine And.intro ?_ ?_))
theorem s_led0 (a : Val) : PSpec Tryd.prog 74 [.agg (encVal a), .rd .pstep []] (ledA a []) :=
  pspec_of_vcL Γ_good Tryd.func74 rfl Tryd.call74 Tryd.results74 Tryd.ntmps74 (Nat.le_of_ble_eq_true rfl) (w_led0 a)
theorem w_led1 (a : Val) (p : PStep) (r : List PStep) (h : -1 ≤ p.i) (ih : ∀ w, PSpec Tryd.prog 74 [.agg (encVal w), .rd .pstep r] (ledA w r)) : vc Tryd.prog Γ 30 [1, 2, 4, 5, 6, 7, 10, 21] (Tryd.f74.body.getD .skip) (postK Γ [.cell 4 26, .tmp 5] (fun v => RL v (ledA a (p :: r)))) ⟨argSlots 0 [.agg (encVal a), .rd .pstep (p :: r)], []⟩ := by
  intro _
  refine And.intro (fun hq => ?_) (fun _ => ?_)
  · have := eq_of_beq hq
    simp only [List.length_cons] at this
    omega
  have hs := s_partOf a p h
  refine Exists.intro [.take 1, .take 2, .tree 8 [0, 3, 4, 5, 6, 7, 8, 9] (.opt 0 (.opt 3 (.opt 4 (.opt 5 (.opt 6 (.opt 7 (.opt 8 (.opt 9 .fin .non) .non) (.opt 8 (.opt 7 (.opt 9 .fin .non) (.opt 9 (.opt 7 .fin .non) .non)) .non)) (.opt 7 (.opt 6 (.opt 8 (.opt 9 .fin .non) .non) (.opt 8 (.opt 6 (.opt 9 .fin .non) .non) .non)) (.opt 8 (.opt 6 (.opt 7 (.opt 9 .fin .non) (.opt 9 (.opt 7 .fin .non) .non)) (.opt 7 (.opt 6 (.opt 9 .fin .non) .non) .non)) .non))) (.opt 8 (.opt 5 (.opt 6 (.opt 7 (.opt 9 .fin .non) (.opt 9 (.opt 7 .fin .non) .non)) (.opt 7 (.opt 6 (.opt 9 .fin .non) .non) .non)) .non) .non)) (.opt 8 (.opt 4 (.opt 5 (.opt 6 (.opt 7 (.opt 9 .fin .non) (.opt 9 (.opt 7 .fin .non) .non)) (.opt 7 (.opt 6 (.opt 9 .fin .non) .non) .non)) .non) .non) .non)) (.opt 8 (.opt 3 (.opt 4 (.opt 5 (.opt 6 (.opt 7 (.opt 9 .fin .non) (.opt 9 (.opt 7 .fin .non) .non)) (.opt 7 (.opt 6 (.opt 9 .fin .non) .non) .non)) .non) .non) .non) .non)) (.opt 3 (.opt 0 (.opt 4 (.opt 5 (.opt 6 (.opt 7 (.opt 8 (.opt 9 .fin .non) .non) (.opt 8 (.opt 7 (.opt 9 .fin .non) (.opt 9 (.opt 7 .fin .non) .non)) .non)) (.opt 7 (.opt 6 (.opt 8 (.opt 9 .fin .non) .non) (.opt 8 (.opt 6 (.opt 9 .fin .non) .non) .non)) (.opt 8 (.opt 6 (.opt 7 (.opt 9 .fin .non) (.opt 9 (.opt 7 .fin .non) .non)) (.opt 7 (.opt 6 (.opt 9 .fin .non) .non) .non)) .non))) (.opt 8 (.opt 5 (.opt 6 (.opt 7 (.opt 9 .fin .non) (.opt 9 (.opt 7 .fin .non) .non)) (.opt 7 (.opt 6 (.opt 9 .fin .non) .non) .non)) .non) .non)) (.opt 8 (.opt 4 (.opt 5 (.opt 6 (.opt 7 (.opt 9 .fin .non) (.opt 9 (.opt 7 .fin .non) .non)) (.opt 7 (.opt 6 (.opt 9 .fin .non) .non) .non)) .non) .non) .non)) (.opt 8 (.opt 0 (.opt 4 (.opt 5 (.opt 6 (.opt 7 (.opt 9 .fin .non) (.opt 9 (.opt 7 .fin .non) .non)) (.opt 7 (.opt 6 (.opt 9 .fin .non) .non) .non)) .non) .non) .non) .non)) (.opt 8 (.opt 0 (.opt 3 (.opt 4 (.opt 5 (.opt 6 (.opt 7 (.opt 9 .fin .non) (.opt 9 (.opt 7 .fin .non) .non)) (.opt 7 (.opt 6 (.opt 9 .fin .non) .non) .non)) .non) .non) .non) (.opt 3 (.opt 0 (.opt 4 (.opt 5 (.opt 6 (.opt 7 (.opt 9 .fin .non) (.opt 9 (.opt 7 .fin .non) .non)) (.opt 7 (.opt 6 (.opt 9 .fin .non) .non) .non)) .non) .non) .non) .non)) .non))), .take 10] (And.intro (by kernel_rfl) ?_)
  refine And.intro ⟨by omega, by simp only [List.length_cons]; omega⟩ ?_
  refine Exists.intro ⟨[(1, .rd .pstep (p :: r)), (2, .pt 2 0), (4, .pt 4 0), (5, .i .i64 0), (6, .pt 6 0), (19, .i .i64 (partV a p).2)], [(2, encVal a), (4, [.i .i64 0, .i .i64 0, .i .u64 0, .s [], .nl, .nl]), (6, encVal (partV a p).1)]⟩ (And.intro ?_ ?_)
  · repeat' (first | exact trivial | exact Or.inl rfl | refine And.intro ?_ ?_ | refine Or.inl (Exists.intro _ (And.intro hs ?_)))
  have hr : PSpec Tryd.prog 74 [.agg (encVal (partV a p).1), .rd .pstep (((p :: r).take (Int.toNat ((p :: r).length : Int))).drop (Int.toNat 1))] (ledA (partV a p).1 r) := by
    rw [tail_eq]; exact ih _
  refine And.intro (fun hq => ?_) (fun hq => ?_)
  · have hq : (partV a p).2 ≠ 0 := by simpa using hq
    rw [ledA_eq (show ledV a (p :: r) = (zeroV, (partV a p).2) from by rw [ledV, if_pos hq])]
    (repeat' (first | exact trivial | exact Or.inl rfl | exact Or.inr ⟨rfl, _, rfl⟩ | refine And.intro ?_ ?_))
  · have hq : ¬ (partV a p).2 ≠ 0 := by simpa using hq
    rw [show ledA a (p :: r) = ledA (partV a p).1 r from by unfold ledA; rw [ledV, if_neg hq]]
    refine Exists.intro [.blk [0, 1, 2, 3, 4, 5], .one 6, .take 7] (And.intro (by kernel_rfl) ?_)
    refine And.intro ⟨by omega, by simp only [List.length_cons]; omega, by simp only [List.length_cons]; omega⟩ ?_
    refine Exists.intro _ (And.intro (hr) ?_)
    (repeat' (first | exact trivial | exact Or.inl rfl | exact Or.inr ⟨rfl, _, rfl⟩ | refine And.intro ?_ ?_))
theorem s_led1 (a : Val) (p : PStep) (r : List PStep) (h : -1 ≤ p.i) (ih : ∀ w, PSpec Tryd.prog 74 [.agg (encVal w), .rd .pstep r] (ledA w r)) : PSpec Tryd.prog 74 [.agg (encVal a), .rd .pstep (p :: r)] (ledA a (p :: r)) :=
  pspec_of_vcL Γ_good Tryd.func74 rfl Tryd.call74 Tryd.results74 Tryd.ntmps74 (Nat.le_of_ble_eq_true rfl) (w_led1 a p r h ih)
theorem s_Led : ∀ (l : List PStep) (a : Val), (∀ p ∈ l, -1 ≤ p.i) → PSpec Tryd.prog 74 [.agg (encVal a), .rd .pstep l] (ledA a l)
  | [], a, _ => s_led0 a
  | p :: r, a, h => s_led1 a p r (h p (.head _)) fun w => s_Led r w fun q hq => h q (.tail _ hq)
/-- what Get answers -/
def getV (a : Val) (l : List PStep) : Val × Int := if pathF l ≠ 0 then (zeroV, pathF l) else ledV a l
def getA (a : Val) (l : List PStep) : AV := .tup [.agg (encVal (getV a l).1), .i .i64 (getV a l).2]
theorem getA_eq {a w : Val} {l : List PStep} {e : Int} (h : getV a l = (w, e)) : getA a l = .tup [.agg (encVal w), .i .i64 e] := by unfold getA; rw [h]
theorem vn_zero (n : Nat) : VN n zeroV := .mk _ (Nat.zero_le _) (Nat.zero_le _) (fun _ h => nomatch h) (fun _ h => nomatch h)
theorem vn_part {n : Nat} {v x : Val} (hv : VN n v) (hx : x ∈ partsOf v) : VN n x := by
  cases hv with
  | mk _ _ _ h4 h5 =>
    rcases List.mem_append.1 hx with hx | hx
    · exact h4 x hx
    · obtain ⟨z, hz, rfl⟩ := List.mem_map.1 hx
      exact h5 z hz
theorem w_get (hu : HasU8) (a : Val) (l : List PStep) (ha : VN 100000000 a) : vc Tryd.prog Γ 35 [1, 2, 4, 5, 6, 8, 9, 13, 16, 17, 18, 19, 29] (Tryd.f78.body.getD .skip) (postK Γ [.cell 4 26, .tmp 5] (fun v => RL v (getA a l))) ⟨argSlots 0 [.agg (encVal a), .rd .pstep l], []⟩ := by
  refine Or.inl (Exists.intro _ (And.intro (s_pathC hu l) ?_))
  refine And.intro (fun hq => ?_) (fun hq => ?_)
  · have hq : pathF l ≠ 0 := by simpa using hq
    rw [getA_eq (show getV a l = (zeroV, pathF l) from if_pos hq)]
    (repeat' (first | exact trivial | exact Or.inl rfl | exact Or.inr ⟨rfl, _, rfl⟩ | refine And.intro ?_ ?_))
  have hq : ¬ pathF l ≠ 0 := by simpa using hq
  have hg : getV a l = ledV a l := if_neg hq
  rw [show getA a l = ledA a l from by unfold getA ledA; rw [hg]]
  intro hl
  refine Exists.intro [] (Exists.intro [] (Exists.intro [] (Exists.intro Nat (Exists.intro (fun i => i ≤ (l).length ∧ ((ledV a (l.take i)).2 = 0)) (Exists.intro (fun i => ⟨[(2, .pt 2 0), (4, .pt 4 0), (5, .i .i64 0), (16, .rd .pstep l), (17, .i .i64 l.length), (18, .i .i64 i)], [(2, encVal (ledV a (l.take i)).1), (4, [.i .i64 0, .i .i64 0, .i .u64 0, .s [], .nl, .nl])]⟩) (Exists.intro (fun i => (l).length - i) (Exists.intro 0 (And.intro ⟨Nat.zero_le _, rfl⟩ (And.intro ?_ ?_)))))))))
  · (repeat' (first | exact trivial | exact Or.inl rfl | exact Or.inr (Or.inl ⟨rfl, _, rfl⟩) | exact Or.inr (Or.inr (Or.inr ⟨_, _, _, rfl, rfl⟩)) | refine And.intro ?_ ?_))
  rintro i ⟨hi, hI⟩
  refine And.intro (fun hz => ?_) (fun hz => ?_)
  · have hi := ltD hz
    have hg := getI (τ := .pstep) hi
    refine And.intro ⟨by omega, by omega⟩ ?_
    rw [hg]
    have hs := s_part (ledV a (l.take i)).1 l[i]
    have hap := ledV_append (l.take i) [l[i]] a hI
    rw [← take_snoc hi, ledV_one] at hap
    have hap2 := ledV_append (l.take i) (l.drop i) a hI
    rw [List.take_append_drop, List.drop_eq_getElem_cons hi, ledV] at hap2
    have := len_le hl
    refine Or.inl (Exists.intro _ (And.intro (hs) ?_))
    refine And.intro (fun hq => ?_) (fun hq => ?_)
    · have hq : (partV (ledV a (l.take i)).1 l[i]).2 ≠ 0 := by simpa using hq
      rw [if_pos hq] at hap2
      rw [ledA_eq hap2]
      (repeat' (first | exact trivial | exact Or.inl rfl | exact Or.inr ⟨rfl, _, rfl⟩ | refine And.intro ?_ ?_))
    · have hq : ¬ (partV (ledV a (l.take i)).1 l[i]).2 ≠ 0 := by simpa using hq
      rw [if_neg hq] at hap
      have e1 : (ledV a (l.take (i + 1))).1 = (partV (ledV a (l.take i)).1 l[i]).1 := by rw [hap]
      (refine And.intro (rng64 (by omega) (by omega)) ?_)
      refine Exists.intro [] (Exists.intro (_ + 1) (And.intro ⟨hi, (by rw [hap])⟩ (And.intro ?_ ?_)))
      · (repeat' (first | exact trivial | exact Or.inl rfl | exact Or.inl ((congrArg (fun v : Val => AV.i .i64 v.kind) e1.symm)) | exact Or.inl ((congrArg (fun v : Val => AV.i .i64 v.n) e1.symm)) | exact Or.inl ((congrArg (fun v : Val => AV.i .u64 v.f) e1.symm)) | exact Or.inl ((congrArg (fun v : Val => AV.s v.s) e1.symm)) | exact Or.inl ((congrArg (fun v : Val => AV.rd .val v.l) e1.symm)) | exact Or.inl ((congrArg (fun v : Val => AV.rd .ent v.e) e1.symm)) | refine And.intro ?_ ?_))
      · (exact Nat.sub_lt_sub_left (by omega) (by omega))
  · (have hi := geD hi hz)
    subst hi
    rw [List.take_length] at hI ⊢
    refine Or.inl (Exists.intro _ (And.intro (s_Own (ledV a l).1 (ledV_keep (R := VN 100000000) (vn_zero _) (fun _ h _ hx => vn_part h hx) l a ha)) ?_))
    rw [show ledA a l = .tup [.agg (encVal (ledV a l).1), .i .i64 0] from by unfold ledA; rw [hI]]
    (repeat' (first | exact trivial | exact Or.inl rfl | exact Or.inr ⟨rfl, _, rfl⟩ | refine And.intro ?_ ?_))
theorem s_get (hu : HasU8) (a : Val) (l : List PStep) (ha : VN 100000000 a) : PSpec Tryd.prog 78 [.agg (encVal a), .rd .pstep l] (getA a l) :=
  pspec_of_vcL Γ_good Tryd.func78 rfl Tryd.call78 Tryd.results78 Tryd.ntmps78 (Nat.le_of_ble_eq_true rfl) (w_get hu a l ha)
end
end Go.Proofs.YtdcdmojbkmedpaaDoor
end
section
namespace Go.Proofs.YtdcdmojbkmedpaaDoor
set_option linter.unusedSectionVars false
set_option linter.unusedSimpArgs false
set_option linter.unusedVariables false
open Go Go.SX Go.Ck Go.Vl Go.Ut
set_option maxRecDepth 100000
set_option maxHeartbeats 1000000
section
variable [G : Globs]
/-- a fraction's parts, by the document -/
def partsR (f : Int) : AV := if (f / 4503599627370496) % 2048 = 2047 then .tup [.i .u64 0, .i .i64 0, .i .i64 (if f % 4503599627370496 = 0 then 1 else 2)] else if (f / 4503599627370496) % 2048 = 0 then .tup [.i .u64 (f % 4503599627370496), .i .i64 (-1074), .i .i64 0] else .tup [.i .u64 (f % 4503599627370496 + 4503599627370496), .i .i64 ((f / 4503599627370496) % 2048 - 1075), .i .i64 0]
theorem w_floatParts (f : Int) (h0 : 0 ≤ f) (h1 : f ≤ 18446744073709551615) : vc Tryd.prog Γ 28 [0, 2, 3, 4, 5, 6, 18, 20, 22] (Tryd.f128.body.getD .skip) (postK Γ [.tmp 2, .tmp 3, .tmp 4] (fun v => v = partsR f)) ⟨argSlots 0 [.i .u64 f], []⟩ := by
  have hq : f.tdiv 4503599627370496 = f / 4503599627370496 := Int.tdiv_eq_ediv_of_nonneg h0
  have hm : f.tmod 4503599627370496 = f % 4503599627370496 := Int.tmod_eq_emod_of_nonneg h0
  have hm2 : (f / 4503599627370496).tmod 2048 = (f / 4503599627370496) % 2048 := Int.tmod_eq_emod_of_nonneg (by omega)
  have hw : IntKind.i64.wrap ((f.tdiv 4503599627370496).tmod 2048) = (f / 4503599627370496) % 2048 := by
    rw [hq, hm2]; exact IntWalk.i64_in _ ⟨by omega, by omega⟩
  have hw2 : IntKind.u64.wrap (f.tmod 4503599627370496 + 4503599627370496) = f % 4503599627370496 + 4503599627370496 := by
    rw [hm]; exact IntWalk.u64_in _ ⟨by omega, by omega⟩
  refine And.intro (by decide) ?_
  refine And.intro (by decide) ?_
  refine And.intro ⟨by omega, by omega⟩ ?_
  refine And.intro (by decide) ?_
  refine And.intro (fun h => ?_) (fun h => ?_)
  · have h : (f / 4503599627370496) % 2048 = 2047 := by rw [← hw]; exact eq_of_beq h
    refine And.intro (fun h2 => ?_) (fun h2 => ?_)
    · have h2 : f % 4503599627370496 = 0 := by rw [← hm]; exact eq_of_beq h2
      show AV.tup [.i .u64 0, .i .i64 0, .i .i64 1] = _
      rw [partsR, if_pos h, if_pos h2]
    · have h2 : ¬ f % 4503599627370496 = 0 := by rw [← hm]; exact ne_of_beq_false h2
      refine And.intro (fun _ => ?_) (fun h3 => absurd (hw.trans h) (ne_of_beq_false h3))
      show AV.tup [.i .u64 0, .i .i64 0, .i .i64 2] = _
      rw [partsR, if_pos h, if_neg h2]
  · have h : ¬ (f / 4503599627370496) % 2048 = 2047 := by rw [← hw]; exact ne_of_beq_false h
    refine And.intro (fun h2 => Bool.noConfusion h2) (fun _ => ?_)
    refine And.intro (fun h3 => absurd (hw.symm.trans (eq_of_beq h3)) h) (fun _ => ?_)
    refine And.intro (fun h2 => ?_) (fun h2 => ?_)
    · have h2 : (f / 4503599627370496) % 2048 = 0 := by rw [← hw]; exact eq_of_beq h2
      show AV.tup [.i .u64 (f.tmod 4503599627370496), .i .i64 (-1074), .i .i64 0] = _
      rw [partsR, if_neg h, if_pos h2, hm]
    · have h2 : ¬ (f / 4503599627370496) % 2048 = 0 := by rw [← hw]; exact ne_of_beq_false h2
      refine And.intro ⟨by omega, by omega⟩ ?_
      show AV.tup [.i .u64 (IntKind.u64.wrap (f.tmod 4503599627370496 + 4503599627370496)), .i .i64 (IntKind.i64.wrap ((f.tdiv 4503599627370496).tmod 2048) - 1075), .i .i64 0] = _
      rw [partsR, if_neg h, if_neg h2, hw2, hw]
theorem s_floatParts (f : Int) (h0 : 0 ≤ f) (h1 : f ≤ 18446744073709551615) : PSpec Tryd.prog 128 [.i .u64 f] (partsR f) :=
  pspec_of_vc Γ_good Tryd.func128 rfl Tryd.call128 Tryd.results128 Tryd.ntmps128 (Nat.le_of_ble_eq_true rfl) (w_floatParts f h0 h1)
theorem partsR_eq (f : Int) : ∃ x y z, partsR f = .tup [.i .u64 x, .i .i64 y, .i .i64 z] ∧ (z = 2 ↔ ((f / 4503599627370496) % 2048 = 2047 ∧ f % 4503599627370496 ≠ 0)) := by
  unfold partsR
  split
  · rename_i h
    refine ⟨_, _, _, rfl, ?_⟩
    split <;> omega
  · split
    · exact ⟨_, _, _, rfl, by omega⟩
    · exact ⟨_, _, _, rfl, by omega⟩
theorem w_oneFault (a : Val) (h0 : 0 ≤ a.f) (h1 : a.f ≤ 18446744073709551615) : VCs Tryd.prog Γ 147 [1, 2, 5, 6, 7, 8, 16, 44, 84, 98, 114, 118, 120, 121, 122, 123, 130, 134, 143] (Tryd.f59.body.getD .skip) (postK Γ [.tmp 2] (fun v => v = .i .i64 (docF a))) ⟨argSlots 0 [.agg (encVal a)], []⟩ := by
  refine VCs.seq (by first | exact Γ_good | exact Ctx.good_kp Γ_good _) ?_
  refine VCs.cut (by first | exact Γ_good | exact Ctx.good_kp Γ_good _) Unit (fun _ => ¬ (a.kind < 0 ∨ 6 < a.kind)) (fun _ => ⟨[(1, .pt 1 0), (2, .i .i64 0)], [(1, encVal a)]⟩) ?_ ?_
  · (repeat' (first | (refine And.intro (fun h => ?_) (fun h => ?_) <;> (try simp [-List.getD_eq_getElem?_getD, -Int.pred_toNat] at h) <;> (try (exfalso; first | omega | contradiction))) | (refine And.intro (rng64 (by omega) (by omega)) ?_) | (refine And.intro ⟨by omega, by omega⟩ ?_) | (refine And.intro ⟨by omega, by omega, by omega⟩ ?_) | (intro _)))
    all_goals first | (exact congrArg (AV.i .i64) (docF_kind (by unfold kindBad oddF; omega))) | (refine Exists.intro () (And.intro (by omega) ?_); (repeat' (first | exact trivial | exact Or.inl rfl | exact Or.inr (Or.inl ⟨rfl, _, rfl⟩) | exact Or.inr (Or.inr (Or.inr ⟨_, _, _, rfl, rfl⟩)) | refine And.intro ?_ ?_)))
  intro _ k1
  refine VCs.cut (by first | exact Γ_good | exact Ctx.good_kp Γ_good _) Unit (fun _ => ¬ ((a.kind ≠ 1 ∧ a.kind ≠ 2 ∧ a.n ≠ 0) ∨ (a.kind = 1 ∧ a.n ≠ 0 ∧ a.n ≠ 1))) (fun _ => ⟨[(1, .pt 1 0), (2, .i .i64 0)], [(1, encVal a)]⟩) ?_ ?_
  · (repeat' (first | (refine And.intro (fun h => ?_) (fun h => ?_) <;> (try simp [-List.getD_eq_getElem?_getD, -Int.pred_toNat] at h) <;> (try (exfalso; first | omega | contradiction))) | (refine And.intro (rng64 (by omega) (by omega)) ?_) | (refine And.intro ⟨by omega, by omega⟩ ?_) | (refine And.intro ⟨by omega, by omega, by omega⟩ ?_) | (intro _)))
    all_goals first | (exact congrArg (AV.i .i64) (docF_kind (by unfold kindBad oddF; omega))) | (refine Exists.intro () (And.intro (by omega) ?_); (repeat' (first | exact trivial | exact Or.inl rfl | exact Or.inr (Or.inl ⟨rfl, _, rfl⟩) | exact Or.inr (Or.inr (Or.inr ⟨_, _, _, rfl, rfl⟩)) | refine And.intro ?_ ?_)))
  intro _ k2
  refine VCs.cut (by first | exact Γ_good | exact Ctx.good_kp Γ_good _) Unit (fun _ => ¬ ((a.kind ≠ 3 ∧ a.f ≠ 0) ∨ (a.kind ≠ 4 ∧ a.s ≠ []) ∨ (a.kind ≠ 5 ∧ 0 < a.l.length) ∨ (a.kind ≠ 6 ∧ 0 < a.e.length))) (fun _ => ⟨[(1, .pt 1 0), (2, .i .i64 0)], [(1, encVal a)]⟩) ?_ ?_
  · (repeat' (first | (refine And.intro (fun h => ?_) (fun h => ?_) <;> (try simp [-List.getD_eq_getElem?_getD, -Int.pred_toNat] at h) <;> (try (exfalso; first | omega | contradiction))) | (refine And.intro (rng64 (by omega) (by omega)) ?_) | (refine And.intro ⟨by omega, by omega⟩ ?_) | (refine And.intro ⟨by omega, by omega, by omega⟩ ?_) | (intro _)))
    all_goals first | (exact congrArg (AV.i .i64) (docF_kind (by unfold kindBad oddF; grind))) | (refine Exists.intro () (And.intro (by grind) ?_); (repeat' (first | exact trivial | exact Or.inl rfl | exact Or.inr (Or.inl ⟨rfl, _, rfl⟩) | exact Or.inr (Or.inr (Or.inr ⟨_, _, _, rfl, rfl⟩)) | refine And.intro ?_ ?_)))
  intro _ k3
  obtain ⟨x, y, z, hp, hz⟩ := partsR_eq a.f
  have hs := s_floatParts a.f h0 h1
  rw [hp] at hs
  refine VCs.cut (by first | exact Γ_good | exact Ctx.good_kp Γ_good _) Unit (fun _ => ¬ oddF a.f) (fun _ => ⟨[(1, .pt 1 0), (2, .i .i64 0)], [(1, encVal a)]⟩) ?_ ?_
  · refine Or.inl (Exists.intro _ (And.intro (hs) ?_))
    (repeat' (first | (refine And.intro (fun h => ?_) (fun h => ?_) <;> (try simp [-List.getD_eq_getElem?_getD, -Int.pred_toNat] at h) <;> (try (exfalso; first | omega | contradiction))) | (refine And.intro (rng64 (by omega) (by omega)) ?_) | (refine And.intro ⟨by omega, by omega⟩ ?_) | (refine And.intro ⟨by omega, by omega, by omega⟩ ?_) | (intro _)))
    all_goals first | (exact congrArg (AV.i .i64) (docF_kind (by unfold kindBad oddF; omega))) | (refine Exists.intro () (And.intro (by unfold oddF; omega) ?_); (repeat' (first | exact trivial | exact Or.inl rfl | exact Or.inr (Or.inl ⟨rfl, _, rfl⟩) | exact Or.inr (Or.inr (Or.inr ⟨_, _, _, rfl, rfl⟩)) | refine And.intro ?_ ?_)))
  intro _ k4
  have hk : ¬ kindBad a := by unfold kindBad; grind
  refine VCs.cut (by first | exact Γ_good | exact Ctx.good_kp Γ_good _) Unit (fun _ => ¬ (4000 < a.s.length ∨ 200 < a.l.length ∨ 200 < a.e.length)) (fun _ => ⟨[(1, .pt 1 0), (2, .i .i64 0)], [(1, encVal a)]⟩) ?_ ?_
  · (repeat' (first | (refine And.intro (fun h => ?_) (fun h => ?_) <;> (try simp [-List.getD_eq_getElem?_getD, -Int.pred_toNat] at h) <;> (try (exfalso; first | omega | contradiction))) | (refine And.intro (rng64 (by omega) (by omega)) ?_) | (refine And.intro ⟨by omega, by omega⟩ ?_) | (refine And.intro ⟨by omega, by omega, by omega⟩ ?_) | (intro _)))
    all_goals first | (exact congrArg (AV.i .i64) (docF_large hk (by omega))) | (refine Exists.intro () (And.intro (by omega) ?_); (repeat' (first | exact trivial | exact Or.inl rfl | exact Or.inr (Or.inl ⟨rfl, _, rfl⟩) | exact Or.inr (Or.inr (Or.inr ⟨_, _, _, rfl, rfl⟩)) | refine And.intro ?_ ?_)))
  intro _ k5
  refine VCs.cut (by first | exact Γ_good | exact Ctx.good_kp Γ_good _) Unit (fun _ => ¬ 0 ≤ bad a.s) (fun _ => ⟨[(1, .pt 1 0), (2, .i .i64 0)], [(1, encVal a)]⟩) ?_ ?_
  · refine Or.inl (Exists.intro _ (And.intro (s_BadPlace a.s) ?_))
    (repeat' (first | (refine And.intro (fun h => ?_) (fun h => ?_) <;> (try simp [-List.getD_eq_getElem?_getD, -Int.pred_toNat] at h) <;> (try (exfalso; first | omega | contradiction))) | (refine And.intro (rng64 (by omega) (by omega)) ?_) | (refine And.intro ⟨by omega, by omega⟩ ?_) | (refine And.intro ⟨by omega, by omega, by omega⟩ ?_) | (intro _)))
    all_goals first | (exact congrArg (AV.i .i64) (docF_text hk k5 (by omega))) | (refine Exists.intro () (And.intro (by omega) ?_); (repeat' (first | exact trivial | exact Or.inl rfl | exact Or.inr (Or.inl ⟨rfl, _, rfl⟩) | exact Or.inr (Or.inr (Or.inr ⟨_, _, _, rfl, rfl⟩)) | refine And.intro ?_ ?_)))
  intro _ k6
  refine VCs.of_vc (by first | exact Γ_good | exact Ctx.good_kp Γ_good _) ?_
  rw [docF_ent hk k5 k6]
  intro hl
  refine Exists.intro [] (Exists.intro [] (Exists.intro [] (Exists.intro Nat (Exists.intro (fun i => i ≤ a.e.length ∧ entF none a.e = entF (keyAt a.e i) (a.e.drop i)) (Exists.intro (fun i => ⟨[(6, .s (lastK a.e i)), (120, .rd .ent a.e), (121, .i .i64 a.e.length), (122, .i .i64 i)], []⟩) (Exists.intro (fun i => a.e.length - i) (Exists.intro 0 (And.intro ⟨Nat.zero_le _, rfl⟩ (And.intro ?_ ?_)))))))))
  · (repeat' (first | exact trivial | exact Or.inl rfl | exact Or.inr (Or.inl ⟨rfl, _, rfl⟩) | exact Or.inr (Or.inr (Or.inr ⟨_, _, _, rfl, rfl⟩)) | refine And.intro ?_ ?_))
  · rintro i ⟨hi, he⟩
    refine And.intro (fun hz => ?_) (fun hz => ?_)
    · have hi := ltD hz
      have hg := getI (τ := .ent) hi
      refine And.intro ⟨by omega, by omega⟩ ?_
      rw [hg]
      intro _
      refine And.intro (fun hq => ?_) (fun hq => ?_)
      · have hk := keyF_large (p := keyAt a.e i) (k := a.e[i].1) (by have := of_decide_eq_true hq; omega)
        rw [entF_stop hi (by rw [hk]; decide), hk] at he
        exact congrArg (AV.i .i64) he.symm
      have n1 : ¬ 100 < a.e[i].1.length := by have := of_decide_eq_false hq; omega
      refine Or.inl (Exists.intro _ (And.intro (s_BadPlace a.e[i].1) ?_))
      refine And.intro (fun hq => ?_) (fun hq => ?_)
      · have hk := keyF_text (p := keyAt a.e i) (k := a.e[i].1) n1 (of_decide_eq_true hq)
        rw [entF_stop hi (by rw [hk]; decide), hk] at he
        exact congrArg (AV.i .i64) he.symm
      have n2 : ¬ 0 ≤ bad a.e[i].1 := of_decide_eq_false hq
      have hlen := len_le hl
      refine And.intro (fun hq => ?_) (fun hq => ?_)
      · have h0 : 0 < i := by have := of_decide_eq_true hq; omega
        refine And.intro (fun hq => ?_) (fun hq => ?_)
        · have hk := keyF_order (e := a.e) n1 n2 h0 (by simpa using (show (!Op.bytesLess (lastK a.e i) a.e[i].1) = true from hq))
          rw [entF_stop hi (by rw [hk]; decide), hk] at he
          exact congrArg (AV.i .i64) he.symm
        · have hk := keyF_ok (e := a.e) n1 n2 (fun _ => by simpa using (show (!Op.bytesLess (lastK a.e i) a.e[i].1) = false from hq))
          rw [entF_go hi hk] at he
          (refine And.intro (rng64 (by omega) (by omega)) ?_)
          refine Exists.intro [] (Exists.intro (i + 1) (And.intro ⟨hi, he⟩ (And.intro ?_ ?_)))
          · (repeat' (first | exact trivial | exact Or.inl rfl | exact Or.inl ((congrArg AV.s (lastK_succ hi).symm)) | refine And.intro ?_ ?_))
          · show a.e.length - (i + 1) < a.e.length - i
            omega
      · have h0 : ¬ 0 < i := by have := of_decide_eq_false hq; omega
        refine And.intro (fun hq => Bool.noConfusion hq) (fun _ => ?_)
        have hk := keyF_ok (e := a.e) n1 n2 (fun h => absurd h h0)
        rw [entF_go hi hk] at he
        (refine And.intro (rng64 (by omega) (by omega)) ?_)
        refine Exists.intro [] (Exists.intro (i + 1) (And.intro ⟨hi, he⟩ (And.intro ?_ ?_)))
        · (repeat' (first | exact trivial | exact Or.inl rfl | exact Or.inl ((congrArg AV.s (lastK_succ hi).symm)) | refine And.intro ?_ ?_))
        · show a.e.length - (i + 1) < a.e.length - i
          omega
    · have hi := geD hi hz
      rw [entF_end _ (by omega)] at he
      exact congrArg (AV.i .i64) he.symm
theorem s_oneFault (a : Val) (h0 : 0 ≤ a.f) (h1 : a.f ≤ 18446744073709551615) : PSpec Tryd.prog 59 [.agg (encVal a)] (.i .i64 (docF a)) :=
  pspec_of_VCs Γ_good Tryd.func59 rfl Tryd.call59 Tryd.results59 Tryd.ntmps59 (Nat.le_of_ble_eq_true rfl) (w_oneFault a h0 h1) Γ_good
end
end Go.Proofs.YtdcdmojbkmedpaaDoor
end
