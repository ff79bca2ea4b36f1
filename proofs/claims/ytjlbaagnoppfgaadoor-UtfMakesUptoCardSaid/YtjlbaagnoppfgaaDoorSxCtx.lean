/-
  The table of types of this seat's translation, for the engine.
-/
import Derived.Test.YtjlbaagnoppfgaaDoorSxSpec
import Derived.Test.YtjlbaagnoppfgaaDoorRows
namespace Go.Proofs.YtjlbaagnoppfgaaDoor
open Go.SX
set_option maxRecDepth 100000
def ti2 : TI := ⟨1, 8, [.int .i64 0], .int .i64, some .i64, [], none⟩
theorem ti2_ok : ti2.ok Tryd.prog 2 := ⟨⟨Tryd.t2, .int .i64 0, by kernel_rfl, rfl, rfl, rfl, rfl⟩, ⟨_, Tryd.underlying2, rfl⟩, rfl⟩
def ti3 : TI := ⟨1, 8, [.int .i64 0], .int .i64, some .int, [], none⟩
theorem ti3_ok : ti3.ok Tryd.prog 3 := ⟨⟨Tryd.t3, .int .i64 0, by kernel_rfl, rfl, rfl, rfl, rfl⟩, ⟨_, Tryd.underlying3, rfl⟩, rfl⟩
def ti4 : TI := ⟨1, 1, [.bool false], .bool, some .bool, [], none⟩
theorem ti4_ok : ti4.ok Tryd.prog 4 := ⟨⟨Tryd.t4, .bool false, by kernel_rfl, rfl, rfl, rfl, rfl⟩, ⟨_, Tryd.underlying4, rfl⟩, rfl⟩
def ti5 : TI := ⟨1, 1, [.int .u8 0], .int .u8, some .u8, [], none⟩
theorem ti5_ok : ti5.ok Tryd.prog 5 := ⟨⟨Tryd.t5, .int .u8 0, by kernel_rfl, rfl, rfl, rfl, rfl⟩, ⟨_, Tryd.underlying5, rfl⟩, rfl⟩
def ti6 : TI := ⟨1, 1, [.int .u8 0], .int .u8, none, [], none⟩
theorem ti6_ok : ti6.ok Tryd.prog 6 := ⟨⟨Tryd.t6, .int .u8 0, by kernel_rfl, rfl, rfl, rfl, rfl⟩, ⟨_, Tryd.underlying6, rfl⟩, rfl⟩
def ti7 : TI := ⟨4, 24, [.int .i64 0, .int .i64 0, .bool false, .int .u8 0], .struct [(0, 1), (1, 1), (2, 1), (3, 1)], none, [], none⟩
theorem ti7_ok : ti7.ok Tryd.prog 7 := ⟨⟨Tryd.t7, .agg #[.int .i64 0, .int .i64 0, .bool false, .int .u8 0], by kernel_rfl, rfl, rfl, rfl, rfl⟩, ⟨_, Tryd.underlying7, ⟨_, rfl, by kernel_rfl, by kernel_rfl⟩⟩, rfl⟩
def ti8 : TI := ⟨4, 24, [.int .i64 0, .int .i64 0, .bool false, .int .u8 0], .struct [(0, 1), (1, 1), (2, 1), (3, 1)], none, [], none⟩
theorem ti8_ok : ti8.ok Tryd.prog 8 := ⟨⟨Tryd.t8, .agg #[.int .i64 0, .int .i64 0, .bool false, .int .u8 0], by kernel_rfl, rfl, rfl, rfl, rfl⟩, ⟨_, Tryd.underlying8, ⟨_, rfl, by kernel_rfl, by kernel_rfl⟩⟩, rfl⟩
def ti9 : TI := ⟨1, 16, [.string ⟨#[]⟩], .str, some .str, [], none⟩
theorem ti9_ok : ti9.ok Tryd.prog 9 := ⟨⟨Tryd.t9, .string ⟨#[]⟩, by kernel_rfl, rfl, rfl, rfl, rfl⟩, ⟨_, Tryd.underlying9, rfl⟩, rfl⟩
def ti10 : TI := ⟨1, 16, [.string ⟨#[]⟩], .str, none, [], none⟩
theorem ti10_ok : ti10.ok Tryd.prog 10 := ⟨⟨Tryd.t10, .string ⟨#[]⟩, by kernel_rfl, rfl, rfl, rfl, rfl⟩, ⟨_, Tryd.underlying10, rfl⟩, rfl⟩
def ti11 : TI := ⟨1, 16, [.string ⟨#[]⟩], .str, none, [], none⟩
theorem ti11_ok : ti11.ok Tryd.prog 11 := ⟨⟨Tryd.t11, .string ⟨#[]⟩, by kernel_rfl, rfl, rfl, rfl, rfl⟩, ⟨_, Tryd.underlying11, rfl⟩, rfl⟩
def ti12 : TI := ⟨1, 8, [.int .u64 0], .int .u64, none, [], none⟩
theorem ti12_ok : ti12.ok Tryd.prog 12 := ⟨⟨Tryd.t12, .int .u64 0, by kernel_rfl, rfl, rfl, rfl, rfl⟩, ⟨_, Tryd.underlying12, rfl⟩, rfl⟩
def ti13 : TI := ⟨2, 24, [.string ⟨#[]⟩, .int .u64 0], .struct [(0, 1), (1, 1)], none, [], none⟩
theorem ti13_ok : ti13.ok Tryd.prog 13 := ⟨⟨Tryd.t13, .agg #[.string ⟨#[]⟩, .int .u64 0], by kernel_rfl, rfl, rfl, rfl, rfl⟩, ⟨_, Tryd.underlying13, ⟨_, rfl, by kernel_rfl, by kernel_rfl⟩⟩, rfl⟩
def ti14 : TI := ⟨2, 24, [.string ⟨#[]⟩, .int .u64 0], .struct [(0, 1), (1, 1)], none, [], none⟩
theorem ti14_ok : ti14.ok Tryd.prog 14 := ⟨⟨Tryd.t14, .agg #[.string ⟨#[]⟩, .int .u64 0], by kernel_rfl, rfl, rfl, rfl, rfl⟩, ⟨_, Tryd.underlying14, ⟨_, rfl, by kernel_rfl, by kernel_rfl⟩⟩, rfl⟩
def ti15 : TI := ⟨1, 8, [.pointer none], .other, none, [], none⟩
theorem ti15_ok : ti15.ok Tryd.prog 15 := ⟨⟨Tryd.t15, .pointer none, by kernel_rfl, rfl, rfl, rfl, rfl⟩, ⟨_, Tryd.underlying15, ⟨fun _ h => (nomatch h), fun _ _ h => (nomatch h)⟩⟩, rfl⟩
def ti16 : TI := ⟨1, 8, [.pointer none], .other, none, [], none⟩
theorem ti16_ok : ti16.ok Tryd.prog 16 := ⟨⟨Tryd.t16, .pointer none, by kernel_rfl, rfl, rfl, rfl, rfl⟩, ⟨_, Tryd.underlying16, ⟨fun _ h => (nomatch h), fun _ _ h => (nomatch h)⟩⟩, rfl⟩
def ti17 : TI := ⟨1, 8, [.pointer none], .other, none, [], none⟩
theorem ti17_ok : ti17.ok Tryd.prog 17 := ⟨⟨Tryd.t17, .pointer none, by kernel_rfl, rfl, rfl, rfl, rfl⟩, ⟨_, Tryd.underlying17, ⟨fun _ h => (nomatch h), fun _ _ h => (nomatch h)⟩⟩, rfl⟩
def ti18 : TI := ⟨1, 8, [.pointer none], .struct [(0, 1)], none, [], none⟩
theorem ti18_ok : ti18.ok Tryd.prog 18 := ⟨⟨Tryd.t18, .agg #[.pointer none], by kernel_rfl, rfl, rfl, rfl, rfl⟩, ⟨_, Tryd.underlying18, ⟨_, rfl, by kernel_rfl, by kernel_rfl⟩⟩, rfl⟩
def ti19 : TI := ⟨1, 8, [.pointer none], .struct [(0, 1)], none, [], none⟩
theorem ti19_ok : ti19.ok Tryd.prog 19 := ⟨⟨Tryd.t19, .agg #[.pointer none], by kernel_rfl, rfl, rfl, rfl, rfl⟩, ⟨_, Tryd.underlying19, ⟨_, rfl, by kernel_rfl, by kernel_rfl⟩⟩, rfl⟩
def ti21 : TI := ⟨1, 4, [.int .i32 0], .int .i32, some .rune, [], none⟩
theorem ti21_ok : ti21.ok Tryd.prog 21 := ⟨⟨Tryd.t21, .int .i32 0, by kernel_rfl, rfl, rfl, rfl, rfl⟩, ⟨_, Tryd.underlying21, rfl⟩, rfl⟩
def ti26 : TI := ⟨1, 24, [.slice none 0 0], .slice 21, none, [], none⟩
theorem ti26_ok : ti26.ok Tryd.prog 26 := ⟨⟨Tryd.t26, .slice none 0 0, by kernel_rfl, rfl, rfl, rfl, rfl⟩, ⟨_, Tryd.underlying26, rfl⟩, rfl⟩
def ti27 : TI := ⟨1, 8, [.int .i64 0], .int .i64, some .errno, [], none⟩
theorem ti27_ok : ti27.ok Tryd.prog 27 := ⟨⟨Tryd.t27, .int .i64 0, by kernel_rfl, rfl, rfl, rfl, rfl⟩, ⟨_, Tryd.underlying27, rfl⟩, rfl⟩
def ti35 : TI := ⟨1, 8, [.int .u64 0], .int .u64, some .u64, [], none⟩
theorem ti35_ok : ti35.ok Tryd.prog 35 := ⟨⟨Tryd.t35, .int .u64 0, by kernel_rfl, rfl, rfl, rfl, rfl⟩, ⟨_, Tryd.underlying35, rfl⟩, rfl⟩
def ti36 : TI := ⟨1, 24, [.slice none 0 0], .slice 39, none, [], none⟩
theorem ti36_ok : ti36.ok Tryd.prog 36 := ⟨⟨Tryd.t36, .slice none 0 0, by kernel_rfl, rfl, rfl, rfl, rfl⟩, ⟨_, Tryd.underlying36, rfl⟩, rfl⟩
def ti37 : TI := ⟨1, 24, [.slice none 0 0], .slice 62, none, [], none⟩
theorem ti37_ok : ti37.ok Tryd.prog 37 := ⟨⟨Tryd.t37, .slice none 0 0, by kernel_rfl, rfl, rfl, rfl, rfl⟩, ⟨_, Tryd.underlying37, rfl⟩, rfl⟩
def ti38 : TI := ⟨6, 88, [.int .i64 0, .int .i64 0, .int .u64 0, .string ⟨#[]⟩, .slice none 0 0, .slice none 0 0], .struct [(0, 1), (1, 1), (2, 1), (3, 1), (4, 1), (5, 1)], none, [], none⟩
theorem ti38_ok : ti38.ok Tryd.prog 38 := ⟨⟨Tryd.t38, .agg #[.int .i64 0, .int .i64 0, .int .u64 0, .string ⟨#[]⟩, .slice none 0 0, .slice none 0 0], by kernel_rfl, rfl, rfl, rfl, rfl⟩, ⟨_, Tryd.underlying38, ⟨_, rfl, by kernel_rfl, by kernel_rfl⟩⟩, rfl⟩
def ti39 : TI := ⟨6, 88, [.int .i64 0, .int .i64 0, .int .u64 0, .string ⟨#[]⟩, .slice none 0 0, .slice none 0 0], .struct [(0, 1), (1, 1), (2, 1), (3, 1), (4, 1), (5, 1)], some .val, [], none⟩
theorem ti39_ok : ti39.ok Tryd.prog 39 := ⟨⟨Tryd.t39, .agg #[.int .i64 0, .int .i64 0, .int .u64 0, .string ⟨#[]⟩, .slice none 0 0, .slice none 0 0], by kernel_rfl, rfl, rfl, rfl, rfl⟩, ⟨_, Tryd.underlying39, ⟨_, rfl, by kernel_rfl, by kernel_rfl⟩⟩, rfl⟩
def ti51 : TI := ⟨1, 24, [.slice none 0 0], .slice 79, some .psteps, [], none⟩
theorem ti51_ok : ti51.ok Tryd.prog 51 := ⟨⟨Tryd.t51, .slice none 0 0, by kernel_rfl, rfl, rfl, rfl, rfl⟩, ⟨_, Tryd.underlying51, rfl⟩, rfl⟩
def ti55 : TI := ⟨1, 24, [.slice none 0 0], .slice 51, none, [], none⟩
theorem ti55_ok : ti55.ok Tryd.prog 55 := ⟨⟨Tryd.t55, .slice none 0 0, by kernel_rfl, rfl, rfl, rfl, rfl⟩, ⟨_, Tryd.underlying55, rfl⟩, rfl⟩
def ti60 : TI := ⟨1, 24, [.slice none 0 0], .slice 5, none, [], none⟩
theorem ti60_ok : ti60.ok Tryd.prog 60 := ⟨⟨Tryd.t60, .slice none 0 0, by kernel_rfl, rfl, rfl, rfl, rfl⟩, ⟨_, Tryd.underlying60, rfl⟩, rfl⟩
def ti61 : TI := ⟨7, 104, [.string ⟨#[]⟩, .int .i64 0, .int .i64 0, .int .u64 0, .string ⟨#[]⟩, .slice none 0 0, .slice none 0 0], .struct [(0, 1), (1, 6)], none, [], none⟩
theorem ti61_ok : ti61.ok Tryd.prog 61 := ⟨⟨Tryd.t61, .agg #[.string ⟨#[]⟩, .int .i64 0, .int .i64 0, .int .u64 0, .string ⟨#[]⟩, .slice none 0 0, .slice none 0 0], by kernel_rfl, rfl, rfl, rfl, rfl⟩, ⟨_, Tryd.underlying61, ⟨_, rfl, by kernel_rfl, by kernel_rfl⟩⟩, rfl⟩
def ti62 : TI := ⟨7, 104, [.string ⟨#[]⟩, .int .i64 0, .int .i64 0, .int .u64 0, .string ⟨#[]⟩, .slice none 0 0, .slice none 0 0], .struct [(0, 1), (1, 6)], some .ent, [], none⟩
theorem ti62_ok : ti62.ok Tryd.prog 62 := ⟨⟨Tryd.t62, .agg #[.string ⟨#[]⟩, .int .i64 0, .int .i64 0, .int .u64 0, .string ⟨#[]⟩, .slice none 0 0, .slice none 0 0], by kernel_rfl, rfl, rfl, rfl, rfl⟩, ⟨_, Tryd.underlying62, ⟨_, rfl, by kernel_rfl, by kernel_rfl⟩⟩, rfl⟩
def ti64 : TI := ⟨1, 8, [.pointer none], .other, none, [], none⟩
theorem ti64_ok : ti64.ok Tryd.prog 64 := ⟨⟨Tryd.t64, .pointer none, by kernel_rfl, rfl, rfl, rfl, rfl⟩, ⟨_, Tryd.underlying64, ⟨fun _ h => (nomatch h), fun _ _ h => (nomatch h)⟩⟩, rfl⟩
def ti65 : TI := ⟨7, 96, [.int .i64 0, .int .i64 0, .int .u64 0, .string ⟨#[]⟩, .slice none 0 0, .slice none 0 0, .int .i64 0], .struct [(0, 6), (6, 1)], none, [], none⟩
theorem ti65_ok : ti65.ok Tryd.prog 65 := ⟨⟨Tryd.t65, .agg #[.int .i64 0, .int .i64 0, .int .u64 0, .string ⟨#[]⟩, .slice none 0 0, .slice none 0 0, .int .i64 0], by kernel_rfl, rfl, rfl, rfl, rfl⟩, ⟨_, Tryd.underlying65, ⟨_, rfl, by kernel_rfl, by kernel_rfl⟩⟩, rfl⟩
def ti66 : TI := ⟨7, 96, [.int .i64 0, .int .i64 0, .int .u64 0, .string ⟨#[]⟩, .slice none 0 0, .slice none 0 0, .int .i64 0], .struct [(0, 6), (6, 1)], some .vplace, [], none⟩
theorem ti66_ok : ti66.ok Tryd.prog 66 := ⟨⟨Tryd.t66, .agg #[.int .i64 0, .int .i64 0, .int .u64 0, .string ⟨#[]⟩, .slice none 0 0, .slice none 0 0, .int .i64 0], by kernel_rfl, rfl, rfl, rfl, rfl⟩, ⟨_, Tryd.underlying66, ⟨_, rfl, by kernel_rfl, by kernel_rfl⟩⟩, rfl⟩
def ti67 : TI := ⟨1, 24, [.slice none 0 0], .slice 66, none, [], none⟩
theorem ti67_ok : ti67.ok Tryd.prog 67 := ⟨⟨Tryd.t67, .slice none 0 0, by kernel_rfl, rfl, rfl, rfl, rfl⟩, ⟨_, Tryd.underlying67, rfl⟩, rfl⟩
def ti70 : TI := ⟨1, 8, [.pointer none], .other, none, [], none⟩
theorem ti70_ok : ti70.ok Tryd.prog 70 := ⟨⟨Tryd.t70, .pointer none, by kernel_rfl, rfl, rfl, rfl, rfl⟩, ⟨_, Tryd.underlying70, ⟨fun _ h => (nomatch h), fun _ _ h => (nomatch h)⟩⟩, rfl⟩
def ti71 : TI := ⟨2, 32, [.pointer none, .slice none 0 0], .struct [(0, 1), (1, 1)], none, [], none⟩
theorem ti71_ok : ti71.ok Tryd.prog 71 := ⟨⟨Tryd.t71, .agg #[.pointer none, .slice none 0 0], by kernel_rfl, rfl, rfl, rfl, rfl⟩, ⟨_, Tryd.underlying71, ⟨_, rfl, by kernel_rfl, by kernel_rfl⟩⟩, rfl⟩
def ti72 : TI := ⟨2, 32, [.pointer none, .slice none 0 0], .struct [(0, 1), (1, 1)], none, [], some 5⟩
theorem ti72_ok : ti72.ok Tryd.prog 72 := ⟨⟨Tryd.t72, .agg #[.pointer none, .slice none 0 0], by kernel_rfl, rfl, rfl, rfl, rfl⟩, ⟨_, Tryd.underlying72, ⟨_, rfl, by kernel_rfl, by kernel_rfl⟩⟩, rfl⟩
def ti78 : TI := ⟨2, 24, [.string ⟨#[]⟩, .int .i64 0], .struct [(0, 1), (1, 1)], none, [], none⟩
theorem ti78_ok : ti78.ok Tryd.prog 78 := ⟨⟨Tryd.t78, .agg #[.string ⟨#[]⟩, .int .i64 0], by kernel_rfl, rfl, rfl, rfl, rfl⟩, ⟨_, Tryd.underlying78, ⟨_, rfl, by kernel_rfl, by kernel_rfl⟩⟩, rfl⟩
def ti79 : TI := ⟨2, 24, [.string ⟨#[]⟩, .int .i64 0], .struct [(0, 1), (1, 1)], some .pstep, [.str, .int], none⟩
theorem ti79_ok : ti79.ok Tryd.prog 79 := ⟨⟨Tryd.t79, .agg #[.string ⟨#[]⟩, .int .i64 0], by kernel_rfl, rfl, rfl, rfl, rfl⟩, ⟨_, Tryd.underlying79, ⟨_, rfl, by kernel_rfl, by kernel_rfl⟩⟩, by kernel_rfl⟩
def ti91 : TI := ⟨1, 8, [.pointer none], .other, none, [], none⟩
theorem ti91_ok : ti91.ok Tryd.prog 91 := ⟨⟨Tryd.t91, .pointer none, by kernel_rfl, rfl, rfl, rfl, rfl⟩, ⟨_, Tryd.underlying91, ⟨fun _ h => (nomatch h), fun _ _ h => (nomatch h)⟩⟩, rfl⟩
def ti94 : TI := ⟨1, 8, [.int .u64 0], .int .u64, none, [], none⟩
theorem ti94_ok : ti94.ok Tryd.prog 94 := ⟨⟨Tryd.t94, .int .u64 0, by kernel_rfl, rfl, rfl, rfl, rfl⟩, ⟨_, Tryd.underlying94, rfl⟩, rfl⟩
def ti95 : TI := ⟨256, 256, [.int .u8 0, .int .u8 0, .int .u8 0, .int .u8 0, .int .u8 0, .int .u8 0, .int .u8 0, .int .u8 0, .int .u8 0, .int .u8 0, .int .u8 0, .int .u8 0, .int .u8 0, .int .u8 0, .int .u8 0, .int .u8 0, .int .u8 0, .int .u8 0, .int .u8 0, .int .u8 0, .int .u8 0, .int .u8 0, .int .u8 0, .int .u8 0, .int .u8 0, .int .u8 0, .int .u8 0, .int .u8 0, .int .u8 0, .int .u8 0, .int .u8 0, .int .u8 0, .int .u8 0, .int .u8 0, .int .u8 0, .int .u8 0, .int .u8 0, .int .u8 0, .int .u8 0, .int .u8 0, .int .u8 0, .int .u8 0, .int .u8 0, .int .u8 0, .int .u8 0, .int .u8 0, .int .u8 0, .int .u8 0, .int .u8 0, .int .u8 0, .int .u8 0, .int .u8 0, .int .u8 0, .int .u8 0, .int .u8 0, .int .u8 0, .int .u8 0, .int .u8 0, .int .u8 0, .int .u8 0, .int .u8 0, .int .u8 0, .int .u8 0, .int .u8 0, .int .u8 0, .int .u8 0, .int .u8 0, .int .u8 0, .int .u8 0, .int .u8 0, .int .u8 0, .int .u8 0, .int .u8 0, .int .u8 0, .int .u8 0, .int .u8 0, .int .u8 0, .int .u8 0, .int .u8 0, .int .u8 0, .int .u8 0, .int .u8 0, .int .u8 0, .int .u8 0, .int .u8 0, .int .u8 0, .int .u8 0, .int .u8 0, .int .u8 0, .int .u8 0, .int .u8 0, .int .u8 0, .int .u8 0, .int .u8 0, .int .u8 0, .int .u8 0, .int .u8 0, .int .u8 0, .int .u8 0, .int .u8 0, .int .u8 0, .int .u8 0, .int .u8 0, .int .u8 0, .int .u8 0, .int .u8 0, .int .u8 0, .int .u8 0, .int .u8 0, .int .u8 0, .int .u8 0, .int .u8 0, .int .u8 0, .int .u8 0, .int .u8 0, .int .u8 0, .int .u8 0, .int .u8 0, .int .u8 0, .int .u8 0, .int .u8 0, .int .u8 0, .int .u8 0, .int .u8 0, .int .u8 0, .int .u8 0, .int .u8 0, .int .u8 0, .int .u8 0, .int .u8 0, .int .u8 0, .int .u8 0, .int .u8 0, .int .u8 0, .int .u8 0, .int .u8 0, .int .u8 0, .int .u8 0, .int .u8 0, .int .u8 0, .int .u8 0, .int .u8 0, .int .u8 0, .int .u8 0, .int .u8 0, .int .u8 0, .int .u8 0, .int .u8 0, .int .u8 0, .int .u8 0, .int .u8 0, .int .u8 0, .int .u8 0, .int .u8 0, .int .u8 0, .int .u8 0, .int .u8 0, .int .u8 0, .int .u8 0, .int .u8 0, .int .u8 0, .int .u8 0, .int .u8 0, .int .u8 0, .int .u8 0, .int .u8 0, .int .u8 0, .int .u8 0, .int .u8 0, .int .u8 0, .int .u8 0, .int .u8 0, .int .u8 0, .int .u8 0, .int .u8 0, .int .u8 0, .int .u8 0, .int .u8 0, .int .u8 0, .int .u8 0, .int .u8 0, .int .u8 0, .int .u8 0, .int .u8 0, .int .u8 0, .int .u8 0, .int .u8 0, .int .u8 0, .int .u8 0, .int .u8 0, .int .u8 0, .int .u8 0, .int .u8 0, .int .u8 0, .int .u8 0, .int .u8 0, .int .u8 0, .int .u8 0, .int .u8 0, .int .u8 0, .int .u8 0, .int .u8 0, .int .u8 0, .int .u8 0, .int .u8 0, .int .u8 0, .int .u8 0, .int .u8 0, .int .u8 0, .int .u8 0, .int .u8 0, .int .u8 0, .int .u8 0, .int .u8 0, .int .u8 0, .int .u8 0, .int .u8 0, .int .u8 0, .int .u8 0, .int .u8 0, .int .u8 0, .int .u8 0, .int .u8 0, .int .u8 0, .int .u8 0, .int .u8 0, .int .u8 0, .int .u8 0, .int .u8 0, .int .u8 0, .int .u8 0, .int .u8 0, .int .u8 0, .int .u8 0, .int .u8 0, .int .u8 0, .int .u8 0, .int .u8 0, .int .u8 0, .int .u8 0, .int .u8 0, .int .u8 0, .int .u8 0, .int .u8 0, .int .u8 0, .int .u8 0, .int .u8 0, .int .u8 0, .int .u8 0, .int .u8 0, .int .u8 0, .int .u8 0, .int .u8 0, .int .u8 0, .int .u8 0, .int .u8 0], .arr 256 5, none, [], none⟩
theorem ti95_ok : ti95.ok Tryd.prog 95 := ⟨⟨Tryd.t95, .agg #[.int .u8 0, .int .u8 0, .int .u8 0, .int .u8 0, .int .u8 0, .int .u8 0, .int .u8 0, .int .u8 0, .int .u8 0, .int .u8 0, .int .u8 0, .int .u8 0, .int .u8 0, .int .u8 0, .int .u8 0, .int .u8 0, .int .u8 0, .int .u8 0, .int .u8 0, .int .u8 0, .int .u8 0, .int .u8 0, .int .u8 0, .int .u8 0, .int .u8 0, .int .u8 0, .int .u8 0, .int .u8 0, .int .u8 0, .int .u8 0, .int .u8 0, .int .u8 0, .int .u8 0, .int .u8 0, .int .u8 0, .int .u8 0, .int .u8 0, .int .u8 0, .int .u8 0, .int .u8 0, .int .u8 0, .int .u8 0, .int .u8 0, .int .u8 0, .int .u8 0, .int .u8 0, .int .u8 0, .int .u8 0, .int .u8 0, .int .u8 0, .int .u8 0, .int .u8 0, .int .u8 0, .int .u8 0, .int .u8 0, .int .u8 0, .int .u8 0, .int .u8 0, .int .u8 0, .int .u8 0, .int .u8 0, .int .u8 0, .int .u8 0, .int .u8 0, .int .u8 0, .int .u8 0, .int .u8 0, .int .u8 0, .int .u8 0, .int .u8 0, .int .u8 0, .int .u8 0, .int .u8 0, .int .u8 0, .int .u8 0, .int .u8 0, .int .u8 0, .int .u8 0, .int .u8 0, .int .u8 0, .int .u8 0, .int .u8 0, .int .u8 0, .int .u8 0, .int .u8 0, .int .u8 0, .int .u8 0, .int .u8 0, .int .u8 0, .int .u8 0, .int .u8 0, .int .u8 0, .int .u8 0, .int .u8 0, .int .u8 0, .int .u8 0, .int .u8 0, .int .u8 0, .int .u8 0, .int .u8 0, .int .u8 0, .int .u8 0, .int .u8 0, .int .u8 0, .int .u8 0, .int .u8 0, .int .u8 0, .int .u8 0, .int .u8 0, .int .u8 0, .int .u8 0, .int .u8 0, .int .u8 0, .int .u8 0, .int .u8 0, .int .u8 0, .int .u8 0, .int .u8 0, .int .u8 0, .int .u8 0, .int .u8 0, .int .u8 0, .int .u8 0, .int .u8 0, .int .u8 0, .int .u8 0, .int .u8 0, .int .u8 0, .int .u8 0, .int .u8 0, .int .u8 0, .int .u8 0, .int .u8 0, .int .u8 0, .int .u8 0, .int .u8 0, .int .u8 0, .int .u8 0, .int .u8 0, .int .u8 0, .int .u8 0, .int .u8 0, .int .u8 0, .int .u8 0, .int .u8 0, .int .u8 0, .int .u8 0, .int .u8 0, .int .u8 0, .int .u8 0, .int .u8 0, .int .u8 0, .int .u8 0, .int .u8 0, .int .u8 0, .int .u8 0, .int .u8 0, .int .u8 0, .int .u8 0, .int .u8 0, .int .u8 0, .int .u8 0, .int .u8 0, .int .u8 0, .int .u8 0, .int .u8 0, .int .u8 0, .int .u8 0, .int .u8 0, .int .u8 0, .int .u8 0, .int .u8 0, .int .u8 0, .int .u8 0, .int .u8 0, .int .u8 0, .int .u8 0, .int .u8 0, .int .u8 0, .int .u8 0, .int .u8 0, .int .u8 0, .int .u8 0, .int .u8 0, .int .u8 0, .int .u8 0, .int .u8 0, .int .u8 0, .int .u8 0, .int .u8 0, .int .u8 0, .int .u8 0, .int .u8 0, .int .u8 0, .int .u8 0, .int .u8 0, .int .u8 0, .int .u8 0, .int .u8 0, .int .u8 0, .int .u8 0, .int .u8 0, .int .u8 0, .int .u8 0, .int .u8 0, .int .u8 0, .int .u8 0, .int .u8 0, .int .u8 0, .int .u8 0, .int .u8 0, .int .u8 0, .int .u8 0, .int .u8 0, .int .u8 0, .int .u8 0, .int .u8 0, .int .u8 0, .int .u8 0, .int .u8 0, .int .u8 0, .int .u8 0, .int .u8 0, .int .u8 0, .int .u8 0, .int .u8 0, .int .u8 0, .int .u8 0, .int .u8 0, .int .u8 0, .int .u8 0, .int .u8 0, .int .u8 0, .int .u8 0, .int .u8 0, .int .u8 0, .int .u8 0, .int .u8 0, .int .u8 0, .int .u8 0, .int .u8 0, .int .u8 0, .int .u8 0, .int .u8 0, .int .u8 0, .int .u8 0, .int .u8 0, .int .u8 0, .int .u8 0, .int .u8 0, .int .u8 0, .int .u8 0, .int .u8 0, .int .u8 0, .int .u8 0, .int .u8 0], by kernel_rfl, rfl, rfl, rfl, rfl⟩, ⟨_, Tryd.underlying95, rfl⟩, rfl⟩
def ti96 : TI := ⟨2, 2, [.int .u8 0, .int .u8 0], .struct [(0, 1), (1, 1)], none, [], none⟩
theorem ti96_ok : ti96.ok Tryd.prog 96 := ⟨⟨Tryd.t96, .agg #[.int .u8 0, .int .u8 0], by kernel_rfl, rfl, rfl, rfl, rfl⟩, ⟨_, Tryd.underlying96, ⟨_, rfl, by kernel_rfl, by kernel_rfl⟩⟩, rfl⟩
def ti97 : TI := ⟨2, 2, [.int .u8 0, .int .u8 0], .struct [(0, 1), (1, 1)], none, [], none⟩
theorem ti97_ok : ti97.ok Tryd.prog 97 := ⟨⟨Tryd.t97, .agg #[.int .u8 0, .int .u8 0], by kernel_rfl, rfl, rfl, rfl, rfl⟩, ⟨_, Tryd.underlying97, ⟨_, rfl, by kernel_rfl, by kernel_rfl⟩⟩, rfl⟩
def ti98 : TI := ⟨32, 32, [.int .u8 0, .int .u8 0, .int .u8 0, .int .u8 0, .int .u8 0, .int .u8 0, .int .u8 0, .int .u8 0, .int .u8 0, .int .u8 0, .int .u8 0, .int .u8 0, .int .u8 0, .int .u8 0, .int .u8 0, .int .u8 0, .int .u8 0, .int .u8 0, .int .u8 0, .int .u8 0, .int .u8 0, .int .u8 0, .int .u8 0, .int .u8 0, .int .u8 0, .int .u8 0, .int .u8 0, .int .u8 0, .int .u8 0, .int .u8 0, .int .u8 0, .int .u8 0], .arr 16 97, none, [], none⟩
theorem ti98_ok : ti98.ok Tryd.prog 98 := ⟨⟨Tryd.t98, .agg #[.int .u8 0, .int .u8 0, .int .u8 0, .int .u8 0, .int .u8 0, .int .u8 0, .int .u8 0, .int .u8 0, .int .u8 0, .int .u8 0, .int .u8 0, .int .u8 0, .int .u8 0, .int .u8 0, .int .u8 0, .int .u8 0, .int .u8 0, .int .u8 0, .int .u8 0, .int .u8 0, .int .u8 0, .int .u8 0, .int .u8 0, .int .u8 0, .int .u8 0, .int .u8 0, .int .u8 0, .int .u8 0, .int .u8 0, .int .u8 0, .int .u8 0, .int .u8 0], by kernel_rfl, rfl, rfl, rfl, rfl⟩, ⟨_, Tryd.underlying98, rfl⟩, rfl⟩
def ti101 : TI := ⟨1, 4, [.int .u32 0], .int .u32, some .u32, [], none⟩
theorem ti101_ok : ti101.ok Tryd.prog 101 := ⟨⟨Tryd.t101, .int .u32 0, by kernel_rfl, rfl, rfl, rfl, rfl⟩, ⟨_, Tryd.underlying101, rfl⟩, rfl⟩
def ti104 : TI := ⟨4, 40, [.pointer none, .pointer none, .pointer none, .string ⟨#[]⟩], .struct [(0, 1), (1, 1), (2, 1), (3, 1)], none, [], none⟩
theorem ti104_ok : ti104.ok Tryd.prog 104 := ⟨⟨Tryd.t104, .agg #[.pointer none, .pointer none, .pointer none, .string ⟨#[]⟩], by kernel_rfl, rfl, rfl, rfl, rfl⟩, ⟨_, Tryd.underlying104, ⟨_, rfl, by kernel_rfl, by kernel_rfl⟩⟩, rfl⟩
def ti105 : TI := ⟨4, 40, [.pointer none, .pointer none, .pointer none, .string ⟨#[]⟩], .struct [(0, 1), (1, 1), (2, 1), (3, 1)], none, [], none⟩
theorem ti105_ok : ti105.ok Tryd.prog 105 := ⟨⟨Tryd.t105, .agg #[.pointer none, .pointer none, .pointer none, .string ⟨#[]⟩], by kernel_rfl, rfl, rfl, rfl, rfl⟩, ⟨_, Tryd.underlying105, ⟨_, rfl, by kernel_rfl, by kernel_rfl⟩⟩, rfl⟩
def ti110 : TI := ⟨1, 1, [.int .u8 0], .int .u8, none, [], none⟩
theorem ti110_ok : ti110.ok Tryd.prog 110 := ⟨⟨Tryd.t110, .int .u8 0, by kernel_rfl, rfl, rfl, rfl, rfl⟩, ⟨_, Tryd.underlying110, rfl⟩, rfl⟩
def ti111 : TI := ⟨1, 1, [.int .u8 0], .int .u8, none, [], none⟩
theorem ti111_ok : ti111.ok Tryd.prog 111 := ⟨⟨Tryd.t111, .int .u8 0, by kernel_rfl, rfl, rfl, rfl, rfl⟩, ⟨_, Tryd.underlying111, rfl⟩, rfl⟩
def ti113 : TI := ⟨1, 4, [.int .i32 0], .int .i32, none, [], none⟩
theorem ti113_ok : ti113.ok Tryd.prog 113 := ⟨⟨Tryd.t113, .int .i32 0, by kernel_rfl, rfl, rfl, rfl, rfl⟩, ⟨_, Tryd.underlying113, rfl⟩, rfl⟩
def ti114 : TI := ⟨1, 4, [.int .i32 0], .int .i32, none, [], none⟩
theorem ti114_ok : ti114.ok Tryd.prog 114 := ⟨⟨Tryd.t114, .int .i32 0, by kernel_rfl, rfl, rfl, rfl, rfl⟩, ⟨_, Tryd.underlying114, rfl⟩, rfl⟩
def Γ : Ctx := [(2, ti2), (3, ti3), (4, ti4), (5, ti5), (6, ti6), (7, ti7), (8, ti8), (9, ti9), (10, ti10), (11, ti11), (12, ti12), (13, ti13), (14, ti14), (15, ti15), (16, ti16), (17, ti17), (18, ti18), (19, ti19), (21, ti21), (26, ti26), (27, ti27), (35, ti35), (36, ti36), (37, ti37), (38, ti38), (39, ti39), (51, ti51), (55, ti55), (60, ti60), (61, ti61), (62, ti62), (64, ti64), (65, ti65), (66, ti66), (67, ti67), (70, ti70), (71, ti71), (72, ti72), (78, ti78), (79, ti79), (91, ti91), (94, ti94), (95, ti95), (96, ti96), (97, ti97), (98, ti98), (101, ti101), (104, ti104), (105, ti105), (110, ti110), (111, ti111), (113, ti113), (114, ti114)]
theorem Γ_ok : Γ.ok Tryd.prog := by
  unfold Ctx.ok Γ
  simp only [List.forall_mem_cons]
  exact ⟨ti2_ok, ti3_ok, ti4_ok, ti5_ok, ti6_ok, ti7_ok, ti8_ok, ti9_ok, ti10_ok, ti11_ok, ti12_ok, ti13_ok, ti14_ok, ti15_ok, ti16_ok, ti17_ok, ti18_ok, ti19_ok, ti21_ok, ti26_ok, ti27_ok, ti35_ok, ti36_ok, ti37_ok, ti38_ok, ti39_ok, ti51_ok, ti55_ok, ti60_ok, ti61_ok, ti62_ok, ti64_ok, ti65_ok, ti66_ok, ti67_ok, ti70_ok, ti71_ok, ti72_ok, ti78_ok, ti79_ok, ti91_ok, ti94_ok, ti95_ok, ti96_ok, ti97_ok, ti98_ok, ti101_ok, ti104_ok, ti105_ok, ti110_ok, ti111_ok, ti113_ok, ti114_ok, fun _ h => nomatch h⟩
theorem Γ_one : ∀ p ∈ Γ, (∀ v ∈ p.2.zero, v.oneCell' = true) ∧ p.2.zero.length = p.2.cells := by
  unfold Γ
  simp only [List.forall_mem_cons]
  exact ⟨by simp [ti2, Value.oneCell'], by simp [ti3, Value.oneCell'], by simp [ti4, Value.oneCell'], by simp [ti5, Value.oneCell'], by simp [ti6, Value.oneCell'], by simp [ti7, Value.oneCell'], by simp [ti8, Value.oneCell'], by simp [ti9, Value.oneCell'], by simp [ti10, Value.oneCell'], by simp [ti11, Value.oneCell'], by simp [ti12, Value.oneCell'], by simp [ti13, Value.oneCell'], by simp [ti14, Value.oneCell'], by simp [ti15, Value.oneCell'], by simp [ti16, Value.oneCell'], by simp [ti17, Value.oneCell'], by simp [ti18, Value.oneCell'], by simp [ti19, Value.oneCell'], by simp [ti21, Value.oneCell'], by simp [ti26, Value.oneCell'], by simp [ti27, Value.oneCell'], by simp [ti35, Value.oneCell'], by simp [ti36, Value.oneCell'], by simp [ti37, Value.oneCell'], by simp [ti38, Value.oneCell'], by simp [ti39, Value.oneCell'], by simp [ti51, Value.oneCell'], by simp [ti55, Value.oneCell'], by simp [ti60, Value.oneCell'], by simp [ti61, Value.oneCell'], by simp [ti62, Value.oneCell'], by simp [ti64, Value.oneCell'], by simp [ti65, Value.oneCell'], by simp [ti66, Value.oneCell'], by simp [ti67, Value.oneCell'], by simp [ti70, Value.oneCell'], by simp [ti71, Value.oneCell'], by simp [ti72, Value.oneCell'], by simp [ti78, Value.oneCell'], by simp [ti79, Value.oneCell'], by simp [ti91, Value.oneCell'], by simp [ti94, Value.oneCell'], by simp [ti95, Value.oneCell'], by simp [ti96, Value.oneCell'], by simp [ti97, Value.oneCell'], by simp [ti98, Value.oneCell'], by simp [ti101, Value.oneCell'], by simp [ti104, Value.oneCell'], by simp [ti105, Value.oneCell'], by simp [ti110, Value.oneCell'], by simp [ti111, Value.oneCell'], by simp [ti113, Value.oneCell'], by simp [ti114, Value.oneCell'], fun _ h => nomatch h⟩
theorem Γ_good : Γ.good Tryd.prog := ⟨Γ_ok, Γ_one, by kernel_rfl⟩
end Go.Proofs.YtjlbaagnoppfgaaDoor
