/-
  The table of types of this seat's translation, for the engine.
-/
import Derived.Test.YtjlbaagnoppfgaaSxSpec
import Derived.Test.YtjlbaagnoppfgaaRows
namespace Go.Proofs.Ytjlbaagnoppfgaa
open Go.SX
set_option maxRecDepth 100000
instance noGlobs : Globs := ⟨[]⟩
def ti2 : TI := ⟨1, 8, [.int .i64 0], .int .i64, some .i64, [], none⟩
theorem ti2_ok : ti2.ok Try.prog 2 := ⟨⟨Try.t2, .int .i64 0, by kernel_rfl, rfl, rfl, rfl, rfl⟩, ⟨_, Try.underlying2, rfl⟩, rfl, fun _ => ⟨Try.t2, by kernel_rfl, rfl⟩⟩
def ti3 : TI := ⟨1, 8, [.int .i64 0], .int .i64, some .int, [], none⟩
theorem ti3_ok : ti3.ok Try.prog 3 := ⟨⟨Try.t3, .int .i64 0, by kernel_rfl, rfl, rfl, rfl, rfl⟩, ⟨_, Try.underlying3, rfl⟩, rfl, fun _ => ⟨Try.t3, by kernel_rfl, rfl⟩⟩
def ti4 : TI := ⟨1, 1, [.bool false], .bool, some .bool, [], none⟩
theorem ti4_ok : ti4.ok Try.prog 4 := ⟨⟨Try.t4, .bool false, by kernel_rfl, rfl, rfl, rfl, rfl⟩, ⟨_, Try.underlying4, rfl⟩, rfl, fun _ => ⟨Try.t4, by kernel_rfl, rfl⟩⟩
def ti5 : TI := ⟨1, 1, [.int .u8 0], .int .u8, some .u8, [], none⟩
theorem ti5_ok : ti5.ok Try.prog 5 := ⟨⟨Try.t5, .int .u8 0, by kernel_rfl, rfl, rfl, rfl, rfl⟩, ⟨_, Try.underlying5, rfl⟩, rfl, fun _ => ⟨Try.t5, by kernel_rfl, rfl⟩⟩
def ti6 : TI := ⟨1, 1, [.int .u8 0], .int .u8, none, [], none⟩
theorem ti6_ok : ti6.ok Try.prog 6 := ⟨⟨Try.t6, .int .u8 0, by kernel_rfl, rfl, rfl, rfl, rfl⟩, ⟨_, Try.underlying6, rfl⟩, rfl, fun _ => ⟨Try.t6, by kernel_rfl, rfl⟩⟩
def ti7 : TI := ⟨4, 24, [.int .i64 0, .int .i64 0, .bool false, .int .u8 0], .struct [(0, 1), (1, 1), (2, 1), (3, 1)], none, [], none⟩
theorem ti7_ok : ti7.ok Try.prog 7 := ⟨⟨Try.t7, .agg #[.int .i64 0, .int .i64 0, .bool false, .int .u8 0], by kernel_rfl, rfl, rfl, rfl, rfl⟩, ⟨_, Try.underlying7, ⟨_, rfl, by kernel_rfl, by kernel_rfl⟩⟩, rfl, fun h => nomatch h⟩
def ti8 : TI := ⟨4, 24, [.int .i64 0, .int .i64 0, .bool false, .int .u8 0], .struct [(0, 1), (1, 1), (2, 1), (3, 1)], none, [], none⟩
theorem ti8_ok : ti8.ok Try.prog 8 := ⟨⟨Try.t8, .agg #[.int .i64 0, .int .i64 0, .bool false, .int .u8 0], by kernel_rfl, rfl, rfl, rfl, rfl⟩, ⟨_, Try.underlying8, ⟨_, rfl, by kernel_rfl, by kernel_rfl⟩⟩, rfl, fun h => nomatch h⟩
def ti9 : TI := ⟨1, 16, [.string ⟨#[]⟩], .str, some .str, [], none⟩
theorem ti9_ok : ti9.ok Try.prog 9 := ⟨⟨Try.t9, .string ⟨#[]⟩, by kernel_rfl, rfl, rfl, rfl, rfl⟩, ⟨_, Try.underlying9, rfl⟩, rfl, fun _ => ⟨Try.t9, by kernel_rfl, rfl⟩⟩
def ti10 : TI := ⟨1, 16, [.string ⟨#[]⟩], .str, none, [], none⟩
theorem ti10_ok : ti10.ok Try.prog 10 := ⟨⟨Try.t10, .string ⟨#[]⟩, by kernel_rfl, rfl, rfl, rfl, rfl⟩, ⟨_, Try.underlying10, rfl⟩, rfl, fun _ => ⟨Try.t10, by kernel_rfl, rfl⟩⟩
def ti11 : TI := ⟨1, 16, [.string ⟨#[]⟩], .str, none, [], none⟩
theorem ti11_ok : ti11.ok Try.prog 11 := ⟨⟨Try.t11, .string ⟨#[]⟩, by kernel_rfl, rfl, rfl, rfl, rfl⟩, ⟨_, Try.underlying11, rfl⟩, rfl, fun _ => ⟨Try.t11, by kernel_rfl, rfl⟩⟩
def ti12 : TI := ⟨1, 8, [.int .u64 0], .int .u64, none, [], none⟩
theorem ti12_ok : ti12.ok Try.prog 12 := ⟨⟨Try.t12, .int .u64 0, by kernel_rfl, rfl, rfl, rfl, rfl⟩, ⟨_, Try.underlying12, rfl⟩, rfl, fun _ => ⟨Try.t12, by kernel_rfl, rfl⟩⟩
def ti13 : TI := ⟨2, 24, [.string ⟨#[]⟩, .int .u64 0], .struct [(0, 1), (1, 1)], none, [], none⟩
theorem ti13_ok : ti13.ok Try.prog 13 := ⟨⟨Try.t13, .agg #[.string ⟨#[]⟩, .int .u64 0], by kernel_rfl, rfl, rfl, rfl, rfl⟩, ⟨_, Try.underlying13, ⟨_, rfl, by kernel_rfl, by kernel_rfl⟩⟩, rfl, fun h => nomatch h⟩
def ti14 : TI := ⟨2, 24, [.string ⟨#[]⟩, .int .u64 0], .struct [(0, 1), (1, 1)], none, [], none⟩
theorem ti14_ok : ti14.ok Try.prog 14 := ⟨⟨Try.t14, .agg #[.string ⟨#[]⟩, .int .u64 0], by kernel_rfl, rfl, rfl, rfl, rfl⟩, ⟨_, Try.underlying14, ⟨_, rfl, by kernel_rfl, by kernel_rfl⟩⟩, rfl, fun h => nomatch h⟩
def ti15 : TI := ⟨1, 8, [.pointer none], .other, none, [], none⟩
theorem ti15_ok : ti15.ok Try.prog 15 := ⟨⟨Try.t15, .pointer none, by kernel_rfl, rfl, rfl, rfl, rfl⟩, ⟨_, Try.underlying15, ⟨fun _ h => (nomatch h), fun _ _ h => (nomatch h)⟩⟩, rfl, fun _ => ⟨Try.t15, by kernel_rfl, rfl⟩⟩
def ti16 : TI := ⟨1, 8, [.pointer none], .other, none, [], none⟩
theorem ti16_ok : ti16.ok Try.prog 16 := ⟨⟨Try.t16, .pointer none, by kernel_rfl, rfl, rfl, rfl, rfl⟩, ⟨_, Try.underlying16, ⟨fun _ h => (nomatch h), fun _ _ h => (nomatch h)⟩⟩, rfl, fun _ => ⟨Try.t16, by kernel_rfl, rfl⟩⟩
def ti17 : TI := ⟨1, 8, [.pointer none], .other, none, [], none⟩
theorem ti17_ok : ti17.ok Try.prog 17 := ⟨⟨Try.t17, .pointer none, by kernel_rfl, rfl, rfl, rfl, rfl⟩, ⟨_, Try.underlying17, ⟨fun _ h => (nomatch h), fun _ _ h => (nomatch h)⟩⟩, rfl, fun _ => ⟨Try.t17, by kernel_rfl, rfl⟩⟩
def ti18 : TI := ⟨1, 8, [.pointer none], .struct [(0, 1)], none, [], none⟩
theorem ti18_ok : ti18.ok Try.prog 18 := ⟨⟨Try.t18, .agg #[.pointer none], by kernel_rfl, rfl, rfl, rfl, rfl⟩, ⟨_, Try.underlying18, ⟨_, rfl, by kernel_rfl, by kernel_rfl⟩⟩, rfl, fun h => nomatch h⟩
def ti19 : TI := ⟨1, 8, [.pointer none], .struct [(0, 1)], none, [], none⟩
theorem ti19_ok : ti19.ok Try.prog 19 := ⟨⟨Try.t19, .agg #[.pointer none], by kernel_rfl, rfl, rfl, rfl, rfl⟩, ⟨_, Try.underlying19, ⟨_, rfl, by kernel_rfl, by kernel_rfl⟩⟩, rfl, fun h => nomatch h⟩
def ti21 : TI := ⟨1, 4, [.int .i32 0], .int .i32, some .rune, [], none⟩
theorem ti21_ok : ti21.ok Try.prog 21 := ⟨⟨Try.t21, .int .i32 0, by kernel_rfl, rfl, rfl, rfl, rfl⟩, ⟨_, Try.underlying21, rfl⟩, rfl, fun _ => ⟨Try.t21, by kernel_rfl, rfl⟩⟩
def ti22 : TI := ⟨1, 8, [.int .i64 0], .int .i64, some .errno, [], none⟩
theorem ti22_ok : ti22.ok Try.prog 22 := ⟨⟨Try.t22, .int .i64 0, by kernel_rfl, rfl, rfl, rfl, rfl⟩, ⟨_, Try.underlying22, rfl⟩, rfl, fun _ => ⟨Try.t22, by kernel_rfl, rfl⟩⟩
def ti23 : TI := ⟨1, 24, [.slice none 0 0], .slice 22, none, [], none⟩
theorem ti23_ok : ti23.ok Try.prog 23 := ⟨⟨Try.t23, .slice none 0 0, by kernel_rfl, rfl, rfl, rfl, rfl⟩, ⟨_, Try.underlying23, rfl⟩, rfl, fun _ => ⟨Try.t23, by kernel_rfl, rfl⟩⟩
def ti24 : TI := ⟨1, 24, [.slice none 0 0], .slice 3, some .ints, [], none⟩
theorem ti24_ok : ti24.ok Try.prog 24 := ⟨⟨Try.t24, .slice none 0 0, by kernel_rfl, rfl, rfl, rfl, rfl⟩, ⟨_, Try.underlying24, rfl⟩, rfl, fun _ => ⟨Try.t24, by kernel_rfl, rfl⟩⟩
def ti25 : TI := ⟨1, 24, [.slice none 0 0], .slice 24, none, [], none⟩
theorem ti25_ok : ti25.ok Try.prog 25 := ⟨⟨Try.t25, .slice none 0 0, by kernel_rfl, rfl, rfl, rfl, rfl⟩, ⟨_, Try.underlying25, rfl⟩, rfl, fun _ => ⟨Try.t25, by kernel_rfl, rfl⟩⟩
def ti27 : TI := ⟨1, 24, [.slice none 0 0], .slice 107, none, [], none⟩
theorem ti27_ok : ti27.ok Try.prog 27 := ⟨⟨Try.t27, .slice none 0 0, by kernel_rfl, rfl, rfl, rfl, rfl⟩, ⟨_, Try.underlying27, rfl⟩, rfl, fun _ => ⟨Try.t27, by kernel_rfl, rfl⟩⟩
def ti32 : TI := ⟨1, 24, [.slice none 0 0], .slice 119, none, [], none⟩
theorem ti32_ok : ti32.ok Try.prog 32 := ⟨⟨Try.t32, .slice none 0 0, by kernel_rfl, rfl, rfl, rfl, rfl⟩, ⟨_, Try.underlying32, rfl⟩, rfl, fun _ => ⟨Try.t32, by kernel_rfl, rfl⟩⟩
def ti52 : TI := ⟨1, 24, [.slice none 0 0], .slice 53, none, [], none⟩
theorem ti52_ok : ti52.ok Try.prog 52 := ⟨⟨Try.t52, .slice none 0 0, by kernel_rfl, rfl, rfl, rfl, rfl⟩, ⟨_, Try.underlying52, rfl⟩, rfl, fun _ => ⟨Try.t52, by kernel_rfl, rfl⟩⟩
def ti53 : TI := ⟨1, 4, [.int .u32 0], .int .u32, some .u32, [], none⟩
theorem ti53_ok : ti53.ok Try.prog 53 := ⟨⟨Try.t53, .int .u32 0, by kernel_rfl, rfl, rfl, rfl, rfl⟩, ⟨_, Try.underlying53, rfl⟩, rfl, fun _ => ⟨Try.t53, by kernel_rfl, rfl⟩⟩
def ti54 : TI := ⟨1, 24, [.slice none 0 0], .slice 3, some .ints, [], none⟩
theorem ti54_ok : ti54.ok Try.prog 54 := ⟨⟨Try.t54, .slice none 0 0, by kernel_rfl, rfl, rfl, rfl, rfl⟩, ⟨_, Try.underlying54, rfl⟩, rfl, fun _ => ⟨Try.t54, by kernel_rfl, rfl⟩⟩
def ti61 : TI := ⟨1, 8, [.int .u64 0], .int .u64, some .u64, [], none⟩
theorem ti61_ok : ti61.ok Try.prog 61 := ⟨⟨Try.t61, .int .u64 0, by kernel_rfl, rfl, rfl, rfl, rfl⟩, ⟨_, Try.underlying61, rfl⟩, rfl, fun _ => ⟨Try.t61, by kernel_rfl, rfl⟩⟩
def ti72 : TI := ⟨1, 24, [.slice none 0 0], .slice 9, none, [], none⟩
theorem ti72_ok : ti72.ok Try.prog 72 := ⟨⟨Try.t72, .slice none 0 0, by kernel_rfl, rfl, rfl, rfl, rfl⟩, ⟨_, Try.underlying72, rfl⟩, rfl, fun _ => ⟨Try.t72, by kernel_rfl, rfl⟩⟩
def ti81 : TI := ⟨1, 24, [.slice none 0 0], .slice 83, none, [], none⟩
theorem ti81_ok : ti81.ok Try.prog 81 := ⟨⟨Try.t81, .slice none 0 0, by kernel_rfl, rfl, rfl, rfl, rfl⟩, ⟨_, Try.underlying81, rfl⟩, rfl, fun _ => ⟨Try.t81, by kernel_rfl, rfl⟩⟩
def ti82 : TI := ⟨4, 48, [.int .i64 0, .int .i64 0, .int .i64 0, .slice none 0 0], .struct [(0, 1), (1, 1), (2, 1), (3, 1)], none, [], none⟩
theorem ti82_ok : ti82.ok Try.prog 82 := ⟨⟨Try.t82, .agg #[.int .i64 0, .int .i64 0, .int .i64 0, .slice none 0 0], by kernel_rfl, rfl, rfl, rfl, rfl⟩, ⟨_, Try.underlying82, ⟨_, rfl, by kernel_rfl, by kernel_rfl⟩⟩, rfl, fun h => nomatch h⟩
def ti83 : TI := ⟨4, 48, [.int .i64 0, .int .i64 0, .int .i64 0, .slice none 0 0], .struct [(0, 1), (1, 1), (2, 1), (3, 1)], some .node, [], none⟩
theorem ti83_ok : ti83.ok Try.prog 83 := ⟨⟨Try.t83, .agg #[.int .i64 0, .int .i64 0, .int .i64 0, .slice none 0 0], by kernel_rfl, rfl, rfl, rfl, rfl⟩, ⟨_, Try.underlying83, ⟨_, rfl, by kernel_rfl, by kernel_rfl⟩⟩, rfl, fun h => nomatch h⟩
def ti84 : TI := ⟨1, 24, [.slice none 0 0], .slice 88, none, [], none⟩
theorem ti84_ok : ti84.ok Try.prog 84 := ⟨⟨Try.t84, .slice none 0 0, by kernel_rfl, rfl, rfl, rfl, rfl⟩, ⟨_, Try.underlying84, rfl⟩, rfl, fun _ => ⟨Try.t84, by kernel_rfl, rfl⟩⟩
def ti87 : TI := ⟨3, 24, [.int .i64 0, .int .i64 0, .int .i64 0], .struct [(0, 1), (1, 1), (2, 1)], none, [], none⟩
theorem ti87_ok : ti87.ok Try.prog 87 := ⟨⟨Try.t87, .agg #[.int .i64 0, .int .i64 0, .int .i64 0], by kernel_rfl, rfl, rfl, rfl, rfl⟩, ⟨_, Try.underlying87, ⟨_, rfl, by kernel_rfl, by kernel_rfl⟩⟩, rfl, fun h => nomatch h⟩
def ti88 : TI := ⟨3, 24, [.int .i64 0, .int .i64 0, .int .i64 0], .struct [(0, 1), (1, 1), (2, 1)], some .token, [.int, .int, .int], none⟩
theorem ti88_ok : ti88.ok Try.prog 88 := ⟨⟨Try.t88, .agg #[.int .i64 0, .int .i64 0, .int .i64 0], by kernel_rfl, rfl, rfl, rfl, rfl⟩, ⟨_, Try.underlying88, ⟨_, rfl, by kernel_rfl, by kernel_rfl⟩⟩, by kernel_rfl, fun h => nomatch h⟩
def ti91 : TI := ⟨1, 24, [.slice none 0 0], .slice 94, none, [], none⟩
theorem ti91_ok : ti91.ok Try.prog 91 := ⟨⟨Try.t91, .slice none 0 0, by kernel_rfl, rfl, rfl, rfl, rfl⟩, ⟨_, Try.underlying91, rfl⟩, rfl, fun _ => ⟨Try.t91, by kernel_rfl, rfl⟩⟩
def ti92 : TI := ⟨1, 24, [.slice none 0 0], .slice 167, none, [], none⟩
theorem ti92_ok : ti92.ok Try.prog 92 := ⟨⟨Try.t92, .slice none 0 0, by kernel_rfl, rfl, rfl, rfl, rfl⟩, ⟨_, Try.underlying92, rfl⟩, rfl, fun _ => ⟨Try.t92, by kernel_rfl, rfl⟩⟩
def ti93 : TI := ⟨6, 88, [.int .i64 0, .int .i64 0, .int .u64 0, .string ⟨#[]⟩, .slice none 0 0, .slice none 0 0], .struct [(0, 1), (1, 1), (2, 1), (3, 1), (4, 1), (5, 1)], none, [], none⟩
theorem ti93_ok : ti93.ok Try.prog 93 := ⟨⟨Try.t93, .agg #[.int .i64 0, .int .i64 0, .int .u64 0, .string ⟨#[]⟩, .slice none 0 0, .slice none 0 0], by kernel_rfl, rfl, rfl, rfl, rfl⟩, ⟨_, Try.underlying93, ⟨_, rfl, by kernel_rfl, by kernel_rfl⟩⟩, rfl, fun h => nomatch h⟩
def ti94 : TI := ⟨6, 88, [.int .i64 0, .int .i64 0, .int .u64 0, .string ⟨#[]⟩, .slice none 0 0, .slice none 0 0], .struct [(0, 1), (1, 1), (2, 1), (3, 1), (4, 1), (5, 1)], some .val, [], none⟩
theorem ti94_ok : ti94.ok Try.prog 94 := ⟨⟨Try.t94, .agg #[.int .i64 0, .int .i64 0, .int .u64 0, .string ⟨#[]⟩, .slice none 0 0, .slice none 0 0], by kernel_rfl, rfl, rfl, rfl, rfl⟩, ⟨_, Try.underlying94, ⟨_, rfl, by kernel_rfl, by kernel_rfl⟩⟩, rfl, fun h => nomatch h⟩
def ti104 : TI := ⟨1, 8, [.map none], .mp 3 3, none, [], none⟩
theorem ti104_ok : ti104.ok Try.prog 104 := ⟨⟨Try.t104, .map none, by kernel_rfl, rfl, rfl, rfl, rfl⟩, ⟨_, Try.underlying104, rfl⟩, rfl, fun _ => ⟨Try.t104, by kernel_rfl, rfl⟩⟩
def ti105 : TI := ⟨1, 24, [.slice none 0 0], .slice 215, none, [], none⟩
theorem ti105_ok : ti105.ok Try.prog 105 := ⟨⟨Try.t105, .slice none 0 0, by kernel_rfl, rfl, rfl, rfl, rfl⟩, ⟨_, Try.underlying105, rfl⟩, rfl, fun _ => ⟨Try.t105, by kernel_rfl, rfl⟩⟩
def ti106 : TI := ⟨3, 40, [.int .i64 0, .int .i64 0, .slice none 0 0], .struct [(0, 1), (1, 1), (2, 1)], none, [], none⟩
theorem ti106_ok : ti106.ok Try.prog 106 := ⟨⟨Try.t106, .agg #[.int .i64 0, .int .i64 0, .slice none 0 0], by kernel_rfl, rfl, rfl, rfl, rfl⟩, ⟨_, Try.underlying106, ⟨_, rfl, by kernel_rfl, by kernel_rfl⟩⟩, rfl, fun h => nomatch h⟩
def ti107 : TI := ⟨3, 40, [.int .i64 0, .int .i64 0, .slice none 0 0], .struct [(0, 1), (1, 1), (2, 1)], some .link, [], none⟩
theorem ti107_ok : ti107.ok Try.prog 107 := ⟨⟨Try.t107, .agg #[.int .i64 0, .int .i64 0, .slice none 0 0], by kernel_rfl, rfl, rfl, rfl, rfl⟩, ⟨_, Try.underlying107, ⟨_, rfl, by kernel_rfl, by kernel_rfl⟩⟩, rfl, fun h => nomatch h⟩
def ti113 : TI := ⟨1, 8, [.pointer none], .other, none, [], none⟩
theorem ti113_ok : ti113.ok Try.prog 113 := ⟨⟨Try.t113, .pointer none, by kernel_rfl, rfl, rfl, rfl, rfl⟩, ⟨_, Try.underlying113, ⟨fun _ h => (nomatch h), fun _ _ h => (nomatch h)⟩⟩, rfl, fun _ => ⟨Try.t113, by kernel_rfl, rfl⟩⟩
def ti116 : TI := ⟨3, 48, [.slice none 0 0, .int .i64 0, .string ⟨#[]⟩], .struct [(0, 1), (1, 1), (2, 1)], none, [], none⟩
theorem ti116_ok : ti116.ok Try.prog 116 := ⟨⟨Try.t116, .agg #[.slice none 0 0, .int .i64 0, .string ⟨#[]⟩], by kernel_rfl, rfl, rfl, rfl, rfl⟩, ⟨_, Try.underlying116, ⟨_, rfl, by kernel_rfl, by kernel_rfl⟩⟩, rfl, fun h => nomatch h⟩
def ti117 : TI := ⟨3, 48, [.slice none 0 0, .int .i64 0, .string ⟨#[]⟩], .struct [(0, 1), (1, 1), (2, 1)], none, [], none⟩
theorem ti117_ok : ti117.ok Try.prog 117 := ⟨⟨Try.t117, .agg #[.slice none 0 0, .int .i64 0, .string ⟨#[]⟩], by kernel_rfl, rfl, rfl, rfl, rfl⟩, ⟨_, Try.underlying117, ⟨_, rfl, by kernel_rfl, by kernel_rfl⟩⟩, rfl, fun h => nomatch h⟩
def ti118 : TI := ⟨3, 32, [.int .i64 0, .int .i64 0, .string ⟨#[]⟩], .struct [(0, 1), (1, 1), (2, 1)], none, [], none⟩
theorem ti118_ok : ti118.ok Try.prog 118 := ⟨⟨Try.t118, .agg #[.int .i64 0, .int .i64 0, .string ⟨#[]⟩], by kernel_rfl, rfl, rfl, rfl, rfl⟩, ⟨_, Try.underlying118, ⟨_, rfl, by kernel_rfl, by kernel_rfl⟩⟩, rfl, fun h => nomatch h⟩
def ti119 : TI := ⟨3, 32, [.int .i64 0, .int .i64 0, .string ⟨#[]⟩], .struct [(0, 1), (1, 1), (2, 1)], some .part, [.int, .int, .str], none⟩
theorem ti119_ok : ti119.ok Try.prog 119 := ⟨⟨Try.t119, .agg #[.int .i64 0, .int .i64 0, .string ⟨#[]⟩], by kernel_rfl, rfl, rfl, rfl, rfl⟩, ⟨_, Try.underlying119, ⟨_, rfl, by kernel_rfl, by kernel_rfl⟩⟩, by kernel_rfl, fun h => nomatch h⟩
def ti126 : TI := ⟨1, 24, [.slice none 0 0], .slice 138, none, [], none⟩
theorem ti126_ok : ti126.ok Try.prog 126 := ⟨⟨Try.t126, .slice none 0 0, by kernel_rfl, rfl, rfl, rfl, rfl⟩, ⟨_, Try.underlying126, rfl⟩, rfl, fun _ => ⟨Try.t126, by kernel_rfl, rfl⟩⟩
def ti129 : TI := ⟨1, 8, [.pointer none], .other, none, [], none⟩
theorem ti129_ok : ti129.ok Try.prog 129 := ⟨⟨Try.t129, .pointer none, by kernel_rfl, rfl, rfl, rfl, rfl⟩, ⟨_, Try.underlying129, ⟨fun _ h => (nomatch h), fun _ _ h => (nomatch h)⟩⟩, rfl, fun _ => ⟨Try.t129, by kernel_rfl, rfl⟩⟩
def ti130 : TI := ⟨1, 24, [.slice none 0 0], .slice 5, none, [], none⟩
theorem ti130_ok : ti130.ok Try.prog 130 := ⟨⟨Try.t130, .slice none 0 0, by kernel_rfl, rfl, rfl, rfl, rfl⟩, ⟨_, Try.underlying130, rfl⟩, rfl, fun _ => ⟨Try.t130, by kernel_rfl, rfl⟩⟩
def ti131 : TI := ⟨2, 32, [.pointer none, .slice none 0 0], .struct [(0, 1), (1, 1)], none, [], none⟩
theorem ti131_ok : ti131.ok Try.prog 131 := ⟨⟨Try.t131, .agg #[.pointer none, .slice none 0 0], by kernel_rfl, rfl, rfl, rfl, rfl⟩, ⟨_, Try.underlying131, ⟨_, rfl, by kernel_rfl, by kernel_rfl⟩⟩, rfl, fun h => nomatch h⟩
def ti132 : TI := ⟨2, 32, [.pointer none, .slice none 0 0], .struct [(0, 1), (1, 1)], none, [], some 5⟩
theorem ti132_ok : ti132.ok Try.prog 132 := ⟨⟨Try.t132, .agg #[.pointer none, .slice none 0 0], by kernel_rfl, rfl, rfl, rfl, rfl⟩, ⟨_, Try.underlying132, ⟨_, rfl, by kernel_rfl, by kernel_rfl⟩⟩, rfl, fun h => nomatch h⟩
def ti137 : TI := ⟨2, 16, [.int .i64 0, .int .u8 0], .struct [(0, 1), (1, 1)], none, [], none⟩
theorem ti137_ok : ti137.ok Try.prog 137 := ⟨⟨Try.t137, .agg #[.int .i64 0, .int .u8 0], by kernel_rfl, rfl, rfl, rfl, rfl⟩, ⟨_, Try.underlying137, ⟨_, rfl, by kernel_rfl, by kernel_rfl⟩⟩, rfl, fun h => nomatch h⟩
def ti138 : TI := ⟨2, 16, [.int .i64 0, .int .u8 0], .struct [(0, 1), (1, 1)], some .atom, [.int, .int], none⟩
theorem ti138_ok : ti138.ok Try.prog 138 := ⟨⟨Try.t138, .agg #[.int .i64 0, .int .u8 0], by kernel_rfl, rfl, rfl, rfl, rfl⟩, ⟨_, Try.underlying138, ⟨_, rfl, by kernel_rfl, by kernel_rfl⟩⟩, by kernel_rfl, fun h => nomatch h⟩
def ti139 : TI := ⟨1, 24, [.slice none 0 0], .slice 4, none, [], none⟩
theorem ti139_ok : ti139.ok Try.prog 139 := ⟨⟨Try.t139, .slice none 0 0, by kernel_rfl, rfl, rfl, rfl, rfl⟩, ⟨_, Try.underlying139, rfl⟩, rfl, fun _ => ⟨Try.t139, by kernel_rfl, rfl⟩⟩
def ti149 : TI := ⟨1, 8, [.int .u64 0], .int .u64, none, [], none⟩
theorem ti149_ok : ti149.ok Try.prog 149 := ⟨⟨Try.t149, .int .u64 0, by kernel_rfl, rfl, rfl, rfl, rfl⟩, ⟨_, Try.underlying149, rfl⟩, rfl, fun _ => ⟨Try.t149, by kernel_rfl, rfl⟩⟩
def ti156 : TI := ⟨8, 64, [.int .i64 0, .int .i64 0, .int .i64 0, .int .i64 0, .int .i64 0, .int .i64 0, .int .i64 0, .int .i64 0], .arr 8 3, none, [], none⟩
theorem ti156_ok : ti156.ok Try.prog 156 := ⟨⟨Try.t156, .agg #[.int .i64 0, .int .i64 0, .int .i64 0, .int .i64 0, .int .i64 0, .int .i64 0, .int .i64 0, .int .i64 0], by kernel_rfl, rfl, rfl, rfl, rfl⟩, ⟨_, Try.underlying156, rfl⟩, rfl, fun h => nomatch h⟩
def ti166 : TI := ⟨7, 104, [.string ⟨#[]⟩, .int .i64 0, .int .i64 0, .int .u64 0, .string ⟨#[]⟩, .slice none 0 0, .slice none 0 0], .struct [(0, 1), (1, 6)], none, [], none⟩
theorem ti166_ok : ti166.ok Try.prog 166 := ⟨⟨Try.t166, .agg #[.string ⟨#[]⟩, .int .i64 0, .int .i64 0, .int .u64 0, .string ⟨#[]⟩, .slice none 0 0, .slice none 0 0], by kernel_rfl, rfl, rfl, rfl, rfl⟩, ⟨_, Try.underlying166, ⟨_, rfl, by kernel_rfl, by kernel_rfl⟩⟩, rfl, fun h => nomatch h⟩
def ti167 : TI := ⟨7, 104, [.string ⟨#[]⟩, .int .i64 0, .int .i64 0, .int .u64 0, .string ⟨#[]⟩, .slice none 0 0, .slice none 0 0], .struct [(0, 1), (1, 6)], some .ent, [], none⟩
theorem ti167_ok : ti167.ok Try.prog 167 := ⟨⟨Try.t167, .agg #[.string ⟨#[]⟩, .int .i64 0, .int .i64 0, .int .u64 0, .string ⟨#[]⟩, .slice none 0 0, .slice none 0 0], by kernel_rfl, rfl, rfl, rfl, rfl⟩, ⟨_, Try.underlying167, ⟨_, rfl, by kernel_rfl, by kernel_rfl⟩⟩, rfl, fun h => nomatch h⟩
def ti178 : TI := ⟨1, 24, [.slice none 0 0], .struct [(0, 1)], none, [], none⟩
theorem ti178_ok : ti178.ok Try.prog 178 := ⟨⟨Try.t178, .agg #[.slice none 0 0], by kernel_rfl, rfl, rfl, rfl, rfl⟩, ⟨_, Try.underlying178, ⟨_, rfl, by kernel_rfl, by kernel_rfl⟩⟩, rfl, fun h => nomatch h⟩
def ti179 : TI := ⟨1, 24, [.slice none 0 0], .struct [(0, 1)], none, [], none⟩
theorem ti179_ok : ti179.ok Try.prog 179 := ⟨⟨Try.t179, .agg #[.slice none 0 0], by kernel_rfl, rfl, rfl, rfl, rfl⟩, ⟨_, Try.underlying179, ⟨_, rfl, by kernel_rfl, by kernel_rfl⟩⟩, rfl, fun h => nomatch h⟩
def ti180 : TI := ⟨1, 8, [.pointer none], .other, none, [], none⟩
theorem ti180_ok : ti180.ok Try.prog 180 := ⟨⟨Try.t180, .pointer none, by kernel_rfl, rfl, rfl, rfl, rfl⟩, ⟨_, Try.underlying180, ⟨fun _ h => (nomatch h), fun _ _ h => (nomatch h)⟩⟩, rfl, fun _ => ⟨Try.t180, by kernel_rfl, rfl⟩⟩
def ti182 : TI := ⟨1, 8, [.pointer none], .other, none, [], none⟩
theorem ti182_ok : ti182.ok Try.prog 182 := ⟨⟨Try.t182, .pointer none, by kernel_rfl, rfl, rfl, rfl, rfl⟩, ⟨_, Try.underlying182, ⟨fun _ h => (nomatch h), fun _ _ h => (nomatch h)⟩⟩, rfl, fun _ => ⟨Try.t182, by kernel_rfl, rfl⟩⟩
def ti200 : TI := ⟨1, 8, [.pointer none], .other, none, [], none⟩
theorem ti200_ok : ti200.ok Try.prog 200 := ⟨⟨Try.t200, .pointer none, by kernel_rfl, rfl, rfl, rfl, rfl⟩, ⟨_, Try.underlying200, ⟨fun _ h => (nomatch h), fun _ _ h => (nomatch h)⟩⟩, rfl, fun _ => ⟨Try.t200, by kernel_rfl, rfl⟩⟩
def ti201 : TI := ⟨4, 40, [.pointer none, .pointer none, .pointer none, .string ⟨#[]⟩], .struct [(0, 1), (1, 1), (2, 1), (3, 1)], none, [], none⟩
theorem ti201_ok : ti201.ok Try.prog 201 := ⟨⟨Try.t201, .agg #[.pointer none, .pointer none, .pointer none, .string ⟨#[]⟩], by kernel_rfl, rfl, rfl, rfl, rfl⟩, ⟨_, Try.underlying201, ⟨_, rfl, by kernel_rfl, by kernel_rfl⟩⟩, rfl, fun h => nomatch h⟩
def ti202 : TI := ⟨4, 40, [.pointer none, .pointer none, .pointer none, .string ⟨#[]⟩], .struct [(0, 1), (1, 1), (2, 1), (3, 1)], none, [], none⟩
theorem ti202_ok : ti202.ok Try.prog 202 := ⟨⟨Try.t202, .agg #[.pointer none, .pointer none, .pointer none, .string ⟨#[]⟩], by kernel_rfl, rfl, rfl, rfl, rfl⟩, ⟨_, Try.underlying202, ⟨_, rfl, by kernel_rfl, by kernel_rfl⟩⟩, rfl, fun h => nomatch h⟩
def ti207 : TI := ⟨1, 1, [.int .u8 0], .int .u8, none, [], none⟩
theorem ti207_ok : ti207.ok Try.prog 207 := ⟨⟨Try.t207, .int .u8 0, by kernel_rfl, rfl, rfl, rfl, rfl⟩, ⟨_, Try.underlying207, rfl⟩, rfl, fun _ => ⟨Try.t207, by kernel_rfl, rfl⟩⟩
def ti208 : TI := ⟨1, 1, [.int .u8 0], .int .u8, none, [], none⟩
theorem ti208_ok : ti208.ok Try.prog 208 := ⟨⟨Try.t208, .int .u8 0, by kernel_rfl, rfl, rfl, rfl, rfl⟩, ⟨_, Try.underlying208, rfl⟩, rfl, fun _ => ⟨Try.t208, by kernel_rfl, rfl⟩⟩
def ti210 : TI := ⟨1, 4, [.int .i32 0], .int .i32, none, [], none⟩
theorem ti210_ok : ti210.ok Try.prog 210 := ⟨⟨Try.t210, .int .i32 0, by kernel_rfl, rfl, rfl, rfl, rfl⟩, ⟨_, Try.underlying210, rfl⟩, rfl, fun _ => ⟨Try.t210, by kernel_rfl, rfl⟩⟩
def ti211 : TI := ⟨1, 4, [.int .i32 0], .int .i32, none, [], none⟩
theorem ti211_ok : ti211.ok Try.prog 211 := ⟨⟨Try.t211, .int .i32 0, by kernel_rfl, rfl, rfl, rfl, rfl⟩, ⟨_, Try.underlying211, rfl⟩, rfl, fun _ => ⟨Try.t211, by kernel_rfl, rfl⟩⟩
def ti214 : TI := ⟨10, 152, [.int .i64 0, .slice none 0 0, .string ⟨#[]⟩, .string ⟨#[]⟩, .int .i64 0, .int .i64 0, .int .u64 0, .string ⟨#[]⟩, .slice none 0 0, .slice none 0 0], .struct [(0, 1), (1, 1), (2, 1), (3, 1), (4, 6)], none, [], none⟩
theorem ti214_ok : ti214.ok Try.prog 214 := ⟨⟨Try.t214, .agg #[.int .i64 0, .slice none 0 0, .string ⟨#[]⟩, .string ⟨#[]⟩, .int .i64 0, .int .i64 0, .int .u64 0, .string ⟨#[]⟩, .slice none 0 0, .slice none 0 0], by kernel_rfl, rfl, rfl, rfl, rfl⟩, ⟨_, Try.underlying214, ⟨_, rfl, by kernel_rfl, by kernel_rfl⟩⟩, rfl, fun h => nomatch h⟩
def ti215 : TI := ⟨10, 152, [.int .i64 0, .slice none 0 0, .string ⟨#[]⟩, .string ⟨#[]⟩, .int .i64 0, .int .i64 0, .int .u64 0, .string ⟨#[]⟩, .slice none 0 0, .slice none 0 0], .struct [(0, 1), (1, 1), (2, 1), (3, 1), (4, 6)], some .move, [], none⟩
theorem ti215_ok : ti215.ok Try.prog 215 := ⟨⟨Try.t215, .agg #[.int .i64 0, .slice none 0 0, .string ⟨#[]⟩, .string ⟨#[]⟩, .int .i64 0, .int .i64 0, .int .u64 0, .string ⟨#[]⟩, .slice none 0 0, .slice none 0 0], by kernel_rfl, rfl, rfl, rfl, rfl⟩, ⟨_, Try.underlying215, ⟨_, rfl, by kernel_rfl, by kernel_rfl⟩⟩, rfl, fun h => nomatch h⟩
def ti216 : TI := ⟨1, 16, [.string ⟨#[]⟩], .struct [(0, 1)], none, [], none⟩
theorem ti216_ok : ti216.ok Try.prog 216 := ⟨⟨Try.t216, .agg #[.string ⟨#[]⟩], by kernel_rfl, rfl, rfl, rfl, rfl⟩, ⟨_, Try.underlying216, ⟨_, rfl, by kernel_rfl, by kernel_rfl⟩⟩, rfl, fun h => nomatch h⟩
def ti217 : TI := ⟨1, 16, [.string ⟨#[]⟩], .struct [(0, 1)], none, [], none⟩
theorem ti217_ok : ti217.ok Try.prog 217 := ⟨⟨Try.t217, .agg #[.string ⟨#[]⟩], by kernel_rfl, rfl, rfl, rfl, rfl⟩, ⟨_, Try.underlying217, ⟨_, rfl, by kernel_rfl, by kernel_rfl⟩⟩, rfl, fun h => nomatch h⟩
def Γ : Ctx := [(2, ti2), (3, ti3), (4, ti4), (5, ti5), (6, ti6), (7, ti7), (8, ti8), (9, ti9), (10, ti10), (11, ti11), (12, ti12), (13, ti13), (14, ti14), (15, ti15), (16, ti16), (17, ti17), (18, ti18), (19, ti19), (21, ti21), (22, ti22), (23, ti23), (24, ti24), (25, ti25), (27, ti27), (32, ti32), (52, ti52), (53, ti53), (54, ti54), (61, ti61), (72, ti72), (81, ti81), (82, ti82), (83, ti83), (84, ti84), (87, ti87), (88, ti88), (91, ti91), (92, ti92), (93, ti93), (94, ti94), (104, ti104), (105, ti105), (106, ti106), (107, ti107), (113, ti113), (116, ti116), (117, ti117), (118, ti118), (119, ti119), (126, ti126), (129, ti129), (130, ti130), (131, ti131), (132, ti132), (137, ti137), (138, ti138), (139, ti139), (149, ti149), (156, ti156), (166, ti166), (167, ti167), (178, ti178), (179, ti179), (180, ti180), (182, ti182), (200, ti200), (201, ti201), (202, ti202), (207, ti207), (208, ti208), (210, ti210), (211, ti211), (214, ti214), (215, ti215), (216, ti216), (217, ti217)]
theorem Γ_ok : Γ.ok Try.prog := by
  unfold Ctx.ok Γ
  simp only [List.forall_mem_cons]
  exact ⟨ti2_ok, ti3_ok, ti4_ok, ti5_ok, ti6_ok, ti7_ok, ti8_ok, ti9_ok, ti10_ok, ti11_ok, ti12_ok, ti13_ok, ti14_ok, ti15_ok, ti16_ok, ti17_ok, ti18_ok, ti19_ok, ti21_ok, ti22_ok, ti23_ok, ti24_ok, ti25_ok, ti27_ok, ti32_ok, ti52_ok, ti53_ok, ti54_ok, ti61_ok, ti72_ok, ti81_ok, ti82_ok, ti83_ok, ti84_ok, ti87_ok, ti88_ok, ti91_ok, ti92_ok, ti93_ok, ti94_ok, ti104_ok, ti105_ok, ti106_ok, ti107_ok, ti113_ok, ti116_ok, ti117_ok, ti118_ok, ti119_ok, ti126_ok, ti129_ok, ti130_ok, ti131_ok, ti132_ok, ti137_ok, ti138_ok, ti139_ok, ti149_ok, ti156_ok, ti166_ok, ti167_ok, ti178_ok, ti179_ok, ti180_ok, ti182_ok, ti200_ok, ti201_ok, ti202_ok, ti207_ok, ti208_ok, ti210_ok, ti211_ok, ti214_ok, ti215_ok, ti216_ok, ti217_ok, fun _ h => nomatch h⟩
theorem Γ_one : ∀ p ∈ Γ, (∀ v ∈ p.2.zero, v.oneCell' = true) ∧ p.2.zero.length = p.2.cells := by
  unfold Γ
  simp only [List.forall_mem_cons]
  exact ⟨by simp [ti2, Value.oneCell'], by simp [ti3, Value.oneCell'], by simp [ti4, Value.oneCell'], by simp [ti5, Value.oneCell'], by simp [ti6, Value.oneCell'], by simp [ti7, Value.oneCell'], by simp [ti8, Value.oneCell'], by simp [ti9, Value.oneCell'], by simp [ti10, Value.oneCell'], by simp [ti11, Value.oneCell'], by simp [ti12, Value.oneCell'], by simp [ti13, Value.oneCell'], by simp [ti14, Value.oneCell'], by simp [ti15, Value.oneCell'], by simp [ti16, Value.oneCell'], by simp [ti17, Value.oneCell'], by simp [ti18, Value.oneCell'], by simp [ti19, Value.oneCell'], by simp [ti21, Value.oneCell'], by simp [ti22, Value.oneCell'], by simp [ti23, Value.oneCell'], by simp [ti24, Value.oneCell'], by simp [ti25, Value.oneCell'], by simp [ti27, Value.oneCell'], by simp [ti32, Value.oneCell'], by simp [ti52, Value.oneCell'], by simp [ti53, Value.oneCell'], by simp [ti54, Value.oneCell'], by simp [ti61, Value.oneCell'], by simp [ti72, Value.oneCell'], by simp [ti81, Value.oneCell'], by simp [ti82, Value.oneCell'], by simp [ti83, Value.oneCell'], by simp [ti84, Value.oneCell'], by simp [ti87, Value.oneCell'], by simp [ti88, Value.oneCell'], by simp [ti91, Value.oneCell'], by simp [ti92, Value.oneCell'], by simp [ti93, Value.oneCell'], by simp [ti94, Value.oneCell'], by simp [ti104, Value.oneCell'], by simp [ti105, Value.oneCell'], by simp [ti106, Value.oneCell'], by simp [ti107, Value.oneCell'], by simp [ti113, Value.oneCell'], by simp [ti116, Value.oneCell'], by simp [ti117, Value.oneCell'], by simp [ti118, Value.oneCell'], by simp [ti119, Value.oneCell'], by simp [ti126, Value.oneCell'], by simp [ti129, Value.oneCell'], by simp [ti130, Value.oneCell'], by simp [ti131, Value.oneCell'], by simp [ti132, Value.oneCell'], by simp [ti137, Value.oneCell'], by simp [ti138, Value.oneCell'], by simp [ti139, Value.oneCell'], by simp [ti149, Value.oneCell'], by simp [ti156, Value.oneCell'], by simp [ti166, Value.oneCell'], by simp [ti167, Value.oneCell'], by simp [ti178, Value.oneCell'], by simp [ti179, Value.oneCell'], by simp [ti180, Value.oneCell'], by simp [ti182, Value.oneCell'], by simp [ti200, Value.oneCell'], by simp [ti201, Value.oneCell'], by simp [ti202, Value.oneCell'], by simp [ti207, Value.oneCell'], by simp [ti208, Value.oneCell'], by simp [ti210, Value.oneCell'], by simp [ti211, Value.oneCell'], by simp [ti214, Value.oneCell'], by simp [ti215, Value.oneCell'], by simp [ti216, Value.oneCell'], by simp [ti217, Value.oneCell'], fun _ h => nomatch h⟩
theorem Γ_good : Γ.good Try.prog := ⟨Γ_ok, Γ_one, by kernel_rfl⟩
end Go.Proofs.Ytjlbaagnoppfgaa
