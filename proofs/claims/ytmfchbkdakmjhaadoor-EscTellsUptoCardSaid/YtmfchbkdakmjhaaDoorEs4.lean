/-
  A part of a proof: plain laws and walks, one after the other. No conditions.
-/
import Derived.Test.YtmfchbkdakmjhaaDoorEs3
import Derived.Shelf.Strings.Builder1
import Derived.Shelf.Small.Utf8
import Derived.Shelf.Small.Strs
import Derived.Shelf.Small.Wraps
import Derived.Shelf.Strings.BuilderF
import Derived.Shelf.Strings.BuilderK
import Derived.Shelf.Strconv.Itoa0
import Derived.Shelf.Strconv.Itoa1
import Derived.Shelf.LaysM
import Derived.Shelf.Strconv.Itoa2
import Derived.Shelf.Strconv.Itoa3
import Derived.Shelf.Strconv.Itoa4
import Derived.Shelf.Strconv.ParseIntEmpty
import Derived.Shelf.Strconv.Clone
import Derived.Shelf.Strconv.SyntaxError
import Derived.Shelf.LaysC
import Derived.Shelf.Strconv.ToError
import Derived.Shelf.Strconv.Lower
import Derived.Shelf.Strconv.ParseUint10
import Derived.Shelf.Strconv.ParseUint10Empty
import Derived.Shelf.Strconv.ParseUint10Any
import Derived.Shelf.Strconv.ParseInt10
import Derived.Shelf.Strconv.RangeError
import Derived.Shelf.Strconv.ToErrorRange
import Derived.Shelf.Strconv.ParseUintEmpty
import Derived.Shelf.Strconv.ParseUint10b64
import Derived.Shelf.Strconv.ParseUint10b32
import Derived.Shelf.Strconv.ParseUint10b16
import Derived.Shelf.Strconv.ParseUint10b8
import Derived.Shelf.Strconv.ParseUint10At
import Derived.Shelf.Strconv.ParseInt10At64
import Derived.Shelf.Strconv.ParseInt10At32
import Derived.Shelf.Strconv.ParseInt10At16
import Derived.Shelf.Strconv.ParseInt10At8
import Derived.Shelf.Strconv.ParseInt10All
import Derived.Shelf.Strconv.ParseIntPublic10
import Derived.Shelf.Strconv.ErrVarParseInt
import Derived.Shelf.Strings.Search1
import Derived.Shelf.Strings.Search2
import Derived.Shelf.Strings.Cut
import Derived.Shelf.Strings.Shaped
import Derived.Shelf.Strings.Prefix
import Derived.Shelf.Unicode.Decode
import Derived.Shelf.Strings.Runes
import Derived.Shelf.Strings.IndexAny
import Derived.Shelf.Strings.AsciiSet
import Derived.Shelf.Strings.IndexAnyAll
import Derived.Shelf.Bits.Mul64
import Derived.Shelf.Unicode.DecodeSlow
import Derived.Shelf.Unicode.DecodeAny
import Derived.Ground.Names2Prog
import Derived.Shelf.Slices.Clone
import Derived.Shelf.Slices.SearchI
import Derived.Ground.SlgnProg
import Derived.Shelf.SlicesG.SearchI
import Derived.Shelf.SlicesE.Clone
import Derived.Test.YtmfchbkdakmjhaaDoorProg
import Derived.Laws.Bits64b
import Derived.Lib.ItoaLen
import Derived.Shelf.Spec.TrailingZeros
import Derived.Lib.FrozenHead
import Derived.Lib.FrozenHead2
import Derived.Lib.Builder
import Derived.Lib.UnsafeStr
import Derived.Lib.Walk
import Derived.BigRegion
import Derived.Laws.Externs
import Derived.Lib.RuneBytes
import Derived.Lib.IndexAny
import Derived.Deep.Slices
import Derived.Carry
import Derived.DataReads
set_option linter.constructorNameAsVariable false
set_option linter.unusedVariables false
set_option linter.unusedSimpArgs false
set_option linter.unusedSectionVars false
section
namespace Go.SX
set_option linter.unusedSectionVars false
variable [Globs]
section
variable {P : Program} {N : Nat} {Γ : Ctx} {L : List Nat} {W0 : World} {F : Fr} {X : Nat → Prop} {s : St} {β : Nat → Option Nat} {a : Act} {w : World}
end
end Go.SX
end
section
namespace Go.Proofs.YtmfchbkdakmjhaaDoor
set_option linter.unusedSectionVars false
set_option linter.unusedSimpArgs false
set_option linter.unusedVariables false
open Go Go.SX Go.Bg Go.Nm
set_option maxRecDepth 100000
set_option maxHeartbeats 1000000
theorem hex_cut (d : Nat) (h : d < 16) : (hexS.take (Int.toNat ((d : Int) + 1))).drop (Int.toNat (d : Int)) = [dcI (d : Int)] := by
  rcases (show d = 0 ∨ d = 1 ∨ d = 2 ∨ d = 3 ∨ d = 4 ∨ d = 5 ∨ d = 6 ∨ d = 7 ∨ d = 8 ∨ d = 9 ∨ d = 10 ∨ d = 11 ∨ d = 12 ∨ d = 13 ∨ d = 14 ∨ d = 15 by omega) with rfl | rfl | rfl | rfl | rfl | rfl | rfl | rfl | rfl | rfl | rfl | rfl | rfl | rfl | rfl | rfl <;> rfl
section
variable [G : Globs]
end
end Go.Proofs.YtmfchbkdakmjhaaDoor
end
section
namespace Go.Proofs
set_option linter.unusedSectionVars false
set_option linter.unusedSimpArgs false
set_option linter.unusedVariables false
open Go.Shelf
def Tryd.lays137_ren : Go.Shelf.Ren := ⟨fun | 137 => 99 | 217 => 137 | 266 => 175 | n => n, fun | 9 => 9 | 5 => 5 | 3 => 3 | n => n, fun | n => n⟩
theorem Tryd.lays137 : Go.Proofs.Lays.n137 Tryd.prog Tryd.lays137_ren := {
  mixed := by kernel_rfl
  f137 := Tryd.func99.trans (congrArg some (by kernel_rfl))
  f217 := Tryd.func137.trans (congrArg some (by kernel_rfl))
  f266 := Tryd.func175.trans (congrArg some (by kernel_rfl))
  t3 := Tryd.underlying3
  a3 := Tryd.isAgg3
  z3 := Tryd.sizeOf3
  v3 := Tryd.zeroValue3
  t5 := Tryd.underlying5
  a5 := Tryd.isAgg5
  z5 := Tryd.sizeOf5
  v5 := Tryd.zeroValue5
  t9 := Tryd.underlying9
  a9 := Tryd.isAgg9
  z9 := Tryd.sizeOf9
  v9 := Tryd.zeroValue9 }
open Go.RowKit in
/-- strings.IndexByte: "IndexByte returns the index of the first instance of c in s, or -1 if c is not present in s.": IT RETURNS 'Lib.indexByte s c'; the world is as it was. (LAID: no walk: one application.) -/
theorem Tryd.strings_IndexByte (s : ByteArray) (c : Int) (w : World) :
    Calls Tryd.prog 99 #[.string s, .int .u8 c] w fun e w' => e = .returned (.int .i64 (Lib.indexByte s.data.toList c.toNat.toUInt8)) ∧ w' = w := Any.strings_IndexByte Tryd.lays137 s c w
def Tryd.laysC245_ren : Go.Shelf.Ren := ⟨fun | 245 => 139 | 279 => 178 | 280 => 179 | 281 => 180 | 282 => 181 | 316 => 196 | 171 => 103 | 205 => 197 | 243 => 141 | 246 => 96 | 283 => 133 | 284 => 134 | 285 => 135 | 286 => 136 | 129 => 171 | 317 => 170 | 318 => 172 | 319 => 173 | 320 => 174 | 337 => 194 | 338 => 195 | n => n, fun | 9 => 9 | 3 => 3 | 75 => 88 | 167 => 202 | 4 => 4 | 168 => 204 | 210 => 222 | 37 => 84 | 0 => 0 | 127 => 133 | 145 => 229 | 143 => 227 | 2 => 2 | 171 => 166 | 53 => 22 | 5 => 5 | 173 => 169 | 212 => 199 | 51 => 165 | 20 => 20 | 213 => 200 | 46 => 130 | 232 => 225 | 233 => 226 | 80 => 94 | n => n, fun | 15 => 4 | 16 => 5 | 17 => 0 | 18 => 6 | 19 => 7 | n => n⟩
theorem Tryd.laysC245 : Go.Proofs.LaysC.n245 Tryd.prog Tryd.laysC245_ren := {
  mixed := by kernel_rfl
  f129 := Tryd.func171.trans (congrArg some (by kernel_rfl))
  f171 := Tryd.func103.trans (congrArg some (by kernel_rfl))
  f205 := Tryd.func197.trans (congrArg some (by kernel_rfl))
  f243 := Tryd.func141.trans (congrArg some (by kernel_rfl))
  f245 := Tryd.func139.trans (congrArg some (by kernel_rfl))
  f246 := Tryd.func96.trans (congrArg some (by kernel_rfl))
  f279 := Tryd.func178.trans (congrArg some (by kernel_rfl))
  f280 := Tryd.func179.trans (congrArg some (by kernel_rfl))
  f281 := Tryd.func180.trans (congrArg some (by kernel_rfl))
  f282 := Tryd.func181.trans (congrArg some (by kernel_rfl))
  f283 := Tryd.func133.trans (congrArg some (by kernel_rfl))
  f284 := Tryd.func134.trans (congrArg some (by kernel_rfl))
  f285 := Tryd.func135.trans (congrArg some (by kernel_rfl))
  f286 := Tryd.func136.trans (congrArg some (by kernel_rfl))
  f316 := Tryd.func196.trans (congrArg some (by kernel_rfl))
  f317 := Tryd.func170.trans (congrArg some (by kernel_rfl))
  f318 := Tryd.func172.trans (congrArg some (by kernel_rfl))
  f319 := Tryd.func173.trans (congrArg some (by kernel_rfl))
  f320 := Tryd.func174.trans (congrArg some (by kernel_rfl))
  f337 := Tryd.func194.trans (congrArg some (by kernel_rfl))
  f338 := Tryd.func195.trans (congrArg some (by kernel_rfl))
  t0 := Tryd.underlying0
  a0 := Tryd.isAgg0
  z0 := Tryd.sizeOf0
  v0 := Tryd.zeroValue0
  t2 := Tryd.underlying2
  a2 := Tryd.isAgg2
  z2 := Tryd.sizeOf2
  v2 := Tryd.zeroValue2
  t3 := Tryd.underlying3
  a3 := Tryd.isAgg3
  z3 := Tryd.sizeOf3
  v3 := Tryd.zeroValue3
  t4 := Tryd.underlying4
  a4 := Tryd.isAgg4
  z4 := Tryd.sizeOf4
  v4 := Tryd.zeroValue4
  t5 := Tryd.underlying5
  a5 := Tryd.isAgg5
  z5 := Tryd.sizeOf5
  v5 := Tryd.zeroValue5
  t9 := Tryd.underlying9
  a9 := Tryd.isAgg9
  z9 := Tryd.sizeOf9
  v9 := Tryd.zeroValue9
  t20 := Tryd.underlying20
  a20 := Tryd.isAgg20
  z20 := Tryd.sizeOf20
  v20 := Tryd.zeroValue20
  t37 := Tryd.underlying84
  a37 := Tryd.isAgg84
  z37 := Tryd.sizeOf84
  v37 := Tryd.zeroValue84
  t46 := Tryd.underlying130
  a46 := Tryd.isAgg130
  z46 := Tryd.sizeOf130
  v46 := Tryd.zeroValue130
  t51 := Tryd.underlying165
  a51 := Tryd.isAgg165
  z51 := Tryd.sizeOf165
  v51 := Tryd.zeroValue165
  t53 := Tryd.underlying22
  a53 := Tryd.isAgg22
  z53 := Tryd.sizeOf22
  v53 := Tryd.zeroValue22
  t75 := Tryd.underlying88
  a75 := Tryd.isAgg88
  z75 := Tryd.sizeOf88
  v75 := Tryd.zeroValue88
  t127 := Tryd.underlying133
  a127 := Tryd.isAgg133
  z127 := Tryd.sizeOf133
  v127 := Tryd.zeroValue133
  t143 := Tryd.underlying227
  a143 := Tryd.isAgg227
  z143 := Tryd.sizeOf227
  v143 := Tryd.zeroValue227
  t145 := Tryd.underlying229
  a145 := Tryd.isAgg229
  z145 := Tryd.sizeOf229
  v145 := Tryd.zeroValue229
  t167 := Tryd.underlying202
  a167 := Tryd.isAgg202
  z167 := Tryd.sizeOf202
  v167 := Tryd.zeroValue202
  t168 := Tryd.underlying204
  a168 := Tryd.isAgg204
  z168 := Tryd.sizeOf204
  v168 := Tryd.zeroValue204
  t171 := Tryd.underlying166
  a171 := Tryd.isAgg166
  z171 := Tryd.sizeOf166
  v171 := Tryd.zeroValue166
  t173 := Tryd.underlying169
  a173 := Tryd.isAgg169
  z173 := Tryd.sizeOf169
  v173 := Tryd.zeroValue169
  t210 := Tryd.underlying222
  a210 := Tryd.isAgg222
  z210 := Tryd.sizeOf222
  v210 := Tryd.zeroValue222
  t212 := Tryd.underlying199
  a212 := Tryd.isAgg199
  z212 := Tryd.sizeOf199
  v212 := Tryd.zeroValue199
  t213 := Tryd.underlying200
  a213 := Tryd.isAgg200
  z213 := Tryd.sizeOf200
  t232 := Tryd.underlying225
  a232 := Tryd.isAgg225
  z232 := Tryd.sizeOf225
  v232 := Tryd.zeroValue225
  t233 := Tryd.underlying226
  a233 := Tryd.isAgg226
  z233 := Tryd.sizeOf226
  v233 := Tryd.zeroValue226
  g15 := by kernel_rfl
  g16 := by kernel_rfl
  g17 := by kernel_rfl
  g18 := by kernel_rfl
  g19 := by kernel_rfl
  t80 := Tryd.underlying94
  a80 := Tryd.isAgg94
  z80 := Tryd.sizeOf94
  v80 := Tryd.zeroValue94
  i0 := by kernel_rfl
  i2 := by kernel_rfl
  i3 := by kernel_rfl
  i4 := by kernel_rfl
  i5 := by kernel_rfl
  i9 := by kernel_rfl
  i20 := by kernel_rfl
  i37 := by kernel_rfl
  i46 := by kernel_rfl
  i51 := by kernel_rfl
  i53 := by kernel_rfl
  i75 := by kernel_rfl
  i80 := by kernel_rfl
  i127 := by kernel_rfl
  i143 := by kernel_rfl
  i145 := by kernel_rfl
  i167 := by kernel_rfl
  i168 := by kernel_rfl
  i171 := by kernel_rfl
  i173 := by kernel_rfl
  i210 := by kernel_rfl
  i212 := by kernel_rfl
  i232 := by kernel_rfl
  i233 := by kernel_rfl
  m15 := by kernel_rfl
  m16 := by kernel_rfl
  m17 := by kernel_rfl
  m18 := by kernel_rfl
  m19 := by kernel_rfl
  c0 := by kernel_rfl
  c2 := by kernel_rfl
  c3 := by kernel_rfl
  c4 := by kernel_rfl
  c5 := by kernel_rfl
  c9 := by kernel_rfl
  c20 := by kernel_rfl
  c37 := by kernel_rfl
  c46 := by kernel_rfl
  c51 := by kernel_rfl
  c53 := by kernel_rfl
  c75 := by kernel_rfl
  c80 := by kernel_rfl
  c127 := by kernel_rfl
  c143 := by kernel_rfl
  c145 := by kernel_rfl
  c167 := by kernel_rfl
  c168 := by kernel_rfl
  c171 := by kernel_rfl
  c173 := by kernel_rfl
  c210 := by kernel_rfl
  c212 := by kernel_rfl
  c213 := by kernel_rfl
  c232 := by kernel_rfl
  c233 := by kernel_rfl }
open Go.RowKit in
/-- strconv.toError, at the inner package's ErrSyntax: 'syntaxError(fn, s)' as an error: A *NumError IN A NEW BLOCK. (LAID: no walk: one application.) -/
theorem Tryd.strconv_toError_syntax (fn s : ByteArray) (base bits : Int) (ev : Value) (w : World) (hlim : s.size ≤ 281474976710656) (hv : w.cell? ⟨4, 0, none⟩ = some ev) (hev : ev = .nilIface ∨ ∃ te pe, ev = .iface te pe) :
    Calls Tryd.prog 139 #[.string fn, .string s, .int .i64 base, .int .i64 bits, .iface 202 (.int .i64 2)] w fun e w' => ∃ N, e = .returned (.iface 204 (.pointer (some ⟨N, 0, none⟩))) ∧ w.heap.size ≤ N ∧ w'.heap[N]? = some (.cells #[.string fn, .string s, ev] 222 (0, 0)) ∧ Below w.heap.size w w' := Any.strconv_toError_syntax Tryd.laysC245 fn s base bits ev w hlim hv hev
def Tryd.lays197_ren : Go.Shelf.Ren := ⟨fun | 197 => 102 | 260 => 140 | n => n, fun | 9 => 9 | 21 => 21 | 3 => 3 | 4 => 4 | 5 => 5 | 105 => 95 | 119 => 207 | 0 => 0 | 46 => 130 | 139 => 210 | 138 => 209 | n => n, fun | 3 => 1 | 4 => 2 | n => n⟩
theorem Tryd.lays197 : Go.Proofs.Lays.n197 Tryd.prog Tryd.lays197_ren := {
  mixed := by kernel_rfl
  f197 := Tryd.func102.trans (congrArg some (by kernel_rfl))
  f260 := Tryd.func140.trans (congrArg some (by kernel_rfl))
  t0 := Tryd.underlying0
  a0 := Tryd.isAgg0
  z0 := Tryd.sizeOf0
  v0 := Tryd.zeroValue0
  t3 := Tryd.underlying3
  a3 := Tryd.isAgg3
  z3 := Tryd.sizeOf3
  v3 := Tryd.zeroValue3
  t4 := Tryd.underlying4
  a4 := Tryd.isAgg4
  z4 := Tryd.sizeOf4
  v4 := Tryd.zeroValue4
  t5 := Tryd.underlying5
  a5 := Tryd.isAgg5
  z5 := Tryd.sizeOf5
  v5 := Tryd.zeroValue5
  t9 := Tryd.underlying9
  a9 := Tryd.isAgg9
  z9 := Tryd.sizeOf9
  v9 := Tryd.zeroValue9
  t21 := Tryd.underlying21
  a21 := Tryd.isAgg21
  z21 := Tryd.sizeOf21
  v21 := Tryd.zeroValue21
  t46 := Tryd.underlying130
  a46 := Tryd.isAgg130
  z46 := Tryd.sizeOf130
  v46 := Tryd.zeroValue130
  t105 := Tryd.underlying95
  a105 := Tryd.isAgg95
  z105 := Tryd.sizeOf95
  v105 := Tryd.zeroValue95
  t119 := Tryd.underlying207
  a119 := Tryd.isAgg207
  z119 := Tryd.sizeOf207
  t138 := Tryd.underlying209
  a138 := Tryd.isAgg209
  z138 := Tryd.sizeOf209
  v138 := Tryd.zeroValue209
  t139 := Tryd.underlying210
  a139 := Tryd.isAgg210
  z139 := Tryd.sizeOf210
  v139 := Tryd.zeroValue210
  g3 := by kernel_rfl
  g4 := by kernel_rfl }
def Tryd.lays260_ren : Go.Shelf.Ren := ⟨fun | 260 => 140 | n => n, fun | 9 => 9 | 21 => 21 | 3 => 3 | 4 => 4 | 5 => 5 | 119 => 207 | 0 => 0 | 46 => 130 | 139 => 210 | 138 => 209 | n => n, fun | 3 => 1 | 4 => 2 | n => n⟩
theorem Tryd.lays260 : Go.Proofs.Lays.n260 Tryd.prog Tryd.lays260_ren := {
  mixed := by kernel_rfl
  f260 := Tryd.func140.trans (congrArg some (by kernel_rfl))
  t0 := Tryd.underlying0
  a0 := Tryd.isAgg0
  z0 := Tryd.sizeOf0
  v0 := Tryd.zeroValue0
  t3 := Tryd.underlying3
  a3 := Tryd.isAgg3
  z3 := Tryd.sizeOf3
  v3 := Tryd.zeroValue3
  t4 := Tryd.underlying4
  a4 := Tryd.isAgg4
  z4 := Tryd.sizeOf4
  v4 := Tryd.zeroValue4
  t5 := Tryd.underlying5
  a5 := Tryd.isAgg5
  z5 := Tryd.sizeOf5
  v5 := Tryd.zeroValue5
  t9 := Tryd.underlying9
  a9 := Tryd.isAgg9
  z9 := Tryd.sizeOf9
  v9 := Tryd.zeroValue9
  t21 := Tryd.underlying21
  a21 := Tryd.isAgg21
  z21 := Tryd.sizeOf21
  v21 := Tryd.zeroValue21
  t46 := Tryd.underlying130
  a46 := Tryd.isAgg130
  z46 := Tryd.sizeOf130
  v46 := Tryd.zeroValue130
  t119 := Tryd.underlying207
  a119 := Tryd.isAgg207
  z119 := Tryd.sizeOf207
  t138 := Tryd.underlying209
  a138 := Tryd.isAgg209
  z138 := Tryd.sizeOf209
  v138 := Tryd.zeroValue209
  t139 := Tryd.underlying210
  a139 := Tryd.isAgg210
  z139 := Tryd.sizeOf210
  v139 := Tryd.zeroValue210
  g3 := by kernel_rfl
  g4 := by kernel_rfl }
open Go.RowKit Go.Lib in
/-- **unicode/utf8.DecodeRuneInString AT EVERY STRING.** (LAID: no walk: one application.) -/
theorem Tryd.utf8_DecodeRuneInString (s : ByteArray) (w : World) (hT : Lib.Utf8Tabs 1 2 w) :
    Calls Tryd.prog 102 #[.string s] w fun e w' => e = .returned (.tuple #[.int .i32 (Lib.decodeGo s).1, .int .i64 (Lib.decodeGo s).2]) ∧ Below w.heap.size w w' := Any.utf8_DecodeRuneInString Tryd.lays197 s w hT
end Go.Proofs
end
section
namespace Go.Proofs.YtmfchbkdakmjhaaDoor
set_option linter.unusedSectionVars false
set_option linter.unusedSimpArgs false
set_option linter.unusedVariables false
open Go Go.SX Go.Bg Go.Nm
set_option maxRecDepth 100000
set_option maxHeartbeats 1000000
section
variable [G : Globs]
end
end Go.Proofs.YtmfchbkdakmjhaaDoor
end
section
namespace Go.Proofs.YtmfchbkdakmjhaaDoor
set_option linter.unusedSectionVars false
set_option linter.unusedSimpArgs false
set_option linter.unusedVariables false
open Go Go.SX Go.Bg Go.Nm
set_option maxRecDepth 100000
set_option maxHeartbeats 1000000
/-- the library's tables stand as laid: powers of 10 in block 0, places of bits in block 7 -/
def HasNum [G : Globs] : Prop := ∃ o0 o1 : Obj, (0, o0) ∈ G.gl ∧ (7, o1) ∈ G.gl ∧ ∀ w : World, w.heap[0]? = some o0 → w.heap[7]? = some o1 → Lib.TabIs Tryd.prog w "internal/strconv.uint64pow10" .u64 Lib.pow10Tab ∧ TabAt 7 Lib.deBruijn64tab w
def tzR : Go.Shelf.Ren := ⟨fun | 27 => 174 | 28 => 194 | 29 => 195 | n => n, fun | 0 => 0 | 3 => 3 | 4 => 4 | 5 => 5 | 22 => 22 | 25 => 130 | 27 => 165 | 53 => 225 | 54 => 226 | n => n, fun | 0 => 6 | 1 => 7 | n => n⟩
theorem tzL : Lays7.n27 Tryd.prog tzR := {
  mixed := by kernel_rfl
  f27 := Tryd.func174.trans (congrArg some (by kernel_rfl))
  f28 := Tryd.func194.trans (congrArg some (by kernel_rfl))
  f29 := Tryd.func195.trans (congrArg some (by kernel_rfl))
  t0 := Tryd.underlying0
  a0 := Tryd.isAgg0
  z0 := Tryd.sizeOf0
  v0 := Tryd.zeroValue0
  i0 := by kernel_rfl
  t3 := Tryd.underlying3
  a3 := Tryd.isAgg3
  z3 := Tryd.sizeOf3
  v3 := Tryd.zeroValue3
  i3 := by kernel_rfl
  t4 := Tryd.underlying4
  a4 := Tryd.isAgg4
  z4 := Tryd.sizeOf4
  v4 := Tryd.zeroValue4
  i4 := by kernel_rfl
  t5 := Tryd.underlying5
  a5 := Tryd.isAgg5
  z5 := Tryd.sizeOf5
  v5 := Tryd.zeroValue5
  i5 := by kernel_rfl
  t22 := Tryd.underlying22
  a22 := Tryd.isAgg22
  z22 := Tryd.sizeOf22
  v22 := Tryd.zeroValue22
  i22 := by kernel_rfl
  t25 := Tryd.underlying130
  a25 := Tryd.isAgg130
  z25 := Tryd.sizeOf130
  v25 := Tryd.zeroValue130
  i25 := by kernel_rfl
  t27 := Tryd.underlying165
  a27 := Tryd.isAgg165
  z27 := Tryd.sizeOf165
  v27 := Tryd.zeroValue165
  i27 := by kernel_rfl
  t53 := Tryd.underlying225
  a53 := Tryd.isAgg225
  z53 := Tryd.sizeOf225
  v53 := Tryd.zeroValue225
  i53 := by kernel_rfl
  t54 := Tryd.underlying226
  a54 := Tryd.isAgg226
  z54 := Tryd.sizeOf226
  g0 := by kernel_rfl
  g1 := by kernel_rfl }
section
variable [G : Globs]
theorem s_tz (ht : HasNum) (x : Nat) (hx : x < 18446744073709551616) : PSpec Tryd.prog 174 [.i .u64 x] (.i .i64 (Lib.ctz 64 x)) := by
  refine ⟨Tryd.call174, fun O w vs hO hG hargs => ?_⟩
  obtain ⟨v0, vs0, rfl, h0, h⟩ := hargs.cons_inv
  obtain rfl := h.nil_inv
  cases h0
  obtain ⟨o0, o1, m0, m1, hT⟩ := ht
  have hT := hT w (hG _ m0).2 (hG _ m1).2
  refine (Any7.bits_TrailingZeros tzL x hx w (fun _ => hT.2)).mono fun e w' ⟨he, hw⟩ => ?_
  subst he hw
  exact ⟨_, rfl, Stp.refl _ _, .i _ _⟩
theorem w_isPow (b : Int) (hb : b = 2 ∨ b = 8 ∨ b = 16) : vc Tryd.prog Γ 8 [0, 2] (Tryd.f173.body.getD .skip) (postK Γ [.tmp 2] (fun v => v = .b true)) ⟨argSlots 0 [.i .i64 b], []⟩ := by
  rcases hb with rfl | rfl | rfl
  all_goals
    (repeat' (first | (refine And.intro (fun h => ?_) (fun h => ?_) <;> (try simp [-List.getD_eq_getElem?_getD, -Int.pred_toNat] at h) <;> (try (exfalso; first | omega | contradiction))) | (refine And.intro (rng64 (by omega) (by omega)) ?_) | (refine And.intro ⟨by omega, by omega⟩ ?_) | (refine And.intro ⟨by omega, by omega, by omega⟩ ?_) | (intro _)))
    rfl
theorem s_isPow (b : Int) (hb : b = 2 ∨ b = 8 ∨ b = 16) : PSpec Tryd.prog 173 [.i .i64 b] (.b true) :=
  pspec_of_vc Γ_good Tryd.func173 rfl Tryd.call173 Tryd.results173 Tryd.ntmps173 (Nat.le_of_ble_eq_true rfl) (w_isPow b hb)
end
end Go.Proofs.YtmfchbkdakmjhaaDoor
end
section
namespace Go.Proofs.YtmfchbkdakmjhaaDoor
set_option linter.unusedSectionVars false
set_option linter.unusedSimpArgs false
set_option linter.unusedVariables false
open Go Go.SX Go.Bg Go.Nm
set_option maxRecDepth 100000
set_option maxHeartbeats 1000000
def toJ (s : Str) : List Int := s.map fun b => (b.toNat : Int)
theorem toJ_len (s : Str) : (toJ s).length = s.length := List.length_map ..
theorem ofB_toJ (s : Str) : (toJ s).map ofB = s := by
  unfold toJ
  rw [List.map_map]
  conv => rhs; rw [← List.map_id s]
  refine List.map_congr_left fun b _ => ?_
  simp [ofB]
/-- the array: noughts, and the text behind them -/
def arrL (t : Str) : List Int := List.replicate (65 - t.length) 0 ++ toJ t
theorem arrL_len {t : Str} (h : t.length ≤ 65) : (arrL t).length = 65 := by
  unfold arrL
  rw [List.length_append, List.length_replicate, toJ_len]
  omega
theorem arrL_set {t : Str} {c : UInt8} (h : t.length < 65) : (arrL t).set (65 - t.length - 1) (c.toNat : Int) = arrL (c :: t) := by
  unfold arrL
  have e : 65 - t.length = (65 - t.length - 1) + 1 := by omega
  rw [List.length_cons, show 65 - (t.length + 1) = 65 - t.length - 1 by omega]
  generalize 65 - t.length - 1 = k at e
  rw [e, List.replicate_succ', List.append_assoc, List.set_append_right _ _ (by rw [List.length_replicate]; exact Nat.le_refl _), List.length_replicate, Nat.sub_self]
  rfl
theorem arrL_drop {t : Str} (h : t.length ≤ 65) : (arrL t).drop (65 - t.length) = toJ t := by
  unfold arrL
  rw [List.drop_append_of_le_length (by rw [List.length_replicate]; exact Nat.le_refl _), List.drop_of_length_le (by rw [List.length_replicate]; exact Nat.le_refl _)]
  rfl
def digS : Str := [48, 49, 50, 51, 52, 53, 54, 55, 56, 57, 97, 98, 99, 100, 101, 102, 103, 104, 105, 106, 107, 108, 109, 110, 111, 112, 113, 114, 115, 116, 117, 118, 119, 120, 121, 122]
theorem dig_at {d : Nat} (h : d < 16) : digS.getD (Int.toNat (d : Int)) 0 = dcI (d : Int) := by
  rcases (show d = 0 ∨ d = 1 ∨ d = 2 ∨ d = 3 ∨ d = 4 ∨ d = 5 ∨ d = 6 ∨ d = 7 ∨ d = 8 ∨ d = 9 ∨ d = 10 ∨ d = 11 ∨ d = 12 ∨ d = 13 ∨ d = 14 ∨ d = 15 by omega) with rfl | rfl | rfl | rfl | rfl | rfl | rfl | rfl | rfl | rfl | rfl | rfl | rfl | rfl | rfl | rfl <;> rfl
theorem and_low {m b k : Nat} (hb : b = 2 ^ k) (hk : k ≤ 4) (hm : m < 18446744073709551616) : bits .and .u64 (m : Int) ((b : Int) - 1) = ((m % b : Nat) : Int) := by
  have hp : 0 < b := by rw [hb]; exact Nat.pow_pos (by decide)
  have hb2 : b ≤ 16 := by rw [hb]; exact Nat.pow_le_pow_right (n := 2) (by decide) hk
  have e : (b : Int) - 1 = ((b - 1 : Nat) : Int) := by omega
  rw [e, bits_and_u64_nat m (b - 1) hm (by omega), hb, Nat.and_two_pow_sub_one_eq_mod]
theorem shr_low {m b k : Nat} (hb : b = 2 ^ k) (hk : k ≤ 4) : (m : Int).fdiv (2 ^ min (Int.toNat (k : Int)) IntKind.u64.bits) = ((m / b : Nat) : Int) := by
  have e : min (Int.toNat (k : Int)) IntKind.u64.bits = k := by
    rw [Int.toNat_natCast]
    exact Nat.min_eq_left (show k ≤ 64 by omega)
  rw [e, hb, Int.fdiv_eq_ediv_of_nonneg _ (Int.le_of_lt (Int.pow_pos (by decide))), Int.natCast_ediv, Int.natCast_pow]
  rfl
theorem arr_put {t : Str} {d : Nat} (h : t.length < 65) (hd : d < 16) : (arrL t).set (Int.toNat (((65 - t.length : Nat) : Int) - 1)) ((((48 :: 49 :: 50 :: 51 :: 52 :: 53 :: 54 :: 55 :: 56 :: 57 :: 97 :: 98 :: 99 :: 100 :: 101 :: 102 :: 103 :: 104 :: 105 :: 106 :: 107 :: 108 :: 109 :: 110 :: 111 :: 112 :: 113 :: 114 :: 115 :: 116 :: 117 :: 118 :: 119 :: 120 :: 121 :: 122 :: ([] : Str)).getD (Int.toNat (d : Int)) 0).toNat : Nat) : Int) = arrL (dcI (d : Int) :: t) := by
  rw [show (48 :: 49 :: 50 :: 51 :: 52 :: 53 :: 54 :: 55 :: 56 :: 57 :: 97 :: 98 :: 99 :: 100 :: 101 :: 102 :: 103 :: 104 :: 105 :: 106 :: 107 :: 108 :: 109 :: 110 :: 111 :: 112 :: 113 :: 114 :: 115 :: 116 :: 117 :: 118 :: 119 :: 120 :: 121 :: 122 :: ([] : Str)) = digS from rfl, dig_at hd, show Int.toNat (((65 - t.length : Nat) : Int) - 1) = 65 - t.length - 1 by omega]
  exact arrL_set h
theorem arr_min {t : Str} (h : t.length < 65) : (arrL t).set (Int.toNat (((65 - t.length : Nat) : Int) - 1)) 45 = arrL (45 :: t) := by
  rw [show Int.toNat (((65 - t.length : Nat) : Int) - 1) = 65 - t.length - 1 by omega]
  exact arrL_set (c := 45) h
theorem arr_txt {t : Str} (h : t.length ≤ 65) : ((arrL t).drop (Int.toNat ((65 - t.length : Nat) : Int))).map ofB = t := by
  rw [Int.toNat_natCast, arrL_drop h, ofB_toJ]
/-- the text of a number to these bases, without what tells the base -/
def txtB (n : Int) (b : Nat) : Str := (if n < 0 then [45] else []) ++ txtN b n.natAbs
theorem txt_last {b a : Nat} (hb : 2 ≤ b) {m : Nat} {t : Str} (hm : m < b) (hI : tailN b m ++ t = tailN b a) (h0 : 0 < m ∨ (a = 0 ∧ t = [])) : dcI (m : Int) :: t = txtN b a := by
  rcases Nat.eq_zero_or_pos a with e | e
  · subst e
    rcases h0 with h | ⟨_, h⟩
    · exfalso
      rw [tailN_pos hb h, tailN_zero] at hI
      simp at hI
    · subst h
      rcases Nat.eq_zero_or_pos m with e | e
      · subst e; rfl
      · exfalso
        rw [tailN_pos hb e, tailN_zero] at hI
        simp at hI
  · rw [txtN_pos e, ← hI]
    rcases h0 with h | ⟨h, _⟩
    · rw [tailN_pos hb h, Nat.div_eq_of_lt hm, Nat.mod_eq_of_lt hm, tailN_zero]
      rfl
    · omega
section
variable [G : Globs]
theorem w_fbits (ht : HasNum) (n : Int) (b k : Nat) (hb : b = 2 ^ k) (hk : k = 1 ∨ k = 3 ∨ k = 4) (hc : Lib.ctz 64 b = k) (h0 : -9223372036854775808 ≤ n) (h1 : n ≤ 9223372036854775807) : VCs Tryd.prog Γ 102 [0, 1, 2, 3, 4, 10, 11, 12, 13, 14, 15, 16, 17, 18, 28, 30, 34, 46, 68, 89, 94] (Tryd.f136.body.getD .skip) (postK Γ [.tmp 10, .tmp 11] (fun v => v = .tup [.nl, .s (txtB n b)])) ⟨argSlots 0 [.nl, .i .u64 (IntKind.u64.wrap n), .i .i64 (b : Int), .b (decide (n < 0)), .b false], []⟩ := by
  have hbv : (b = 2 ∧ k = 1) ∨ (b = 8 ∧ k = 3) ∨ (b = 16 ∧ k = 4) := by
    rcases hk with rfl | rfl | rfl
    · exact .inl ⟨hb, rfl⟩
    · exact .inr (.inl ⟨hb, rfl⟩)
    · exact .inr (.inr ⟨hb, rfl⟩)
  have hwb : IntKind.u64.wrap (b : Int) = (b : Int) := by rw [IntKind.wrap_u64]; omega
  have hwk : IntKind.u64.wrap (k : Int) = (k : Int) := by rw [IntKind.wrap_u64]; omega
  have hwm : IntKind.u64.wrap ((b : Int) - 1) = (b : Int) - 1 := by rw [IntKind.wrap_u64]; omega
  have hP := s_isPow (b : Int) (by omega)
  have hT := s_tz ht b (by omega)
  rw [hc] at hT
  have hA : n.natAbs ≤ 9223372036854775808 := by omega
  have hu1 : n < 0 → IntKind.u64.wrap (0 - IntKind.u64.wrap n) = (n.natAbs : Int) := fun h => by
    have e : IntKind.u64.wrap n = n + 18446744073709551616 := by rw [IntKind.wrap_u64]; omega
    rw [e, IntKind.wrap_u64]
    omega
  have hu2 : 0 ≤ n → IntKind.u64.wrap n = (n.natAbs : Int) := fun h => by rw [IntKind.wrap_u64]; omega
  refine VCs.seq (by first | exact Γ_good | exact Ctx.good_kp Γ_good _) ?_
  refine VCs.cut (by first | exact Γ_good | exact Ctx.good_kp Γ_good _) Unit (fun _ => True) (fun _ => ⟨[(0, .nl), (1, .i .u64 (IntKind.u64.wrap n)), (2, .i .i64 (b : Int)), (3, .b (decide (n < 0))), (4, .b false), (10, .nl), (11, .s [])], []⟩) ?_ ?_
  · (repeat' (first | (refine And.intro (fun h => ?_) (fun h => ?_) <;> (try simp [-List.getD_eq_getElem?_getD, -Int.pred_toNat] at h) <;> (try (exfalso; first | omega | contradiction))) | (refine And.intro (rng64 (by omega) (by omega)) ?_) | (refine And.intro ⟨by omega, by omega⟩ ?_) | (refine And.intro ⟨by omega, by omega, by omega⟩ ?_) | (intro _)))
    refine Exists.intro () (And.intro trivial ?_)
    (repeat' (first | exact trivial | exact Or.inl rfl | exact Or.inr (Or.inl ⟨rfl, _, rfl⟩) | exact Or.inr (Or.inr (Or.inr ⟨_, _, _, rfl, rfl⟩)) | refine And.intro ?_ ?_))
  rintro ⟨⟩ _
  refine VCs.seq (by first | exact Γ_good | exact Ctx.good_kp Γ_good _) ?_
  refine VCs.seq (by first | exact Γ_good | exact Ctx.good_kp Γ_good _) ?_
  refine VCs.cut (by first | exact Γ_good | exact Ctx.good_kp Γ_good _) Unit (fun _ => True) (fun _ => ⟨[(1, .i .u64 (n.natAbs : Int)), (2, .i .i64 (b : Int)), (3, .b (decide (n < 0))), (4, .b false), (10, .nl), (11, .s []), (12, .vp 12 .u8 (arrL []) 0 0), (13, .i .i64 65)], []⟩) ?_ ?_
  · rcases (show n < 0 ∨ 0 ≤ n by omega) with h | h
    · (repeat' (first | (refine And.intro (fun h => ?_) (fun h => ?_) <;> (try simp [-List.getD_eq_getElem?_getD, -Int.pred_toNat] at h) <;> (try (exfalso; first | omega | contradiction))) | (refine And.intro (rng64 (by omega) (by omega)) ?_) | (refine And.intro ⟨by omega, by omega⟩ ?_) | (refine And.intro ⟨by omega, by omega, by omega⟩ ?_) | (intro _)))
      refine Exists.intro () (And.intro trivial ?_)
      (repeat' (first | exact trivial | exact Or.inl rfl | exact Or.inl ((congrArg (AV.i .u64) (hu1 h))) | exact Or.inl ((congrArg (fun z => AV.vp 12 .u8 z 0 0) (show List.replicate 65 (0 : Int) = arrL [] from rfl))) | refine And.intro ?_ ?_))
    · (repeat' (first | (refine And.intro (fun h => ?_) (fun h => ?_) <;> (try simp [-List.getD_eq_getElem?_getD, -Int.pred_toNat] at h) <;> (try (exfalso; first | omega | contradiction))) | (refine And.intro (rng64 (by omega) (by omega)) ?_) | (refine And.intro ⟨by omega, by omega⟩ ?_) | (refine And.intro ⟨by omega, by omega, by omega⟩ ?_) | (intro _)))
      refine Exists.intro () (And.intro trivial ?_)
      (repeat' (first | exact trivial | exact Or.inl rfl | exact Or.inl ((congrArg (AV.i .u64) (hu2 h))) | exact Or.inl ((congrArg (fun z => AV.vp 12 .u8 z 0 0) (show List.replicate 65 (0 : Int) = arrL [] from rfl))) | refine And.intro ?_ ?_))
  rintro ⟨⟩ _
  have hT2 : PSpec Tryd.prog 174 [.i .u64 (IntKind.u64.wrap (b : Int))] (.i .i64 (k : Int)) := by rw [hwb]; exact hT
  have hb2 : 2 ≤ b ∧ b ≤ 16 := by omega
  have hN64 : n.natAbs < 2 ^ 64 := by omega
  have hlen : (tailN b n.natAbs).length ≤ 64 := by
    unfold tailN
    rw [List.length_map, List.length_reverse]
    exact dg_len_le hb2.1 64 _ (Nat.lt_of_lt_of_le hN64 (Nat.pow_le_pow_left hb2.1 64))
  refine VCs.of_vc (by first | exact Γ_good | exact Ctx.good_kp Γ_good _) ?_
  refine Or.inl (Exists.intro _ (And.intro (hP) ?_))
  refine And.intro (fun _ => ?_) (fun h => by cases h)
  refine Or.inl (Exists.intro _ (And.intro (hT2) ?_))
  refine Exists.intro [] (Exists.intro [] (Exists.intro [] (Exists.intro (Nat × Str) (Exists.intro (fun q => tailN b q.1 ++ q.2 = tailN b n.natAbs ∧ q.1 ≤ n.natAbs ∧ (0 < q.1 ∨ (n.natAbs = 0 ∧ q.2 = []))) (Exists.intro (fun ⟨m, t⟩ => ⟨[(1, .i .u64 (m : Int)), (2, .i .i64 (b : Int)), (3, .b (decide (n < 0))), (4, .b false), (10, .nl), (11, .s []), (12, .vp 12 .u8 (arrL t) 0 0), (13, .i .i64 ((65 - t.length : Nat) : Int)), (14, .i .u64 (k : Int)), (15, .i .u64 (b : Int)), (16, .i .u64 ((b : Int) - 1))], []⟩) (Exists.intro (fun q => q.1) (Exists.intro (n.natAbs, []) (And.intro ⟨by simp, Nat.le_refl _, by rcases Nat.eq_zero_or_pos n.natAbs with e | e; exact Or.inr ⟨e, rfl⟩; exact Or.inl e⟩ (And.intro ?_ ?_)))))))))
  · (repeat' (first | exact trivial | exact Or.inl rfl | exact Or.inl ((congrArg (AV.i .u64) hwk)) | exact Or.inl ((congrArg (AV.i .u64) hwb)) | exact Or.inl ((congrArg (AV.i .u64) (show IntKind.u64.wrap (IntKind.u64.wrap (b : Int) - 1) = (b : Int) - 1 by rw [hwb, hwm]))) | refine And.intro ?_ ?_))
  · rintro ⟨m, t⟩ ⟨hI, hm, hz⟩
    simp only at hI hm hz
    have hab : m % b < 16 := Nat.lt_of_lt_of_le (Nat.mod_lt _ (by omega)) hb2.2
    have hand := and_low (m := m) hb (by omega) (by omega)
    have hshr := shr_low (m := m) (b := b) hb (by omega)
    have htl : t.length ≤ 63 ∨ (n.natAbs = 0 ∧ t = []) := by
      rcases hz with h | h
      · left
        have e := congrArg List.length hI
        rw [tailN_pos hb2.1 h, List.length_append, List.length_append, List.length_singleton] at e
        omega
      · exact Or.inr h
    have htl2 : t.length ≤ 63 := by rcases htl with h | ⟨_, h⟩; exact h; rw [h]; simp
    have hal := arrL_len (t := t) (by omega)
    refine And.intro (fun h => ?_) (fun h => ?_)
    · have hge : b ≤ m := by have : (m : Int) ≥ b := of_decide_eq_true h
                             omega
      refine And.intro (rng64 (by omega) (by omega)) ?_
      refine And.intro (show 0 ≤ bits .and .u64 (m : Int) ((b : Int) - 1) ∧ bits .and .u64 (m : Int) ((b : Int) - 1) < 36 by rw [hand]; omega) ?_
      refine And.intro ⟨by omega, by omega, by rw [hal]; omega⟩ ?_
      have hI2 : tailN b (m / b) ++ (dcI ((m % b : Nat) : Int) :: t) = tailN b n.natAbs := by
        rw [← hI, tailN_pos (n := m) hb2.1 (by omega), List.append_assoc]
        rfl
      (repeat' (first | (refine And.intro (fun h => ?_) (fun h => ?_) <;> (try simp [-List.getD_eq_getElem?_getD, -Int.pred_toNat] at h) <;> (try (exfalso; first | omega | contradiction))) | (refine And.intro (rng64 (by omega) (by omega)) ?_) | (refine And.intro ⟨by omega, by omega⟩ ?_) | (refine And.intro ⟨by omega, by omega, by omega⟩ ?_) | (intro _)))
      refine And.intro (Int.natCast_nonneg k) ?_
      (repeat' (first | (refine And.intro (fun h => ?_) (fun h => ?_) <;> (try simp [-List.getD_eq_getElem?_getD, -Int.pred_toNat] at h) <;> (try (exfalso; first | omega | contradiction))) | (refine And.intro (rng64 (by omega) (by omega)) ?_) | (refine And.intro ⟨by omega, by omega⟩ ?_) | (refine And.intro ⟨by omega, by omega, by omega⟩ ?_) | (intro _)))
      refine Exists.intro [] (Exists.intro (m / b, dcI ((m % b : Nat) : Int) :: t) (And.intro ⟨hI2, Nat.le_trans (Nat.div_le_self m b) hm, Or.inl (Nat.div_pos hge (by omega))⟩ (And.intro ?_ ?_)))
      · (repeat' (first | exact trivial | exact Or.inl rfl | exact Or.inl ((congrArg (AV.i .u64) hshr)) | exact Or.inl ((congrArg (fun z => AV.vp 12 .u8 z 0 0) (by rw [hand]; exact arr_put (by omega) hab))) | exact Or.inl ((congrArg (AV.i .i64) (show ((65 - t.length : Nat) : Int) - 1 = ((65 - (dcI ((m % b : Nat) : Int) :: t).length : Nat) : Int) by rw [List.length_cons]; omega))) | refine And.intro ?_ ?_))
      · exact Nat.div_lt_self (by omega) (by omega)
    · have hlt : m < b := by have : ¬ (m : Int) ≥ b := of_decide_eq_false h
                             omega
      have hlast := txt_last hb2.1 hlt hI hz
      refine And.intro (rng64 (by omega) (by omega)) ?_
      refine And.intro (show 0 ≤ (m : Int) ∧ (m : Int) < 36 from ⟨by omega, by omega⟩) ?_
      refine And.intro ⟨by omega, by omega, by rw [hal]; omega⟩ ?_
      have hput := arr_put (t := t) (d := m) (by omega) (by omega)
      have hl1 : (dcI (m : Int) :: t).length = t.length + 1 := rfl
      have hi1 : ((65 - t.length : Nat) : Int) - 1 = ((65 - (dcI (m : Int) :: t).length : Nat) : Int) := by rw [hl1]; omega
      have hwl := arrL_len (t := dcI (m : Int) :: t) (by omega)
      rcases (show n < 0 ∨ 0 ≤ n by omega) with hn | hn
      · have hB : txtB n b = 45 :: (dcI (m : Int) :: t) := by unfold txtB; rw [if_pos hn, hlast]; rfl
        rw [hB]
        (repeat' (first | (refine And.intro (fun h => ?_) (fun h => ?_) <;> (try simp [-List.getD_eq_getElem?_getD, -Int.pred_toNat] at h) <;> (try (exfalso; first | omega | contradiction))) | (refine And.intro (rng64 (by omega) (by omega)) ?_) | (refine And.intro ⟨by omega, by omega⟩ ?_) | (refine And.intro ⟨by omega, by omega, by omega⟩ ?_) | (intro _)))
        rw [hput, hi1]
        refine And.intro ⟨by omega, by omega, by rw [hwl]; omega⟩ ?_
        have hl2 : (45 :: dcI (m : Int) :: t).length = t.length + 2 := rfl
        have hi2 : ((65 - (dcI (m : Int) :: t).length : Nat) : Int) - 1 = ((65 - (45 :: dcI (m : Int) :: t).length : Nat) : Int) := by rw [hl1, hl2]; omega
        have hwl2 := arrL_len (t := 45 :: dcI (m : Int) :: t) (by omega)
        (repeat' (first | (refine And.intro (fun h => ?_) (fun h => ?_) <;> (try simp [-List.getD_eq_getElem?_getD, -Int.pred_toNat] at h) <;> (try (exfalso; first | omega | contradiction))) | (refine And.intro (rng64 (by omega) (by omega)) ?_) | (refine And.intro ⟨by omega, by omega⟩ ?_) | (refine And.intro ⟨by omega, by omega, by omega⟩ ?_) | (intro _)))
        rw [arr_min (t := dcI (m : Int) :: t) (by omega), hi2]
        refine And.intro ⟨by omega, by omega, hwl2⟩ ?_
        (repeat' (first | (refine And.intro (fun h => ?_) (fun h => ?_) <;> (try simp [-List.getD_eq_getElem?_getD, -Int.pred_toNat] at h) <;> (try (exfalso; first | omega | contradiction))) | (refine And.intro (rng64 (by omega) (by omega)) ?_) | (refine And.intro ⟨by omega, by omega⟩ ?_) | (refine And.intro ⟨by omega, by omega, by omega⟩ ?_) | (intro _)))
        exact congrArg (fun z => AV.tup [.nl, .s z]) (arr_txt (by omega))
      · have hB : txtB n b = dcI (m : Int) :: t := by unfold txtB; rw [if_neg (by omega), hlast]; rfl
        rw [hB]
        (repeat' (first | (refine And.intro (fun h => ?_) (fun h => ?_) <;> (try simp [-List.getD_eq_getElem?_getD, -Int.pred_toNat] at h) <;> (try (exfalso; first | omega | contradiction))) | (refine And.intro (rng64 (by omega) (by omega)) ?_) | (refine And.intro ⟨by omega, by omega⟩ ?_) | (refine And.intro ⟨by omega, by omega, by omega⟩ ?_) | (intro _)))
        rw [hput, hi1]
        refine And.intro ⟨by omega, by omega, hwl⟩ ?_
        (repeat' (first | (refine And.intro (fun h => ?_) (fun h => ?_) <;> (try simp [-List.getD_eq_getElem?_getD, -Int.pred_toNat] at h) <;> (try (exfalso; first | omega | contradiction))) | (refine And.intro (rng64 (by omega) (by omega)) ?_) | (refine And.intro ⟨by omega, by omega⟩ ?_) | (refine And.intro ⟨by omega, by omega, by omega⟩ ?_) | (intro _)))
        exact congrArg (fun z => AV.tup [.nl, .s z]) (arr_txt (by omega))
theorem s_fbits (ht : HasNum) (n : Int) (b k : Nat) (hb : b = 2 ^ k) (hk : k = 1 ∨ k = 3 ∨ k = 4) (hc : Lib.ctz 64 b = k) (h0 : -9223372036854775808 ≤ n) (h1 : n ≤ 9223372036854775807) : PSpec Tryd.prog 136 [.nl, .i .u64 (IntKind.u64.wrap n), .i .i64 (b : Int), .b (decide (n < 0)), .b false] (.tup [.nl, .s (txtB n b)]) :=
  pspec_of_VCs Γ_good Tryd.func136 rfl Tryd.call136 Tryd.results136 Tryd.ntmps136 (Nat.le_of_ble_eq_true rfl) (w_fbits ht n b k hb hk hc h0 h1) Γ_good
end
end Go.Proofs.YtmfchbkdakmjhaaDoor
end
section
namespace Go.Proofs.YtmfchbkdakmjhaaDoor
set_option linter.unusedSectionVars false
set_option linter.unusedSimpArgs false
set_option linter.unusedVariables false
open Go Go.SX Go.Ut Go.RowKit
set_option maxRecDepth 100000
set_option maxHeartbeats 0
/-- what is said of unicode/utf8's tables: where they lie -/
def HasU8 [G : Globs] : Prop := ∃ o0 o1 : Obj, (1, o0) ∈ G.gl ∧ (2, o1) ∈ G.gl ∧ ∀ w : World, w.heap[1]? = some o0 → w.heap[2]? = some o1 → Lib.Utf8Tabs 1 2 w
section
variable [G : Globs]
def decG (s : Str) : Nat × Nat := if s = [] then (65533, 0) else decAt s 0
theorem s_Decode (hu : HasU8) (s : Str) : PSpec Tryd.prog 102 [.s s] (.tup [.i .i32 (decG s).1, .i .i64 (decG s).2]) := by
  refine ⟨Tryd.call102, fun O w vs hO hG hargs => ?_⟩
  obtain ⟨v0, vs0, rfl, h0, h⟩ := hargs.cons_inv
  obtain rfl := h.nil_inv
  cases h0
  obtain ⟨o0, o1, m0, m1, ht⟩ := hu
  have hT := ht w (hG _ m0).2 (hG _ m1).2
  have hd : Lib.decodeGo ⟨s.toArray⟩ = decG s := by
    unfold Lib.decodeGo decG
    have hsz : (⟨s.toArray⟩ : ByteArray).size = s.length := by simp [ByteArray.size]
    rw [hsz]
    by_cases h : s = []
    · subst h; rfl
    · rw [if_neg (by simpa using h), if_neg h]
      exact decAt_eq s 0
  refine (Tryd.utf8_DecodeRuneInString ⟨s.toArray⟩ w hT).mono fun e w' ⟨he, hw⟩ => ?_
  subst he
  rw [hd]
  refine ⟨_, rfl, ⟨hw.os, hw.tape, hw.output, hw.size, fun k hk _ => hw.block k hk⟩, .tup _ [_, _] rfl fun j av v hav hv => ?_⟩
  match j with
  | 0 => simp at hav hv; subst hav hv; exact .i _ _
  | 1 => simp at hav hv; subst hav hv; exact .i _ _
  | j + 2 => simp at hav
def codeR (s : Str) : AV := .tup [.i .i32 (code s).1, .i .i64 (code s).2]
theorem w_Next (hu : HasU8) (s : Str) : vc Tryd.prog Γ 20 [0, 2, 3, 4, 5, 16] (Tryd.f63.body.getD .skip) (postK Γ [.tmp 2, .tmp 3] (fun v => v = codeR s)) ⟨argSlots 0 [.s s], []⟩ := by
  have qd := s_Decode hu s
  by_cases h : s = []
  · subst h
    refine Or.inl (Exists.intro _ (And.intro (qd) ?_))
    repeat (first | (focus (refine And.intro ?_ (fun h9 => ?_); rotate_left 1; (focus (exfalso; revert h9; first | decide | (simp <;> omega) | (intro h9; simp at h9 <;> omega))); refine fun _ => ?_)) | (focus (refine And.intro (fun h9 => ?_) ?_; (focus (exfalso; revert h9; first | decide | (simp <;> omega) | (intro h9; simp at h9 <;> omega))); refine fun _ => ?_)))
    rfl
  · have hd : decG s = decAt s 0 := by unfold decG; rw [if_neg h]
    rw [hd] at qd
    have hp := dec_pos s 0
    by_cases hb : (decAt s 0).1 = 65533 ∧ (decAt s 0).2 = 1
    · have hc : code s = (-1, 1) := by unfold code; rw [if_neg h, if_pos hb]
      rw [hb.1, hb.2] at qd
      unfold codeR
      rw [hc]
      refine Or.inl (Exists.intro _ (And.intro (qd) ?_))
      repeat (first | (focus (refine And.intro ?_ (fun h9 => ?_); rotate_left 1; (focus (exfalso; revert h9; first | decide | (simp <;> omega) | (intro h9; simp at h9 <;> omega))); refine fun _ => ?_)) | (focus (refine And.intro (fun h9 => ?_) ?_; (focus (exfalso; revert h9; first | decide | (simp <;> omega) | (intro h9; simp at h9 <;> omega))); refine fun _ => ?_)))
      rfl
    · have hc : code s = (((decAt s 0).1 : Int), (decAt s 0).2) := by unfold code; rw [if_neg h, if_neg hb]
      unfold codeR
      rw [hc]
      refine Or.inl (Exists.intro _ (And.intro (qd) ?_))
      refine And.intro (fun h1 => ?_) (fun h1 => ?_)
      · have h1 : (decAt s 0).1 = 65533 := by have := eq_of_beq h1; omega
        have h2 : (decAt s 0).2 ≠ 1 := fun e => hb ⟨h1, e⟩
        refine And.intro (fun h3 => ?_) (fun h3 => ?_)
        · exfalso
          have : (((decAt s 0).2 : Int) < 2) := of_decide_eq_true (show decide (((decAt s 0).2 : Int) < 2) = true from h3)
          omega
        · rfl
      · (focus (refine And.intro (fun h9 => ?_) ?_; (focus (exfalso; revert h9; first | decide | (simp <;> omega) | (intro h9; simp at h9 <;> omega))); refine fun _ => ?_))
        rfl
theorem s_Next (hu : HasU8) (s : Str) : PSpec Tryd.prog 63 [.s s] (codeR s) :=
  pspec_of_vc Γ_good Tryd.func63 rfl Tryd.call63 Tryd.results63 Tryd.ntmps63 (Nat.le_of_ble_eq_true rfl) (w_Next hu s)
theorem w_Scalar (n : Int) : vc Tryd.prog Γ 17 [0, 2] (Tryd.f65.body.getD .skip) (postK Γ [.tmp 2] (fun v => v = .b (decide (scalar n)))) ⟨argSlots 0 [.i .i64 n], []⟩ := by
  repeat' (refine And.intro (fun h => ?_) (fun h => ?_) <;> (try simp [-List.getD_eq_getElem?_getD, -Int.pred_toNat] at h))
  all_goals
    refine congrArg AV.b ?_
    rw [Bool.eq_iff_iff]
    simp only [cond_true, cond_false, decide_eq_true_eq, Bool.false_eq_true, true_iff, false_iff]
    unfold scalar
    first | omega | (constructor <;> intro h9 <;> (try (exfalso; exact h9)) <;> omega)
theorem s_Scalar (n : Int) : PSpec Tryd.prog 65 [.i .i64 n] (.b (decide (scalar n))) :=
  pspec_of_vc Γ_good Tryd.func65 rfl Tryd.call65 Tryd.results65 Tryd.ntmps65 (Nat.le_of_ble_eq_true rfl) (w_Scalar n)
theorem w_Size (n : Int) : vc Tryd.prog Γ 23 [0, 2, 3, 14, 17, 20] (Tryd.f101.body.getD .skip) (postK Γ [.tmp 2] (fun v => v = .i .i64 (sizeR n))) ⟨argSlots 0 [.i .i32 n], []⟩ := by
  repeat' (refine And.intro (fun h => ?_) (fun h => ?_) <;> (try simp [-List.getD_eq_getElem?_getD, -Int.pred_toNat] at h) <;> (try (exfalso; first | omega | contradiction)))
  all_goals
    refine congrArg (AV.i .i64) ?_
    unfold sizeR
    by_cases hs : scalar n
    · rw [if_pos hs]
      unfold scalar at hs
      (repeat' split) <;> omega
    · rw [if_neg hs]
      all_goals
        unfold scalar at hs
        omega
theorem s_Size (n : Int) : PSpec Tryd.prog 101 [.i .i32 n] (.i .i64 (sizeR n)) :=
  pspec_of_vc Γ_good Tryd.func101 rfl Tryd.call101 Tryd.results101 Tryd.ntmps101 (Nat.le_of_ble_eq_true rfl) (w_Size n)
end
end Go.Proofs.YtmfchbkdakmjhaaDoor
end
section
namespace Go.Proofs.YtmfchbkdakmjhaaDoor
set_option linter.unusedSectionVars false
set_option linter.unusedSimpArgs false
set_option linter.unusedVariables false
open Go Go.SX Go.Ut Go.RowKit
set_option maxRecDepth 100000
set_option maxHeartbeats 0
section
variable [G : Globs]
theorem acc_bnd {s : Str} {r : Int} (h0 : 0 ≤ r) (h1 : r ≤ 63) : ∀ (i : Nat), i ≤ 4 → (∀ j, 1 ≤ j → j < i → cont s j) → 0 ≤ acc s r i ∧ acc s r i ≤ 16777215 := by
  intro i hi hc
  have key : ∀ j, 1 ≤ j → j < i → 128 ≤ b8 s j ∧ b8 s j < 192 := hc
  match i, hi with
  | 0, _ => exact ⟨h0, by simp only [acc]; omega⟩
  | 1, _ => exact ⟨h0, by simp only [acc]; omega⟩
  | 2, _ => have k1 := key 1 (by decide) (by decide); simp only [acc]; omega
  | 3, _ => have k1 := key 1 (by decide) (by decide); have k2 := key 2 (by decide) (by decide); simp only [acc]; omega
  | 4, _ => have k1 := key 1 (by decide) (by decide); have k2 := key 2 (by decide) (by decide); have k3 := key 3 (by decide) (by decide); simp only [acc]; omega
  | i + 5, h => exfalso; omega
theorem i32_in (n : Int) (h0 : 0 ≤ n) (h1 : n ≤ 2147483647) : IntKind.i32.wrap n = n := IntWalk.i32_in n ⟨by omega, h1⟩
theorem w_Code (s : Str) : vc Tryd.prog Γ 90 [0, 2, 3, 4, 5, 6, 7, 9, 13, 19, 30, 41, 55, 58, 70, 86] (Tryd.f58.body.getD .skip) (postK Γ [.tmp 2, .tmp 3] (fun v => v = codeR s)) ⟨argSlots 0 [.s s], []⟩ := by
  by_cases h0 : s = []
  · subst h0
    (focus (refine And.intro ?_ (fun h9 => ?_); rotate_left 1; (focus (exfalso; revert h9; first | decide | (simp <;> omega) | (intro h9; simp at h9 <;> omega))); refine fun _ => ?_))
    rfl
  have hl : 1 ≤ s.length := by cases s with
    | nil => exact absurd rfl h0
    | cons c r => simp
  have hb := b8_rng s 0
  have hw : IntKind.i64.wrap (((s.getD (Int.toNat 0) 0).toNat : Nat) : Int) = b8 s 0 := IntWalk.i64_in _ ⟨by show _ ≤ b8 s 0; omega, by show b8 s 0 ≤ _; omega⟩
  refine And.intro (fun h9 => absurd (eq_of_beq h9) h0) (fun _ => ?_)
  rcases (show b8 s 0 < 128 ∨ (128 ≤ b8 s 0 ∧ b8 s 0 < 192) ∨ (192 ≤ b8 s 0 ∧ b8 s 0 < 224) ∨ (224 ≤ b8 s 0 ∧ b8 s 0 < 240) ∨ (240 ≤ b8 s 0 ∧ b8 s 0 < 248) ∨ 248 ≤ b8 s 0 by omega) with hc | hc | hc | hc | hc | hc
  · refine Exists.intro [.blk [0, 1, 2, 3, 4, 5]] (And.intro (by kernel_rfl) ?_)
    refine And.intro ⟨by omega, by omega⟩ ?_
    refine And.intro ⟨by omega, by omega⟩ ?_
    rw [hw]
    refine And.intro (fun _ => ?_) (fun h9 => absurd (show b8 s 0 < 128 by omega) (of_decide_eq_false h9))
    rw [codeR, code1 h0 hc]
    show AV.tup [.i .i32 (IntKind.i32.wrap (b8 s 0)), .i .i64 1] = _
    rw [i32_in _ (by omega) (by omega)]
    all_goals rfl
  · have hbad : code s = (-1, 1) := code_bad h0 (by omega)
    refine Exists.intro [.blk [0, 1, 2, 3, 4, 5]] (And.intro (by kernel_rfl) ?_)
    refine And.intro ⟨by omega, by omega⟩ ?_
    refine And.intro ⟨by omega, by omega⟩ ?_
    rw [hw]
    refine And.intro (fun h9 => absurd (of_decide_eq_true h9) (show ¬ (b8 s 0 < 128) by omega)) (fun _ => ?_)
    refine And.intro ⟨by omega, by omega⟩ ?_
    refine And.intro (fun h9 => absurd (of_decide_eq_true h9) (show ¬ (192 ≤ b8 s 0) by omega)) (fun _ => ?_)
    (focus (refine And.intro (fun h9 => ?_) ?_; (focus (exfalso; revert h9; first | decide | (simp <;> omega) | (intro h9; simp at h9 <;> omega))); refine fun _ => ?_))
    refine And.intro ⟨by omega, by omega⟩ ?_
    refine And.intro (fun h9 => absurd (of_decide_eq_true h9) (show ¬ (224 ≤ b8 s 0) by omega)) (fun _ => ?_)
    (focus (refine And.intro (fun h9 => ?_) ?_; (focus (exfalso; revert h9; first | decide | (simp <;> omega) | (intro h9; simp at h9 <;> omega))); refine fun _ => ?_))
    refine And.intro ⟨by omega, by omega⟩ ?_
    refine And.intro (fun h9 => absurd (of_decide_eq_true h9) (show ¬ (240 ≤ b8 s 0) by omega)) (fun _ => ?_)
    (focus (refine And.intro (fun h9 => ?_) ?_; (focus (exfalso; revert h9; first | decide | (simp <;> omega) | (intro h9; simp at h9 <;> omega))); refine fun _ => ?_))
    rw [codeR, hbad]
    rfl
  · have hlead : lead s = (2, 128, b8 s 0 - 192) := by unfold lead; rw [if_pos (by omega)]
    have hg : good s ↔ (2 ≤ s.length ∧ (∀ i, 1 ≤ i → i < 2 → cont s i) ∧ 128 ≤ acc s (b8 s 0 - 192) 2 ∧ scalar (acc s (b8 s 0 - 192) 2)) := by unfold good; rw [hlead]
    have hbad : ¬ good s → code s = (-1, 1) := (code_many h0 (by omega) (by omega)).2
    refine Exists.intro [.blk [0, 1, 2, 3, 4, 5]] (And.intro (by kernel_rfl) ?_)
    refine And.intro ⟨by omega, by omega⟩ ?_
    refine And.intro ⟨by omega, by omega⟩ ?_
    rw [hw]
    refine And.intro (fun h9 => absurd (of_decide_eq_true h9) (show ¬ (b8 s 0 < 128) by omega)) (fun _ => ?_)
    refine And.intro ⟨by omega, by omega⟩ ?_
    refine And.intro (fun _ => ?_) (fun h9 => absurd (show 192 ≤ b8 s 0 by omega) (of_decide_eq_false h9))
    refine And.intro ⟨by omega, by omega⟩ ?_
    refine And.intro (fun _ => ?_) (fun h9 => absurd (show b8 s 0 < 224 by omega) (of_decide_eq_false h9))
    refine And.intro ⟨by omega, by omega⟩ ?_
    intro _
    refine And.intro (fun hs => ?_) (fun hs => ?_)
    · have hs : (s.length : Int) < 2 := of_decide_eq_true hs
      show AV.tup [.i .i32 (-1), .i .i64 1] = codeR s
      rw [codeR, hbad (fun h => by have := (hg.1 h).1; omega)]
      all_goals rfl
    · have hs : ¬ (s.length : Int) < 2 := of_decide_eq_false hs
      refine Exists.intro [] (Exists.intro [] (Exists.intro [] (Exists.intro Nat (Exists.intro (fun i => 1 ≤ i ∧ i ≤ 2 ∧ ∀ j, 1 ≤ j → j < i → cont s j) (Exists.intro (fun i => ⟨[(0, .s s), (4, .i .i64 2), (5, .i .i64 128), (6, .i .i64 (acc s (b8 s 0 - 192) i)), (7, .i .i64 i)], []⟩) (Exists.intro (fun i => 2 - i) (Exists.intro 1 (And.intro ⟨Nat.le_refl _, by decide, fun j h1 h2 => by omega⟩ (And.intro ?_ ?_)))))))))
      · (repeat' (first | exact trivial | exact Or.inl rfl | exact Or.inr (Or.inl ⟨rfl, _, rfl⟩) | exact Or.inr (Or.inr (Or.inr ⟨_, _, _, rfl, rfl⟩)) | refine And.intro ?_ ?_))
      · rintro i ⟨hi1, hin, hcs⟩
        have hab := acc_bnd (s := s) (r := (b8 s 0 - 192)) (by omega) (by omega) i (by omega) hcs
        have hbi := b8_rng s i
        refine And.intro (fun hc => ?_) (fun hc => ?_)
        · have hc : i < 2 := by have : (i : Int) < 2 := of_decide_eq_true hc; omega
          refine And.intro ⟨by omega, by omega⟩ ?_
          refine And.intro (fun h1 => ?_) (fun h1 => ?_)
          · have h1 : ¬ b8 s i < 128 := of_decide_eq_false h1
            refine And.intro ⟨by omega, by omega⟩ ?_
            refine And.intro (fun h2 => ?_) (fun h2 => ?_)
            · have h2 : 192 ≤ b8 s i := of_decide_eq_true h2
              show AV.tup [.i .i32 (-1), .i .i64 1] = codeR s
              rw [codeR, hbad (fun h => by have := (hg.1 h).2.1 i hi1 hc; unfold cont at this; omega)]
              all_goals rfl
            · have h2 : ¬ 192 ≤ b8 s i := of_decide_eq_false h2
              have hwi : IntKind.i64.wrap (((s.getD (Int.toNat (i : Int)) 0).toNat : Nat) : Int) = b8 s i := IntWalk.i64_in _ ⟨by show _ ≤ b8 s i; omega, by show b8 s i ≤ _; omega⟩
              have hacc : acc s (b8 s 0 - 192) (i + 1) = acc s (b8 s 0 - 192) i * 64 + b8 s i - 128 := by
                obtain ⟨k, rfl⟩ : ∃ k, i = k + 1 := ⟨i - 1, by omega⟩
                rfl
              refine And.intro ⟨by omega, by omega⟩ ?_
              refine And.intro ⟨by omega, by omega⟩ ?_
              refine And.intro ⟨by rw [hwi]; omega, by rw [hwi]; omega⟩ ?_
              rw [hwi]
              refine And.intro ⟨by omega, by omega⟩ ?_
              refine And.intro ⟨by omega, by omega⟩ ?_
              have hcs' : ∀ j, 1 ≤ j → j < i + 1 → cont s j := fun j h3 h4 => by
                rcases Nat.lt_or_ge j i with h | h
                · exact hcs j h3 h
                · have : j = i := by omega
                  subst this
                  exact ⟨by omega, by omega⟩
              refine Exists.intro [] (Exists.intro (i + 1) (And.intro ⟨by omega, by omega, hcs'⟩ (And.intro ?_ ?_)))
              · (repeat' (first | exact trivial | exact Or.inl rfl | exact Or.inl (congrArg (AV.i .i64) hacc.symm) | refine And.intro ?_ ?_))
              · show 2 - (i + 1) < 2 - i
                omega
          · have h1 : b8 s i < 128 := of_decide_eq_true (show decide (b8 s i < 128) = true from h1)
            (focus (refine And.intro ?_ (fun h9 => ?_); rotate_left 1; (focus (exfalso; revert h9; first | decide | (simp <;> omega) | (intro h9; simp at h9 <;> omega))); refine fun _ => ?_))
            show AV.tup [.i .i32 (-1), .i .i64 1] = codeR s
            rw [codeR, hbad (fun h => by have := (hg.1 h).2.1 i hi1 hc; unfold cont at this; omega)]
            all_goals rfl
        · have hc : i = 2 := by have : ¬ (i : Int) < 2 := of_decide_eq_false hc; omega
          subst hc
          refine And.intro (fun h1 => ?_) (fun h1 => ?_)
          · have h1 : ¬ acc s (b8 s 0 - 192) 2 < 128 := of_decide_eq_false h1
            refine Or.inl (Exists.intro _ (And.intro (s_Scalar (acc s (b8 s 0 - 192) 2)) ?_))
            refine And.intro (fun h2 => ?_) (fun h2 => ?_)
            · have h2 : ¬ scalar (acc s (b8 s 0 - 192) 2) := by simpa using h2
              show AV.tup [.i .i32 (-1), .i .i64 1] = codeR s
              rw [codeR, hbad (fun h => h2 (hg.1 h).2.2.2)]
              all_goals rfl
            · have h2 : scalar (acc s (b8 s 0 - 192) 2) := by simpa using h2
              have hgood : good s := hg.2 ⟨by omega, hcs, by omega, h2⟩
              have hw2 : IntKind.i32.wrap (acc s (b8 s 0 - 192) 2) = acc s (b8 s 0 - 192) 2 := i32_in _ (by omega) (by unfold scalar at h2; omega)
              have hcd := (code_many h0 (by omega) (by omega)).1 hgood
              rw [hlead] at hcd
              rw [codeR, hcd]
              show AV.tup [.i .i32 (IntKind.i32.wrap (acc s (b8 s 0 - 192) 2)), .i .i64 2] = _
              rw [hw2]
              all_goals rfl
          · have h1 : acc s (b8 s 0 - 192) 2 < 128 := of_decide_eq_true (show decide (acc s (b8 s 0 - 192) 2 < 128) = true from h1)
            (focus (refine And.intro ?_ (fun h9 => ?_); rotate_left 1; (focus (exfalso; revert h9; first | decide | (simp <;> omega) | (intro h9; simp at h9 <;> omega))); refine fun _ => ?_))
            show AV.tup [.i .i32 (-1), .i .i64 1] = codeR s
            rw [codeR, hbad (fun h => by have := (hg.1 h).2.2.1; omega)]
            all_goals rfl
  · have hlead : lead s = (3, 2048, b8 s 0 - 224) := by unfold lead; rw [if_neg (by omega), if_pos (by omega)]
    have hg : good s ↔ (3 ≤ s.length ∧ (∀ i, 1 ≤ i → i < 3 → cont s i) ∧ 2048 ≤ acc s (b8 s 0 - 224) 3 ∧ scalar (acc s (b8 s 0 - 224) 3)) := by unfold good; rw [hlead]
    have hbad : ¬ good s → code s = (-1, 1) := (code_many h0 (by omega) (by omega)).2
    refine Exists.intro [.blk [0, 1, 2, 3, 4, 5]] (And.intro (by kernel_rfl) ?_)
    refine And.intro ⟨by omega, by omega⟩ ?_
    refine And.intro ⟨by omega, by omega⟩ ?_
    rw [hw]
    refine And.intro (fun h9 => absurd (of_decide_eq_true h9) (show ¬ (b8 s 0 < 128) by omega)) (fun _ => ?_)
    refine And.intro ⟨by omega, by omega⟩ ?_
    refine And.intro (fun _ => ?_) (fun h9 => absurd (show 192 ≤ b8 s 0 by omega) (of_decide_eq_false h9))
    refine And.intro ⟨by omega, by omega⟩ ?_
    refine And.intro (fun h9 => absurd (of_decide_eq_true h9) (show ¬ (b8 s 0 < 224) by omega)) (fun _ => ?_)
    refine And.intro ⟨by omega, by omega⟩ ?_
    refine And.intro (fun _ => ?_) (fun h9 => absurd (show 224 ≤ b8 s 0 by omega) (of_decide_eq_false h9))
    refine And.intro ⟨by omega, by omega⟩ ?_
    refine And.intro (fun _ => ?_) (fun h9 => absurd (show b8 s 0 < 240 by omega) (of_decide_eq_false h9))
    refine And.intro ⟨by omega, by omega⟩ ?_
    intro _
    refine And.intro (fun hs => ?_) (fun hs => ?_)
    · have hs : (s.length : Int) < 3 := of_decide_eq_true hs
      show AV.tup [.i .i32 (-1), .i .i64 1] = codeR s
      rw [codeR, hbad (fun h => by have := (hg.1 h).1; omega)]
      all_goals rfl
    · have hs : ¬ (s.length : Int) < 3 := of_decide_eq_false hs
      refine Exists.intro [] (Exists.intro [] (Exists.intro [] (Exists.intro Nat (Exists.intro (fun i => 1 ≤ i ∧ i ≤ 3 ∧ ∀ j, 1 ≤ j → j < i → cont s j) (Exists.intro (fun i => ⟨[(0, .s s), (4, .i .i64 3), (5, .i .i64 2048), (6, .i .i64 (acc s (b8 s 0 - 224) i)), (7, .i .i64 i)], []⟩) (Exists.intro (fun i => 3 - i) (Exists.intro 1 (And.intro ⟨Nat.le_refl _, by decide, fun j h1 h2 => by omega⟩ (And.intro ?_ ?_)))))))))
      · (repeat' (first | exact trivial | exact Or.inl rfl | exact Or.inr (Or.inl ⟨rfl, _, rfl⟩) | exact Or.inr (Or.inr (Or.inr ⟨_, _, _, rfl, rfl⟩)) | refine And.intro ?_ ?_))
      · rintro i ⟨hi1, hin, hcs⟩
        have hab := acc_bnd (s := s) (r := (b8 s 0 - 224)) (by omega) (by omega) i (by omega) hcs
        have hbi := b8_rng s i
        refine And.intro (fun hc => ?_) (fun hc => ?_)
        · have hc : i < 3 := by have : (i : Int) < 3 := of_decide_eq_true hc; omega
          refine And.intro ⟨by omega, by omega⟩ ?_
          refine And.intro (fun h1 => ?_) (fun h1 => ?_)
          · have h1 : ¬ b8 s i < 128 := of_decide_eq_false h1
            refine And.intro ⟨by omega, by omega⟩ ?_
            refine And.intro (fun h2 => ?_) (fun h2 => ?_)
            · have h2 : 192 ≤ b8 s i := of_decide_eq_true h2
              show AV.tup [.i .i32 (-1), .i .i64 1] = codeR s
              rw [codeR, hbad (fun h => by have := (hg.1 h).2.1 i hi1 hc; unfold cont at this; omega)]
              all_goals rfl
            · have h2 : ¬ 192 ≤ b8 s i := of_decide_eq_false h2
              have hwi : IntKind.i64.wrap (((s.getD (Int.toNat (i : Int)) 0).toNat : Nat) : Int) = b8 s i := IntWalk.i64_in _ ⟨by show _ ≤ b8 s i; omega, by show b8 s i ≤ _; omega⟩
              have hacc : acc s (b8 s 0 - 224) (i + 1) = acc s (b8 s 0 - 224) i * 64 + b8 s i - 128 := by
                obtain ⟨k, rfl⟩ : ∃ k, i = k + 1 := ⟨i - 1, by omega⟩
                rfl
              refine And.intro ⟨by omega, by omega⟩ ?_
              refine And.intro ⟨by omega, by omega⟩ ?_
              refine And.intro ⟨by rw [hwi]; omega, by rw [hwi]; omega⟩ ?_
              rw [hwi]
              refine And.intro ⟨by omega, by omega⟩ ?_
              refine And.intro ⟨by omega, by omega⟩ ?_
              have hcs' : ∀ j, 1 ≤ j → j < i + 1 → cont s j := fun j h3 h4 => by
                rcases Nat.lt_or_ge j i with h | h
                · exact hcs j h3 h
                · have : j = i := by omega
                  subst this
                  exact ⟨by omega, by omega⟩
              refine Exists.intro [] (Exists.intro (i + 1) (And.intro ⟨by omega, by omega, hcs'⟩ (And.intro ?_ ?_)))
              · (repeat' (first | exact trivial | exact Or.inl rfl | exact Or.inl (congrArg (AV.i .i64) hacc.symm) | refine And.intro ?_ ?_))
              · show 3 - (i + 1) < 3 - i
                omega
          · have h1 : b8 s i < 128 := of_decide_eq_true (show decide (b8 s i < 128) = true from h1)
            (focus (refine And.intro ?_ (fun h9 => ?_); rotate_left 1; (focus (exfalso; revert h9; first | decide | (simp <;> omega) | (intro h9; simp at h9 <;> omega))); refine fun _ => ?_))
            show AV.tup [.i .i32 (-1), .i .i64 1] = codeR s
            rw [codeR, hbad (fun h => by have := (hg.1 h).2.1 i hi1 hc; unfold cont at this; omega)]
            all_goals rfl
        · have hc : i = 3 := by have : ¬ (i : Int) < 3 := of_decide_eq_false hc; omega
          subst hc
          refine And.intro (fun h1 => ?_) (fun h1 => ?_)
          · have h1 : ¬ acc s (b8 s 0 - 224) 3 < 2048 := of_decide_eq_false h1
            refine Or.inl (Exists.intro _ (And.intro (s_Scalar (acc s (b8 s 0 - 224) 3)) ?_))
            refine And.intro (fun h2 => ?_) (fun h2 => ?_)
            · have h2 : ¬ scalar (acc s (b8 s 0 - 224) 3) := by simpa using h2
              show AV.tup [.i .i32 (-1), .i .i64 1] = codeR s
              rw [codeR, hbad (fun h => h2 (hg.1 h).2.2.2)]
              all_goals rfl
            · have h2 : scalar (acc s (b8 s 0 - 224) 3) := by simpa using h2
              have hgood : good s := hg.2 ⟨by omega, hcs, by omega, h2⟩
              have hw2 : IntKind.i32.wrap (acc s (b8 s 0 - 224) 3) = acc s (b8 s 0 - 224) 3 := i32_in _ (by omega) (by unfold scalar at h2; omega)
              have hcd := (code_many h0 (by omega) (by omega)).1 hgood
              rw [hlead] at hcd
              rw [codeR, hcd]
              show AV.tup [.i .i32 (IntKind.i32.wrap (acc s (b8 s 0 - 224) 3)), .i .i64 3] = _
              rw [hw2]
              all_goals rfl
          · have h1 : acc s (b8 s 0 - 224) 3 < 2048 := of_decide_eq_true (show decide (acc s (b8 s 0 - 224) 3 < 2048) = true from h1)
            (focus (refine And.intro ?_ (fun h9 => ?_); rotate_left 1; (focus (exfalso; revert h9; first | decide | (simp <;> omega) | (intro h9; simp at h9 <;> omega))); refine fun _ => ?_))
            show AV.tup [.i .i32 (-1), .i .i64 1] = codeR s
            rw [codeR, hbad (fun h => by have := (hg.1 h).2.2.1; omega)]
            all_goals rfl
  · have hlead : lead s = (4, 65536, b8 s 0 - 240) := by unfold lead; rw [if_neg (by omega), if_neg (by omega)]
    have hg : good s ↔ (4 ≤ s.length ∧ (∀ i, 1 ≤ i → i < 4 → cont s i) ∧ 65536 ≤ acc s (b8 s 0 - 240) 4 ∧ scalar (acc s (b8 s 0 - 240) 4)) := by unfold good; rw [hlead]
    have hbad : ¬ good s → code s = (-1, 1) := (code_many h0 (by omega) (by omega)).2
    refine Exists.intro [.blk [0, 1, 2, 3, 4, 5]] (And.intro (by kernel_rfl) ?_)
    refine And.intro ⟨by omega, by omega⟩ ?_
    refine And.intro ⟨by omega, by omega⟩ ?_
    rw [hw]
    refine And.intro (fun h9 => absurd (of_decide_eq_true h9) (show ¬ (b8 s 0 < 128) by omega)) (fun _ => ?_)
    refine And.intro ⟨by omega, by omega⟩ ?_
    refine And.intro (fun _ => ?_) (fun h9 => absurd (show 192 ≤ b8 s 0 by omega) (of_decide_eq_false h9))
    refine And.intro ⟨by omega, by omega⟩ ?_
    refine And.intro (fun h9 => absurd (of_decide_eq_true h9) (show ¬ (b8 s 0 < 224) by omega)) (fun _ => ?_)
    refine And.intro ⟨by omega, by omega⟩ ?_
    refine And.intro (fun _ => ?_) (fun h9 => absurd (show 224 ≤ b8 s 0 by omega) (of_decide_eq_false h9))
    refine And.intro ⟨by omega, by omega⟩ ?_
    refine And.intro (fun h9 => absurd (of_decide_eq_true h9) (show ¬ (b8 s 0 < 240) by omega)) (fun _ => ?_)
    refine And.intro ⟨by omega, by omega⟩ ?_
    refine And.intro (fun _ => ?_) (fun h9 => absurd (show 240 ≤ b8 s 0 by omega) (of_decide_eq_false h9))
    refine And.intro ⟨by omega, by omega⟩ ?_
    refine And.intro (fun _ => ?_) (fun h9 => absurd (show b8 s 0 < 248 by omega) (of_decide_eq_false h9))
    refine And.intro ⟨by omega, by omega⟩ ?_
    intro _
    refine And.intro (fun hs => ?_) (fun hs => ?_)
    · have hs : (s.length : Int) < 4 := of_decide_eq_true hs
      show AV.tup [.i .i32 (-1), .i .i64 1] = codeR s
      rw [codeR, hbad (fun h => by have := (hg.1 h).1; omega)]
      all_goals rfl
    · have hs : ¬ (s.length : Int) < 4 := of_decide_eq_false hs
      refine Exists.intro [] (Exists.intro [] (Exists.intro [] (Exists.intro Nat (Exists.intro (fun i => 1 ≤ i ∧ i ≤ 4 ∧ ∀ j, 1 ≤ j → j < i → cont s j) (Exists.intro (fun i => ⟨[(0, .s s), (4, .i .i64 4), (5, .i .i64 65536), (6, .i .i64 (acc s (b8 s 0 - 240) i)), (7, .i .i64 i)], []⟩) (Exists.intro (fun i => 4 - i) (Exists.intro 1 (And.intro ⟨Nat.le_refl _, by decide, fun j h1 h2 => by omega⟩ (And.intro ?_ ?_)))))))))
      · (repeat' (first | exact trivial | exact Or.inl rfl | exact Or.inr (Or.inl ⟨rfl, _, rfl⟩) | exact Or.inr (Or.inr (Or.inr ⟨_, _, _, rfl, rfl⟩)) | refine And.intro ?_ ?_))
      · rintro i ⟨hi1, hin, hcs⟩
        have hab := acc_bnd (s := s) (r := (b8 s 0 - 240)) (by omega) (by omega) i (by omega) hcs
        have hbi := b8_rng s i
        refine And.intro (fun hc => ?_) (fun hc => ?_)
        · have hc : i < 4 := by have : (i : Int) < 4 := of_decide_eq_true hc; omega
          refine And.intro ⟨by omega, by omega⟩ ?_
          refine And.intro (fun h1 => ?_) (fun h1 => ?_)
          · have h1 : ¬ b8 s i < 128 := of_decide_eq_false h1
            refine And.intro ⟨by omega, by omega⟩ ?_
            refine And.intro (fun h2 => ?_) (fun h2 => ?_)
            · have h2 : 192 ≤ b8 s i := of_decide_eq_true h2
              show AV.tup [.i .i32 (-1), .i .i64 1] = codeR s
              rw [codeR, hbad (fun h => by have := (hg.1 h).2.1 i hi1 hc; unfold cont at this; omega)]
              all_goals rfl
            · have h2 : ¬ 192 ≤ b8 s i := of_decide_eq_false h2
              have hwi : IntKind.i64.wrap (((s.getD (Int.toNat (i : Int)) 0).toNat : Nat) : Int) = b8 s i := IntWalk.i64_in _ ⟨by show _ ≤ b8 s i; omega, by show b8 s i ≤ _; omega⟩
              have hacc : acc s (b8 s 0 - 240) (i + 1) = acc s (b8 s 0 - 240) i * 64 + b8 s i - 128 := by
                obtain ⟨k, rfl⟩ : ∃ k, i = k + 1 := ⟨i - 1, by omega⟩
                rfl
              refine And.intro ⟨by omega, by omega⟩ ?_
              refine And.intro ⟨by omega, by omega⟩ ?_
              refine And.intro ⟨by rw [hwi]; omega, by rw [hwi]; omega⟩ ?_
              rw [hwi]
              refine And.intro ⟨by omega, by omega⟩ ?_
              refine And.intro ⟨by omega, by omega⟩ ?_
              have hcs' : ∀ j, 1 ≤ j → j < i + 1 → cont s j := fun j h3 h4 => by
                rcases Nat.lt_or_ge j i with h | h
                · exact hcs j h3 h
                · have : j = i := by omega
                  subst this
                  exact ⟨by omega, by omega⟩
              refine Exists.intro [] (Exists.intro (i + 1) (And.intro ⟨by omega, by omega, hcs'⟩ (And.intro ?_ ?_)))
              · (repeat' (first | exact trivial | exact Or.inl rfl | exact Or.inl (congrArg (AV.i .i64) hacc.symm) | refine And.intro ?_ ?_))
              · show 4 - (i + 1) < 4 - i
                omega
          · have h1 : b8 s i < 128 := of_decide_eq_true (show decide (b8 s i < 128) = true from h1)
            (focus (refine And.intro ?_ (fun h9 => ?_); rotate_left 1; (focus (exfalso; revert h9; first | decide | (simp <;> omega) | (intro h9; simp at h9 <;> omega))); refine fun _ => ?_))
            show AV.tup [.i .i32 (-1), .i .i64 1] = codeR s
            rw [codeR, hbad (fun h => by have := (hg.1 h).2.1 i hi1 hc; unfold cont at this; omega)]
            all_goals rfl
        · have hc : i = 4 := by have : ¬ (i : Int) < 4 := of_decide_eq_false hc; omega
          subst hc
          refine And.intro (fun h1 => ?_) (fun h1 => ?_)
          · have h1 : ¬ acc s (b8 s 0 - 240) 4 < 65536 := of_decide_eq_false h1
            refine Or.inl (Exists.intro _ (And.intro (s_Scalar (acc s (b8 s 0 - 240) 4)) ?_))
            refine And.intro (fun h2 => ?_) (fun h2 => ?_)
            · have h2 : ¬ scalar (acc s (b8 s 0 - 240) 4) := by simpa using h2
              show AV.tup [.i .i32 (-1), .i .i64 1] = codeR s
              rw [codeR, hbad (fun h => h2 (hg.1 h).2.2.2)]
              all_goals rfl
            · have h2 : scalar (acc s (b8 s 0 - 240) 4) := by simpa using h2
              have hgood : good s := hg.2 ⟨by omega, hcs, by omega, h2⟩
              have hw2 : IntKind.i32.wrap (acc s (b8 s 0 - 240) 4) = acc s (b8 s 0 - 240) 4 := i32_in _ (by omega) (by unfold scalar at h2; omega)
              have hcd := (code_many h0 (by omega) (by omega)).1 hgood
              rw [hlead] at hcd
              rw [codeR, hcd]
              show AV.tup [.i .i32 (IntKind.i32.wrap (acc s (b8 s 0 - 240) 4)), .i .i64 4] = _
              rw [hw2]
              all_goals rfl
          · have h1 : acc s (b8 s 0 - 240) 4 < 65536 := of_decide_eq_true (show decide (acc s (b8 s 0 - 240) 4 < 65536) = true from h1)
            (focus (refine And.intro ?_ (fun h9 => ?_); rotate_left 1; (focus (exfalso; revert h9; first | decide | (simp <;> omega) | (intro h9; simp at h9 <;> omega))); refine fun _ => ?_))
            show AV.tup [.i .i32 (-1), .i .i64 1] = codeR s
            rw [codeR, hbad (fun h => by have := (hg.1 h).2.2.1; omega)]
            all_goals rfl
  · have hbad : code s = (-1, 1) := code_bad h0 (by omega)
    refine Exists.intro [.blk [0, 1, 2, 3, 4, 5]] (And.intro (by kernel_rfl) ?_)
    refine And.intro ⟨by omega, by omega⟩ ?_
    refine And.intro ⟨by omega, by omega⟩ ?_
    rw [hw]
    refine And.intro (fun h9 => absurd (of_decide_eq_true h9) (show ¬ (b8 s 0 < 128) by omega)) (fun _ => ?_)
    refine And.intro ⟨by omega, by omega⟩ ?_
    refine And.intro (fun _ => ?_) (fun h9 => absurd (show 192 ≤ b8 s 0 by omega) (of_decide_eq_false h9))
    refine And.intro ⟨by omega, by omega⟩ ?_
    refine And.intro (fun h9 => absurd (of_decide_eq_true h9) (show ¬ (b8 s 0 < 224) by omega)) (fun _ => ?_)
    refine And.intro ⟨by omega, by omega⟩ ?_
    refine And.intro (fun _ => ?_) (fun h9 => absurd (show 224 ≤ b8 s 0 by omega) (of_decide_eq_false h9))
    refine And.intro ⟨by omega, by omega⟩ ?_
    refine And.intro (fun h9 => absurd (of_decide_eq_true h9) (show ¬ (b8 s 0 < 240) by omega)) (fun _ => ?_)
    refine And.intro ⟨by omega, by omega⟩ ?_
    refine And.intro (fun _ => ?_) (fun h9 => absurd (show 240 ≤ b8 s 0 by omega) (of_decide_eq_false h9))
    refine And.intro ⟨by omega, by omega⟩ ?_
    refine And.intro (fun h9 => absurd (of_decide_eq_true h9) (show ¬ (b8 s 0 < 248) by omega)) (fun _ => ?_)
    rw [codeR, hbad]
    rfl
theorem s_Code (s : Str) : PSpec Tryd.prog 58 [.s s] (codeR s) :=
  pspec_of_vc Γ_good Tryd.func58 rfl Tryd.call58 Tryd.results58 Tryd.ntmps58 (Nat.le_of_ble_eq_true rfl) (w_Code s)
end
end Go.Proofs.YtmfchbkdakmjhaaDoor
end
section
namespace Go.Proofs.YtmfchbkdakmjhaaDoor
set_option linter.unusedSectionVars false
set_option linter.unusedSimpArgs false
set_option linter.unusedVariables false
open Go Go.SX Go.Ut Go.RowKit
set_option maxRecDepth 100000
set_option maxHeartbeats 0
section
variable [G : Globs]
theorem w_one (n : Int) : vc Tryd.prog Γ 7 [0, 2] (Tryd.f97.body.getD .skip) (postK Γ [.tmp 2] (fun v => v = .s [eb n])) ⟨argSlots 0 [.i .i64 n], []⟩ := by
  show _ = _
  rfl
theorem s_one (n : Int) : PSpec Tryd.prog 97 [.i .i64 n] (.s [eb n]) :=
  pspec_of_vc Γ_good Tryd.func97 rfl Tryd.call97 Tryd.results97 Tryd.ntmps97 (Nat.le_of_ble_eq_true rfl) (w_one n)
theorem w_CodeOf (n : Int) (h : scalar n) : vc Tryd.prog Γ 70 [0, 2, 3, 4, 10, 24] (Tryd.f60.body.getD .skip) (postK Γ [.tmp 2] (fun v => v = .s (encS n))) ⟨argSlots 0 [.i .i64 n], []⟩ := by
  unfold scalar at h
  have d1 : n.tdiv 64 = n / 64 := Int.tdiv_eq_ediv_of_nonneg h.1
  have d2 : n.tdiv 4096 = n / 4096 := Int.tdiv_eq_ediv_of_nonneg h.1
  have d3 : n.tdiv 262144 = n / 262144 := Int.tdiv_eq_ediv_of_nonneg h.1
  have m1 : n.tmod 64 = n % 64 := Int.tmod_eq_emod_of_nonneg h.1
  have m2 : (n / 64).tmod 64 = (n / 64) % 64 := Int.tmod_eq_emod_of_nonneg (by omega)
  have m3 : (n / 4096).tmod 64 = (n / 4096) % 64 := Int.tmod_eq_emod_of_nonneg (by omega)
  refine And.intro (fun h1 => ?_) (fun h1 => ?_)
  · have h1 : n < 128 := of_decide_eq_true h1
    have e : encS n = [eb n] := by unfold encS; rw [if_pos h1]
    refine Or.inl (Exists.intro _ (And.intro (s_one n) ?_))
    rw [e]
    rfl
  · have h1 : ¬ n < 128 := of_decide_eq_false h1
    refine And.intro (fun h2 => ?_) (fun h2 => ?_)
    · have h2 : n < 2048 := of_decide_eq_true h2
      have e : encS n = [eb (192 + n.tdiv 64)] ++ [eb (128 + n.tmod 64)] := by unfold encS; rw [if_neg h1, if_pos h2]
      refine And.intro (by decide) ?_
      refine And.intro ⟨by rw [d1]; omega, by rw [d1]; omega⟩ ?_
      refine And.intro ⟨by rw [d1]; omega, by rw [d1]; omega⟩ ?_
      refine Or.inl (Exists.intro _ (And.intro (s_one (192 + n.tdiv 64)) ?_))
      refine And.intro (by decide) ?_
      refine And.intro ⟨by rw [m1]; omega, by rw [m1]; omega⟩ ?_
      refine Or.inl (Exists.intro _ (And.intro (s_one (128 + n.tmod 64)) ?_))
      refine And.intro (by show 1 + 1 ≤ maxLen; unfold maxLen; omega) ?_
      rw [e]
      rfl
    · have h2 : ¬ n < 2048 := of_decide_eq_false h2
      refine And.intro (fun h3 => ?_) (fun h3 => ?_)
      · have h3 : n < 65536 := of_decide_eq_true h3
        have e : encS n = ([eb (224 + n.tdiv 4096)] ++ [eb (128 + (n.tdiv 64).tmod 64)]) ++ [eb (128 + n.tmod 64)] := by unfold encS; rw [if_neg h1, if_neg h2, if_pos h3]
        refine And.intro (by decide) ?_
        refine And.intro ⟨by rw [d2]; omega, by rw [d2]; omega⟩ ?_
        refine And.intro ⟨by rw [d2]; omega, by rw [d2]; omega⟩ ?_
        refine Or.inl (Exists.intro _ (And.intro (s_one (224 + n.tdiv 4096)) ?_))
        refine And.intro (by decide) ?_
        refine And.intro ⟨by rw [d1]; omega, by rw [d1]; omega⟩ ?_
        refine And.intro (by decide) ?_
        refine And.intro ⟨by rw [d1, m2]; omega, by rw [d1, m2]; omega⟩ ?_
        refine Or.inl (Exists.intro _ (And.intro (s_one (128 + (n.tdiv 64).tmod 64)) ?_))
        refine And.intro (by show 1 + 1 ≤ maxLen; unfold maxLen; omega) ?_
        refine And.intro (by decide) ?_
        refine And.intro ⟨by rw [m1]; omega, by rw [m1]; omega⟩ ?_
        refine Or.inl (Exists.intro _ (And.intro (s_one (128 + n.tmod 64)) ?_))
        refine And.intro (by show 2 + 1 ≤ maxLen; unfold maxLen; omega) ?_
        rw [e]
        rfl
      · have h3 : ¬ n < 65536 := of_decide_eq_false h3
        have e : encS n = (([eb (240 + n.tdiv 262144)] ++ [eb (128 + (n.tdiv 4096).tmod 64)]) ++ [eb (128 + (n.tdiv 64).tmod 64)]) ++ [eb (128 + n.tmod 64)] := by unfold encS; rw [if_neg h1, if_neg h2, if_neg h3]
        refine And.intro (by decide) ?_
        refine And.intro ⟨by rw [d3]; omega, by rw [d3]; omega⟩ ?_
        refine And.intro ⟨by rw [d3]; omega, by rw [d3]; omega⟩ ?_
        refine Or.inl (Exists.intro _ (And.intro (s_one (240 + n.tdiv 262144)) ?_))
        refine And.intro (by decide) ?_
        refine And.intro ⟨by rw [d2]; omega, by rw [d2]; omega⟩ ?_
        refine And.intro (by decide) ?_
        refine And.intro ⟨by rw [d2, m3]; omega, by rw [d2, m3]; omega⟩ ?_
        refine Or.inl (Exists.intro _ (And.intro (s_one (128 + (n.tdiv 4096).tmod 64)) ?_))
        refine And.intro (by show 1 + 1 ≤ maxLen; unfold maxLen; omega) ?_
        refine And.intro (by decide) ?_
        refine And.intro ⟨by rw [d1]; omega, by rw [d1]; omega⟩ ?_
        refine And.intro (by decide) ?_
        refine And.intro ⟨by rw [d1, m2]; omega, by rw [d1, m2]; omega⟩ ?_
        refine Or.inl (Exists.intro _ (And.intro (s_one (128 + (n.tdiv 64).tmod 64)) ?_))
        refine And.intro (by show 2 + 1 ≤ maxLen; unfold maxLen; omega) ?_
        refine And.intro (by decide) ?_
        refine And.intro ⟨by rw [m1]; omega, by rw [m1]; omega⟩ ?_
        refine Or.inl (Exists.intro _ (And.intro (s_one (128 + n.tmod 64)) ?_))
        refine And.intro (by show 3 + 1 ≤ maxLen; unfold maxLen; omega) ?_
        rw [e]
        rfl
theorem s_CodeOf (n : Int) (h : scalar n) : PSpec Tryd.prog 60 [.i .i64 n] (.s (encS n)) :=
  pspec_of_vc Γ_good Tryd.func60 rfl Tryd.call60 Tryd.results60 Tryd.ntmps60 (Nat.le_of_ble_eq_true rfl) (w_CodeOf n h)
theorem w_BadPlace (s : Str) : vc Tryd.prog Γ 23 [0, 2, 3, 4, 5, 9, 18] (Tryd.f21.body.getD .skip) (postK Γ [.tmp 2] (fun v => v = .i .i64 (bad s))) ⟨argSlots 0 [.s s], []⟩ := by
  refine Exists.intro [] (Exists.intro [] (Exists.intro [] (Exists.intro Nat (Exists.intro (fun i => i ≤ s.length ∧ badFrom s i = bad s) (Exists.intro (fun i => ⟨[(0, .s s), (3, .i .i64 i)], []⟩) (Exists.intro (fun i => s.length - i) (Exists.intro 0 (And.intro ⟨Nat.zero_le _, rfl⟩ (And.intro ?_ ?_)))))))))
  · (repeat' (first | exact trivial | exact Or.inl rfl | exact Or.inr (Or.inl ⟨rfl, _, rfl⟩) | exact Or.inr (Or.inr (Or.inr ⟨_, _, _, rfl, rfl⟩)) | refine And.intro ?_ ?_))
  · rintro i ⟨hi, heq⟩
    intro hml
    unfold maxLen at hml
    refine And.intro (fun hc => ?_) (fun hc => ?_)
    · have hk : i < s.length := by have : (i : Int) < s.length := of_decide_eq_true hc; omega
      rw [bad_step hk] at heq
      have hp := dec_pos s i
      have hle := dec_le hk
      have ht : (s.take (Int.toNat (s.length : Int))).drop (Int.toNat i) = s.drop i := by simp only [Int.toNat_natCast, List.take_length]
      have qc := s_Code (s.drop i)
      unfold codeR at qc
      rw [code_at hk] at qc
      refine And.intro ⟨by omega, by omega, Int.le_refl _⟩ ?_
      rw [ht]
      by_cases hb : (decAt s i).1 = 65533 ∧ (decAt s i).2 = 1
      · rw [if_pos hb] at qc heq
        refine Or.inl (Exists.intro _ (And.intro (qc) ?_))
        (focus (refine And.intro ?_ (fun h9 => ?_); rotate_left 1; (focus (exfalso; revert h9; first | decide | (simp <;> omega) | (intro h9; simp at h9 <;> omega))); refine fun _ => ?_))
        exact congrArg (AV.i .i64) heq
      · rw [if_neg hb] at qc heq
        refine Or.inl (Exists.intro _ (And.intro (qc) ?_))
        refine And.intro (fun h9 => absurd (of_decide_eq_true h9) (by simp only; omega)) (fun _ => ?_)
        refine And.intro ⟨by simp only; omega, by simp only; omega⟩ ?_
        refine Exists.intro [] (Exists.intro (i + (decAt s i).2) (And.intro ⟨hle, heq⟩ (And.intro ?_ ?_)))
        · (repeat' (first | exact trivial | exact Or.inl rfl | exact Or.inr (Or.inl ⟨rfl, _, rfl⟩) | exact Or.inr (Or.inr (Or.inr ⟨_, _, _, rfl, rfl⟩)) | refine And.intro ?_ ?_))
        · show s.length - (i + (decAt s i).2) < s.length - i
          omega
    · have hk : s.length ≤ i := by have : ¬ (i : Int) < s.length := of_decide_eq_false hc; omega
      rw [bad_end hk] at heq
      exact congrArg (AV.i .i64) heq
theorem s_BadPlace (s : Str) : PSpec Tryd.prog 21 [.s s] (.i .i64 (bad s)) :=
  pspec_of_vc Γ_good Tryd.func21 rfl Tryd.call21 Tryd.results21 Tryd.ntmps21 (Nat.le_of_ble_eq_true rfl) (w_BadPlace s)
theorem w_Bad (hu : HasU8) (s : Str) : vc Tryd.prog Γ 25 [0, 2, 3, 4, 6, 8, 9, 10, 14, 23] (Tryd.f49.body.getD .skip) (postK Γ [.tmp 2] (fun v => v = .i .i64 (bad s))) ⟨argSlots 0 [.s s], []⟩ := by
  refine Exists.intro [] (Exists.intro [] (Exists.intro [] (Exists.intro Nat (Exists.intro (fun i => i ≤ s.length ∧ badFrom s i = bad s) (Exists.intro (fun i => ⟨[(0, .s s), (8, .ob 8 8 (.it s i))], []⟩) (Exists.intro (fun i => s.length - i) (Exists.intro 0 (And.intro ⟨Nat.zero_le _, rfl⟩ (And.intro ?_ ?_)))))))))
  · (repeat' (first | exact trivial | exact Or.inl rfl | exact Or.inr (Or.inl ⟨rfl, _, rfl⟩) | exact Or.inr (Or.inr (Or.inr ⟨_, _, _, rfl, rfl⟩)) | refine And.intro ?_ ?_))
  · rintro i ⟨hi, heq⟩
    refine And.intro (fun hk => ?_) (fun hk => ?_)
    · rw [bad_step hk] at heq
      have hp := dec_pos s i
      have hle := dec_le hk
      have ht : (s.take (Int.toNat (s.length : Int))).drop (Int.toNat i) = s.drop i := by simp only [Int.toNat_natCast, List.take_length]
      have qc := s_Next hu (s.drop i)
      unfold codeR at qc
      rw [code_at hk] at qc
      (focus (refine And.intro ?_ (fun h9 => ?_); rotate_left 1; (focus (exfalso; revert h9; first | decide | (simp <;> omega) | (intro h9; simp at h9 <;> omega))); refine fun _ => ?_))
      refine And.intro (fun h1 => ?_) (fun h1 => ?_)
      · have h1 : (decAt s i).1 = 65533 := by have := eq_of_beq h1; omega
        refine And.intro ⟨by omega, by omega, Int.le_refl _⟩ ?_
        rw [ht]
        by_cases hb : (decAt s i).1 = 65533 ∧ (decAt s i).2 = 1
        · rw [if_pos hb] at qc heq
          refine Or.inl (Exists.intro _ (And.intro (qc) ?_))
          (focus (refine And.intro ?_ (fun h9 => ?_); rotate_left 1; (focus (exfalso; revert h9; first | decide | (simp <;> omega) | (intro h9; simp at h9 <;> omega))); refine fun _ => ?_))
          exact congrArg (AV.i .i64) heq
        · rw [if_neg hb] at qc heq
          refine Or.inl (Exists.intro _ (And.intro (qc) ?_))
          have h2 : (decAt s i).2 ≠ 1 := fun e => hb ⟨h1, e⟩
          refine And.intro (fun h9 => absurd (eq_of_beq h9) (by simp only; omega)) (fun _ => ?_)
          refine Exists.intro [] (Exists.intro (i + (decAt s i).2) (And.intro ⟨hle, heq⟩ (And.intro ?_ ?_)))
          · (repeat' (first | exact trivial | exact Or.inl rfl | exact Or.inr (Or.inl ⟨rfl, _, rfl⟩) | exact Or.inr (Or.inr (Or.inr ⟨_, _, _, rfl, rfl⟩)) | refine And.intro ?_ ?_))
          · show s.length - (i + (decAt s i).2) < s.length - i
            omega
      · have h1 : (decAt s i).1 ≠ 65533 := by have := ne_of_beq_false h1; omega
        rw [if_neg (fun h => h1 h.1)] at heq
        refine Exists.intro [] (Exists.intro (i + (decAt s i).2) (And.intro ⟨hle, heq⟩ (And.intro ?_ ?_)))
        · (repeat' (first | exact trivial | exact Or.inl rfl | exact Or.inr (Or.inl ⟨rfl, _, rfl⟩) | exact Or.inr (Or.inr (Or.inr ⟨_, _, _, rfl, rfl⟩)) | refine And.intro ?_ ?_))
        · show s.length - (i + (decAt s i).2) < s.length - i
          omega
    · rw [bad_end (by omega)] at heq
      (focus (refine And.intro (fun h9 => ?_) ?_; (focus (exfalso; revert h9; first | decide | (simp <;> omega) | (intro h9; simp at h9 <;> omega))); refine fun _ => ?_))
      exact congrArg (AV.i .i64) heq
theorem s_Bad (hu : HasU8) (s : Str) : PSpec Tryd.prog 49 [.s s] (.i .i64 (bad s)) :=
  pspec_of_vc Γ_good Tryd.func49 rfl Tryd.call49 Tryd.results49 Tryd.ntmps49 (Nat.le_of_ble_eq_true rfl) (w_Bad hu s)
theorem bad_range {s : Str} {i : Nat} (h : badFrom s i < 0) (hk : i < s.length) : ¬ ((decAt s i).1 = 65533 ∧ (decAt s i).2 = 1) ∧ badFrom s (i + (decAt s i).2) < 0 := by
  rw [bad_step hk] at h
  by_cases hb : (decAt s i).1 = 65533 ∧ (decAt s i).2 = 1
  · rw [if_pos hb] at h; omega
  · rw [if_neg hb] at h; exact ⟨hb, h⟩
theorem w_Scalars (s : Str) (hs : s.length ≤ 1048576) (hb : bad s < 0) : vc Tryd.prog Γ 22 [0, 2, 3, 4, 5, 8] (Tryd.f59.body.getD .skip) (postK Γ [.tmp 2] (fun v => v = .rd .rune (runes s))) ⟨argSlots 0 [.s s], []⟩ := by
  refine Exists.intro [(3, 30, .rune)] (Exists.intro [] (Exists.intro [] (Exists.intro (List Int × Nat) (Exists.intro (fun x => x.2 ≤ s.length ∧ x.1.length ≤ x.2 ∧ badFrom s x.2 < 0 ∧ x.1 ++ runesFrom s x.2 = runes s) (Exists.intro (fun ⟨out, i⟩ => ⟨[(0, .s (s.drop i)), (3, .vec 30 .rune out)], []⟩) (Exists.intro (fun x => s.length - x.2) (Exists.intro ([], 0) (And.intro ⟨Nat.zero_le _, Nat.le_refl _, hb, rfl⟩ (And.intro ?_ ?_)))))))))
  · (repeat' (first | exact trivial | exact Or.inl rfl | exact Or.inr (Or.inl ⟨rfl, _, rfl⟩) | exact Or.inr (Or.inr (Or.inr ⟨_, _, _, rfl, rfl⟩)) | refine And.intro ?_ ?_))
  · rintro ⟨out, i⟩ ⟨hi, hol, hbi, heq⟩
    simp only at hi hol hbi heq
    have hdl : (s.drop i).length = s.length - i := List.length_drop ..
    intro _
    refine And.intro (fun hc => ?_) (fun hc => ?_)
    · have hk : i < s.length := by have : (0 : Int) < (s.drop i).length := of_decide_eq_true hc; omega
      obtain ⟨hnb, hbn⟩ := bad_range hbi hk
      have hp := dec_pos s i
      have hle := dec_le hk
      have qc := s_Code (s.drop i)
      unfold codeR at qc
      rw [code_at hk, if_neg hnb] at qc
      rw [runes_step hk, ← List.singleton_append, ← List.append_assoc] at heq
      refine Or.inl (Exists.intro _ (And.intro (qc) ?_))
      refine And.intro (by show (out.length + 1) * 4 ≤ _; omega) ?_
      refine And.intro ⟨by simp only; omega, by simp only; omega, Int.le_refl _⟩ ?_
      have ht : ((s.drop i).take (Int.toNat ((s.drop i).length : Int))).drop (Int.toNat ((decAt s i).2 : Int)) = s.drop (i + (decAt s i).2) := by simp only [Int.toNat_natCast, List.take_length, List.drop_drop]
      rw [ht]
      refine Exists.intro [(17, 30)] (Exists.intro (out ++ [((decAt s i).1 : Int)], i + (decAt s i).2) (And.intro ⟨hle, by show (out ++ [_]).length ≤ _; rw [List.length_append, List.length_singleton]; show out.length + 1 ≤ i + (decAt s i).2; omega, hbn, heq⟩ (And.intro ?_ ?_)))
      · (repeat' (first | exact trivial | exact Or.inl rfl | exact Or.inr (Or.inl ⟨rfl, _, rfl⟩) | exact Or.inr (Or.inr (Or.inr ⟨_, _, _, rfl, rfl⟩)) | refine And.intro ?_ ?_))
      · show s.length - (i + (decAt s i).2) < s.length - i
        omega
    · have hk : s.length ≤ i := by have : ¬ (0 : Int) < (s.drop i).length := of_decide_eq_false hc; omega
      rw [runes_end hk, List.append_nil] at heq
      rw [← heq]
      show _ = _
      rfl
theorem s_Scalars (s : Str) (hs : s.length ≤ 1048576) (hb : bad s < 0) : PSpec Tryd.prog 59 [.s s] (.rd .rune (runes s)) :=
  pspec_of_vc Γ_good Tryd.func59 rfl Tryd.call59 Tryd.results59 Tryd.ntmps59 (Nat.le_of_ble_eq_true rfl) (w_Scalars s hs hb)
end
end Go.Proofs.YtmfchbkdakmjhaaDoor
end
section
namespace Go.SX
section
variable {P : Program} {β : Nat → Option Nat} {w : World} {id2 : Nat} {e : TypeId} {l : Str} {u : Value}

theorem bcells_strCells (s : Str) : Lib.strCells ⟨s.toArray⟩ = bcells s := by simp [Lib.strCells, bcells]
theorem bcells_length (s : Str) : (bcells s).length = s.length := by simp [bcells]
theorem bcells_append (s t : Str) : bcells (s ++ t) = bcells s ++ bcells t := by simp [bcells]
theorem bcells_one (s : Str) : ∀ v ∈ bcells s, v.oneCell' = true := by
  intro v hv
  simp only [bcells, List.mem_map] at hv
  obtain ⟨b, _, rfl⟩ := hv
  rfl
/-- what a buffer is behind an append -/
structure BufNext (β : Nat → Option Nat) (w w' : World) (id2 : Nat) (e : TypeId) (l : Str) (v : Value) (b2 : Option Nat) : Prop where
  stp : Stp (fun k => β id2 = some k) w w'
  blk : ∀ g, b2 = some g → g < w'.heap.size ∧ (β id2 = some g ∨ w.heap.size ≤ g)
  buf : ∀ (β' : Nat → Option Nat) (w'' : World), β' id2 = b2 → (∀ g, b2 = some g → w''.heap[g]? = w'.heap[g]?) → BufAt β' w'' id2 e l v
  sl : ∃ a n c, v = .slice a n c
theorem BufAt.same (h : BufAt β w id2 e l u) : BufNext β w w id2 e l u (β id2) := by
  refine ⟨Stp.refl _ _, fun g hg => ⟨?_, .inl hg⟩, fun β' w'' hβ hk => ?_, ?_⟩
  · rcases h with ⟨_, _, h3⟩ | ⟨g', c, cur, fz, h1, h2, h3, _⟩
    · rw [h3] at hg; cases hg
    · rw [h1] at hg; injection hg with hg; subst hg; exact (Array.getElem?_eq_some_iff.1 h3).1
  · rcases h with ⟨h1, h2, h3⟩ | ⟨g', c, cur, fz, h1, h2, h3, h4⟩
    · exact .inl ⟨h1, h2, hβ.trans h3⟩
    · exact .inr ⟨g', c, cur, fz, hβ.trans h1, h2, (hk g' h1).trans h3, h4⟩
  · rcases h with ⟨_, h2, _⟩ | ⟨g', c, cur, fz, h1, h2, _⟩
    · exact ⟨_, _, _, h2⟩
    · exact ⟨_, _, _, h2⟩
/-- a new buffer -/
theorem buf_new {w' : World} {b : Str} {cur : Array Value} {c : Nat} (hb : b ≠ []) (hst : Stp (fun _ => False) w w') (hh : w'.heap[w.heap.size]? = some (.cells cur e (0, 0))) (hc : b.length ≤ c) (hm : c ≤ maxLen) (hsz : cur.size = c) (ht : cur.toList.take b.length = bcells b) :
    BufNext β w w' id2 e b (.slice (some ⟨w.heap.size, 0, none⟩) b.length c) (some w.heap.size) := by
  refine ⟨hst.mono fun _ _ h => h.elim, fun g hg => ?_, fun β' w'' hβ hk => .inr ⟨w.heap.size, c, cur, (0, 0), hβ, rfl, (hk _ rfl).trans hh, Nat.zero_le _, hc, hm, hsz, ht, hb⟩, _, _, _, rfl⟩
  injection hg with hg
  subst hg
  exact ⟨(Array.getElem?_eq_some_iff.1 hh).1, .inr (Nat.le_refl _)⟩
theorem buf_app (h : BufAt β w id2 e l u) (s : Str) {t x ty : TypeId} {i : TypeInfo} (ht : P.underlying t = some (.slice e)) (hx : P.underlying x = some .string) (hi : P.info? e = some i) (hz : i.zero = some (.int .u8 0)) (hsize : i.size = 1) (hby : i.bytes = 1)
    (hlen : l.length + s.length ≤ 140737488355328) :
    ∃ v' w' b2, (Builtin.append_ #[t, x] ty #[u, .string ⟨s.toArray⟩]).run P w = .ok v' w' ∧ BufNext β w w' id2 e (l ++ s) v' b2 := by
  have hss : (⟨s.toArray⟩ : ByteArray).size = s.length := by simp [ByteArray.size]
  have hml : (140737488355328 : Nat) ≤ maxLen := by unfold maxLen; omega
  rcases h with ⟨rfl, rfl, h3⟩ | ⟨g, c, cur, fz, h1, rfl, h2, h3, h4, h5, h6, h7, h8⟩
  · simp only [List.length_nil, Nat.zero_add] at hlen
    obtain ⟨v', w', hr, hown, hg, hnil⟩ := Lib.run_append_own_stringF (P := P) w w.heap.size t x ty e i ht hx hi hz hsize hby (.slice none 0 0) 0 [] (World.ownsRowF_nil _ _ _ _) ⟨s.toArray⟩ (by rw [hss]; omega) (by rw [hss]; omega) (Nat.le_refl _)
    have hst : Stp (fun _ => False) w w' := ⟨hg.os, hg.tape, hg.output, hg.size, fun k hk _ => hg.block k hk (by simp [Value.ownBlock])⟩
    rw [hss, bcells_strCells] at hown
    rw [hss] at hnil
    simp only [List.nil_append, Nat.zero_add] at hown
    by_cases hs : s = []
    · subst hs
      have hv : v' = .slice none 0 0 := hnil.2 ⟨rfl, rfl⟩
      subst hv
      refine ⟨_, w', none, hr, hst.mono fun _ _ h => h.elim, fun g hg => (nomatch hg), fun β' w'' hβ _ => .inl ⟨rfl, rfl, hβ⟩, _, _, _, rfl⟩
    · rcases hown.2 with ⟨hv, hn⟩ | ⟨g, cap, cur, fz, rfl, hB, k2, k3, k4, k5, k6, k7⟩
      · exact absurd (List.eq_nil_of_length_eq_zero hn) hs
      · refine ⟨_, w', some g, hr, hst.mono fun _ _ h => h.elim, fun g' hg' => ?_, fun β' w'' hβ hk => .inr ⟨g, cap, cur, fz, hβ, rfl, (hk g rfl).trans k2, by simpa using k3, k4, k5, by simpa using k6, by simpa using k7, hs⟩, _, _, _, rfl⟩
        injection hg' with hg'
        subst hg'
        exact ⟨(Array.getElem?_eq_some_iff.1 k2).1, .inr hB⟩
  · by_cases hroom : l.length + s.length ≤ c
    · have hr := Lib.run_append_room_stringF (P := P) w t x ty e i ht hx hi hsize g l.length c cur fz h2 h3 ⟨s.toArray⟩ (by rw [hss]; exact hroom) (by rw [hss, h6]; exact hroom)
      rw [hss, bcells_strCells] at hr
      refine ⟨_, _, some g, hr, ⟨rfl, rfl, rfl, by simp, fun k _ hk => setRow_other w g k _ fun e => hk (by rw [e]; exact h1)⟩, fun g' hg' => ?_, fun β' w'' hβ hk => .inr ⟨g, c, _, fz, hβ, ?_, (hk g rfl).trans (setRow_heap w g cur _ e _ h2), ?_, ?_, h5, ?_, ?_, ?_⟩, _, _, _, rfl⟩
      · injection hg' with hg'
        subst hg'
        exact ⟨by simpa using (Array.getElem?_eq_some_iff.1 h2).1, .inl h1⟩
      · rw [List.length_append]
      · rw [List.length_append]; omega
      · rw [List.length_append]; omega
      · simp only [List.size_toArray, List.length_append, List.length_take, List.length_drop, Array.length_toList, bcells_length, h6]
        omega
      · rw [h7, List.length_append, bcells_append]
        have : (bcells l ++ bcells s).length = l.length + s.length := by simp [bcells_length]
        rw [← this]
        exact List.take_left
      · simp [h8]
    · have hold : ∀ (j : Nat) v, (bcells l)[j]? = some v → w.cell? ((⟨g, 0, none⟩ : Addr).add j) = some v := by
        intro j v hv
        have hadd : (⟨g, 0, none⟩ : Addr).add j = ⟨g, j, none⟩ := by unfold Addr.add; split <;> simp_all
        rw [hadd, cell_of_row w g j cur e fz h2]
        rw [← h7, List.getElem?_take] at hv
        split at hv
        · simpa using hv
        · cases hv
      have hr := Lib.run_append_grow_string (P := P) w t x ty e i (.int .u8 0) ht hx hi hz ⟨g, 0, none⟩ l.length c (bcells l) (by rw [hsize, bcells_length, Nat.mul_one]) hold ⟨s.toArray⟩ (by rw [hss]; omega) (by rw [hss]; omega)
        (by rw [hby]; exact growslice_fits (by rw [hss]; omega) (by rw [hss]; omega))
      rw [hss, bcells_strCells] at hr
      have hge := grownCap_ge w (l.length + s.length) c e
      have hcm := grownCap_le_maxLen w (l.length + s.length) c e (by omega)
      refine ⟨_, _, some w.heap.size, hr, ?_⟩
      rw [show l.length + s.length = (l ++ s).length by rw [List.length_append]] at *
      refine buf_new (by simp [h8]) ⟨rfl, rfl, rfl, by simp, fun k hk _ => Lib.alloc_old w.drew _ k hk⟩ (heap_alloc_new w.drew _) hge hcm ?_ ?_
      · have hz1 : (Value.int IntKind.u8 0).cells.size = 1 := rfl
        simp only [Array.size_append, List.size_toArray, size_zeroCells, hz1, bcells_length, List.length_append] at hge ⊢
        omega
      · simp only [Array.toList_append, List.append_assoc]
        rw [bcells_append, show (l ++ s).length = (bcells l ++ bcells s).length by simp [bcells_length], ← List.append_assoc]
        exact List.take_left
/-- the append, for the kit's walk -/
theorem wpList_buf {ops : Array Oper} {rest : List Oper} {o : Oper} {a : Act} {Q : Exit → Act → World → Prop} (hgd : o.guard = none) (sl x : Operand) (t xt : TypeId)
    (ho : o.op = .call { callee := .builtin .append, args := #[sl, x], argTypes := #[t, xt] }) {i : TypeInfo} (ht : P.underlying t = some (.slice e)) (hx : P.underlying xt = some .string) (hi : P.info? e = some i) (hz : i.zero = some (.int .u8 0)) (hsize : i.size = 1) (hby : i.bytes = 1)
    (h : BufAt β w id2 e l u) (s : Str) (hs : a.eval sl = u) (hxe : a.eval x = .string ⟨s.toArray⟩) (hlen : l.length + s.length ≤ 140737488355328)
    (k : ∀ v' w' b2, BufNext β w w' id2 e (l ++ s) v' b2 → wpList P ops Q rest (a.put o.dst v') w') : wpList P ops Q (o :: rest) a w := by
  refine wpList_plain hgd fun K hK => ?_
  obtain ⟨v', w', b2, hr, hn⟩ := buf_app (P := P) h s (t := t) (x := xt) (ty := o.type) ht hx hi hz hsize hby hlen
  have hrun : (execOp a.eval o).run P w = .ok (.value v') w' := by
    simp [execOp, ho, resolve, invoke, builtin, hs, hxe, hr]
  unfold Oper.wp
  rw [hrun]
  exact hK _ _ (k v' w' b2 hn)
/-- bytes out of a slice are appended -/
theorem buf_appB (h : BufAt β w id2 e l u) (s : Str) (hs : s ≠ []) {ad : Addr} {c0 : Nat} (hsrc : ∀ (j : Nat) v, (bcells s)[j]? = some v → w.cell? (ad.add j) = some v) {t ty : TypeId} {i : TypeInfo} (ht : P.underlying t = some (.slice e)) (hi : P.info? e = some i) (hz : i.zero = some (.int .u8 0)) (hsize : i.size = 1) (hby : i.bytes = 1)
    (hlen : l.length + s.length ≤ 140737488355328) :
    ∃ v' w' b2, (Builtin.append_ #[t, t] ty #[u, .slice (some ad) s.length c0]).run P w = .ok v' w' ∧ BufNext β w w' id2 e (l ++ s) v' b2 := by
  have hml : (140737488355328 : Nat) ≤ maxLen := by unfold maxLen; omega
  have hz1 : (Value.int IntKind.u8 0).cells.size = 1 := rfl
  rcases h with ⟨rfl, rfl, h3⟩ | ⟨g, c, cur, fz, h1, rfl, h2, h3, h4, h5, h6, h7, h8⟩
  · simp only [List.length_nil, Nat.zero_add] at hlen
    obtain ⟨v', w', hr, hown, hg, hnil⟩ := run_append_ownF (P := P) w w.heap.size t ty e i (.int .u8 0) 1 1 ht hi hz hsize hby hz1 (by decide) (.slice none 0 0) 0 [] (World.ownsRowF_nil _ _ _ _) ad s.length c0 (bcells s) (by rw [bcells_length, Nat.mul_one]) hsrc (bcells_one s) (by omega) (by omega) (Nat.le_refl _)
    have hst : Stp (fun _ => False) w w' := ⟨hg.os, hg.tape, hg.output, hg.size, fun k hk _ => hg.block k hk (by simp [Value.ownBlock])⟩
    simp only [List.nil_append, Nat.zero_add] at hown
    rcases hown.2 with ⟨hv, hn⟩ | ⟨g, cap, cur, fz, rfl, hB, k2, k3, k4, k5, k6, k7⟩
    · exact absurd (List.eq_nil_of_length_eq_zero hn) hs
    · refine ⟨_, w', some g, hr, hst.mono fun _ _ h => h.elim, fun g' hg' => ?_, fun β' w'' hβ hk => .inr ⟨g, cap, cur, fz, hβ, rfl, (hk g rfl).trans k2, by simpa using k3, k4, k5, by simpa using k6, by simpa using k7, hs⟩, _, _, _, rfl⟩
      injection hg' with hg'
      subst hg'
      exact ⟨(Array.getElem?_eq_some_iff.1 k2).1, .inr hB⟩
  · by_cases hroom : l.length + s.length ≤ c
    · have hr := run_append_roomF (P := P) w t ty e i ht hi g l.length c cur fz h2 (by rw [hsize, Nat.mul_one]; exact h3) ad s.length c0 (bcells s) (by rw [bcells_length, hsize, Nat.mul_one]) hsrc (bcells_one s) hroom (by rw [bcells_length, hsize, Nat.mul_one, h6]; exact hroom)
      rw [bcells_length, hsize, Nat.mul_one] at hr
      refine ⟨_, _, some g, hr, ⟨rfl, rfl, rfl, by simp, fun k _ hk => setRow_other w g k _ fun e => hk (by rw [e]; exact h1)⟩, fun g' hg' => ?_, fun β' w'' hβ hk => .inr ⟨g, c, _, fz, hβ, ?_, (hk g rfl).trans (setRow_heap w g cur _ e _ h2), ?_, ?_, h5, ?_, ?_, ?_⟩, _, _, _, rfl⟩
      · injection hg' with hg'
        subst hg'
        exact ⟨by simpa using (Array.getElem?_eq_some_iff.1 h2).1, .inl h1⟩
      · rw [List.length_append]
      · rw [List.length_append]; omega
      · rw [List.length_append]; omega
      · simp only [List.size_toArray, List.length_append, List.length_take, List.length_drop, Array.length_toList, bcells_length, h6]
        omega
      · rw [h7, List.length_append, bcells_append]
        have : (bcells l ++ bcells s).length = l.length + s.length := by simp [bcells_length]
        rw [← this]
        exact List.take_left
      · simp [h8]
    · have hold : ∀ (j : Nat) v, (bcells l)[j]? = some v → w.cell? ((⟨g, 0, none⟩ : Addr).add j) = some v := by
        intro j v hv
        have hadd : (⟨g, 0, none⟩ : Addr).add j = ⟨g, j, none⟩ := by unfold Addr.add; split <;> simp_all
        rw [hadd, cell_of_row w g j cur e fz h2]
        rw [← h7, List.getElem?_take] at hv
        split at hv
        · simpa using hv
        · cases hv
      have hr := run_append_grow (P := P) w t ty e i (.int .u8 0) ht hi hz ⟨g, 0, none⟩ l.length c (bcells l) (by rw [hsize, bcells_length, Nat.mul_one]) hold ad s.length c0 (bcells s) (by rw [hsize, bcells_length, Nat.mul_one]) hsrc (by omega) (by omega)
        (by rw [hby]; exact growslice_fits (by omega) (by omega))
      have hge := grownCap_ge w (l.length + s.length) c e
      have hcm := grownCap_le_maxLen w (l.length + s.length) c e (by omega)
      refine ⟨_, _, some w.heap.size, hr, ?_⟩
      rw [show l.length + s.length = (l ++ s).length by rw [List.length_append]] at *
      refine buf_new (by simp [h8]) ⟨rfl, rfl, rfl, by simp, fun k hk _ => Lib.alloc_old w.drew _ k hk⟩ (heap_alloc_new w.drew _) hge hcm ?_ ?_
      · simp only [Array.size_append, List.size_toArray, size_zeroCells, hz1, bcells_length, List.length_append] at hge ⊢
        omega
      · simp only [Array.toList_append, List.append_assoc]
        rw [bcells_append, show (l ++ s).length = (bcells l ++ bcells s).length by simp [bcells_length], ← List.append_assoc]
        exact List.take_left
/-- the append, for the kit's walk -/
theorem wpList_bufB {ops : Array Oper} {rest : List Oper} {o : Oper} {a : Act} {Q : Exit → Act → World → Prop} (hgd : o.guard = none) (sl x : Operand) (t : TypeId)
    (ho : o.op = .call { callee := .builtin .append, args := #[sl, x], argTypes := #[t, t] }) {i : TypeInfo} (ht : P.underlying t = some (.slice e)) (hi : P.info? e = some i) (hz : i.zero = some (.int .u8 0)) (hsize : i.size = 1) (hby : i.bytes = 1)
    (h : BufAt β w id2 e l u) (s : Str) (hs0 : s ≠ []) {ad : Addr} {m c0 : Nat} (hsrc : ∀ (j : Nat) v, (bcells s)[j]? = some v → w.cell? (ad.add j) = some v) (hm : m = s.length) (hs : a.eval sl = u) (hxe : a.eval x = .slice (some ad) m c0) (hlen : l.length + s.length ≤ 140737488355328)
    (k : ∀ v' w' b2, BufNext β w w' id2 e (l ++ s) v' b2 → wpList P ops Q rest (a.put o.dst v') w') : wpList P ops Q (o :: rest) a w := by
  refine wpList_plain hgd fun K hK => ?_
  subst hm
  obtain ⟨v', w', b2, hr, hn⟩ := buf_appB (P := P) h s hs0 hsrc (t := t) (ty := o.type) (c0 := c0) ht hi hz hsize hby hlen
  have hrun : (execOp a.eval o).run P w = .ok (.value v') w' := by
    simp [execOp, ho, resolve, invoke, builtin, hs, hxe, hr]
  unfold Oper.wp
  rw [hrun]
  exact hK _ _ (k v' w' b2 hn)
end
end Go.SX
end
section
namespace Go.Proofs.YtmfchbkdakmjhaaDoor
set_option linter.unusedSectionVars false
set_option linter.unusedSimpArgs false
set_option linter.unusedVariables false
open Go Go.SX Go.RowKit
set_option maxRecDepth 100000
set_option maxHeartbeats 4000000
theorem sbInfo : ∃ j, Tryd.prog.info? 86 = some j ∧ j.size = 2 := Option.map_eq_some_iff.1 (show (Tryd.prog.info? 86).map (·.size) = some 2 by kernel_rfl)
theorem u8Info : ∃ i, Tryd.prog.info? 5 = some i ∧ i.zero = some (.int .u8 0) ∧ i.size = 1 ∧ i.bytes = 1 := by
  obtain ⟨i, h1, h2⟩ := Option.map_eq_some_iff.1 (show (Tryd.prog.info? 5).map (fun i => (i.zero, i.size, i.bytes)) = some (some (.int .u8 0), 1, 1) by kernel_rfl)
  simp only [Prod.mk.injEq] at h2
  exact ⟨i, h1, h2.1, h2.2.1, h2.2.2⟩
theorem cc_used (b : Nat) (w : World) (h0 : w.cell? ⟨b, 0, none⟩ = some (.pointer (some ⟨b, 0, none⟩))) :
    Calls Tryd.prog 94 #[.pointer (some ⟨b, 0, none⟩)] w fun e w' => e = .returned (.tuple #[]) ∧ w' = w := by
  obtain ⟨j, hj, _⟩ := sbInfo
  go_enter Tryd.func94, Tryd.ntmps94
  go_wp2
  rw [Lib.run_neq_ptr_same w _ Tryd.underlying83 hj]
  go_wp2
  go_end0
  exact ⟨rfl, rfl⟩
theorem cc_fresh (b : Nat) (w : World) (h0 : w.cell? ⟨b, 0, none⟩ = some (.pointer none)) (hsh : w.shape? b = some (86, 2)) (hfz : w.frozen? ⟨b, 0, none⟩ = false) :
    Calls Tryd.prog 94 #[.pointer (some ⟨b, 0, none⟩)] w fun e w' => e = .returned (.tuple #[]) ∧ w' = w.setCell ⟨b, 0, none⟩ (.pointer (some ⟨b, 0, none⟩)) := by
  obtain ⟨j, hj, hjs⟩ := sbInfo
  go_enter Tryd.func94, Tryd.ntmps94
  go_wp2
  rw [Lib.run_to_unsafe w ⟨b, 0, none⟩ Tryd.underlying83 Tryd.underlying163 hj (by rw [hjs]; decide) hsh (Nat.zero_lt_succ 1)]
  simp only [Result.andThen]
  rw [Oper.upon_value]
  go_wp2
  rw [run_callFunc_extern Tryd.func131 (by kernel_rfl) (by kernel_rfl) (by kernel_rfl) (e := Extern.AbiNoEscape.same) (by kernel_rfl)]
  rw [Lib.run_noEscape]
  simp only [Result.andThen]
  rw [Oper.upon_value]
  go_wp2
  rw [Lib.run_from_unsafe w ⟨b, 0, none⟩ Tryd.underlying163 Tryd.underlying83 hj hsh (by kernel_rfl)]
  simp only [Result.andThen]
  rw [Oper.upon_value]
  go_wp2
  go_end0
  exact ⟨rfl, rfl⟩
theorem set_cell0 {w : World} {b : Nat} {p v q : Value} (h : w.heap[b]? = some (.cells #[p, v] 86 (0, 0))) : (w.setCell ⟨b, 0, none⟩ q).heap[b]? = some (.cells #[q, v] 86 (0, 0)) :=
  heap_setCell_same w b 0 #[p, v] 86 q h
theorem set_cell1 {w : World} {b : Nat} {p v q : Value} (h : w.heap[b]? = some (.cells #[p, v] 86 (0, 0))) : (w.setCell ⟨b, 1, none⟩ q).heap[b]? = some (.cells #[p, q] 86 (0, 0)) :=
  heap_setCell_same w b 1 #[p, v] 86 q h
theorem set_stp (w : World) (b i : Nat) (q : Value) : Stp (fun k => k = b) w (w.setCell ⟨b, i, none⟩ q) :=
  ⟨rfl, rfl, rfl, by simp [World.setCell], fun k _ hk => heap_setCell_other w ⟨b, i, none⟩ k q hk⟩
/-- copyCheck: the builder's first cell is its own address. -/
theorem cc (b : Nat) (p v : Value) (w : World) (hp : p = .pointer none ∨ p = .pointer (some ⟨b, 0, none⟩)) (h : w.heap[b]? = some (.cells #[p, v] 86 (0, 0))) :
    Calls Tryd.prog 94 #[.pointer (some ⟨b, 0, none⟩)] w fun e w' => e = .returned (.tuple #[]) ∧ w'.heap[b]? = some (.cells #[.pointer (some ⟨b, 0, none⟩), v] 86 (0, 0)) ∧ Stp (fun k => k = b) w w' := by
  have c0 : w.cell? ⟨b, 0, none⟩ = some p := by rw [Lib.cell_of_heap h]; rfl
  rcases hp with rfl | rfl
  · refine (cc_fresh b w c0 (by simp [World.shape?, h]) (Lib.frozen_of_heap h 0)).mono ?_
    rintro e w' ⟨rfl, rfl⟩
    exact ⟨rfl, set_cell0 h, set_stp _ _ _ _⟩
  · refine (cc_used b w c0).mono ?_
    rintro e w' ⟨rfl, rfl⟩
    exact ⟨rfl, h, Stp.refl _ _⟩
/-- what a method that writes must show behind copyCheck -/
theorem sb_end {β : Nat → Option Nat} {w w1 w2 : World} {id id2 b : Nat} {l : Str} {q u v : Value} {b2 : Option Nat} (hne : id ≠ id2) (hb : β id = some b) (hdis : ∀ g, β id2 = some g → β id ≠ some g) (hlt : b < w.heap.size)
    (hs1 : Stp (fun k => k = b) w w1) (hb1 : w1.heap[b]? = some (.cells #[q, u] 86 (0, 0))) (hq : q = .pointer none ∨ q = .pointer (some ⟨b, 0, none⟩)) (hn : BufNext β w1 w2 id2 5 l v b2) :
    Stp (fun k => β id = some k ∨ β id2 = some k) w (w2.setCell ⟨b, 1, none⟩ v) ∧ (∀ g, b2 = some g → g < (w2.setCell ⟨b, 1, none⟩ v).heap.size ∧ (β id2 = some g ∨ w.heap.size ≤ g)) ∧
      ∀ O' : Nat → Prop, (∀ k, k < w.heap.size → O' k → True) → ObAt (setβ β id2 b2) O' (w2.setCell ⟨b, 1, none⟩ v) id id2 (.sb 86 5 l) (.pointer (some ⟨b, 0, none⟩)) := by
  have hb2 : w2.heap[b]? = some (.cells #[q, u] 86 (0, 0)) := by
    rw [hn.stp.block b (Nat.lt_of_lt_of_le hlt hs1.size) fun e => hdis b e hb]
    exact hb1
  have hnb : ∀ g, b2 = some g → g ≠ b := by
    rintro g hg rfl
    rcases (hn.blk g hg).2 with h | h
    · exact hdis g h hb
    · exact absurd (Nat.lt_of_lt_of_le hlt hs1.size) (by omega)
  refine ⟨((hs1.mono fun k _ hk => .inl (by rw [hb, hk])).trans (hn.stp.mono fun k _ hk => .inr hk) fun _ _ h => h).trans (set_stp w2 b 1 _) fun k _ hk => .inl (by rw [hb, hk]), fun g hg => ?_, fun O' _ => ?_⟩
  · refine ⟨by rw [show (w2.setCell ⟨b, 1, none⟩ v).heap.size = w2.heap.size by simp [World.setCell]]; exact (hn.blk g hg).1, ?_⟩
    exact (hn.blk g hg).2.imp (fun h => h) fun h => Nat.le_trans hs1.size h
  · refine ⟨b, q, v, by unfold setβ; rw [if_neg hne]; exact hb, rfl, set_cell1 hb2, hq, hn.buf _ _ (by simp [setβ]) fun g hg => ?_⟩
    exact heap_setCell_other w2 ⟨b, 1, none⟩ g v (hnb g hg)
/-- the buffer does not see copyCheck -/
theorem buf_kept {β : Nat → Option Nat} {w w1 : World} {id2 : Nat} {e : TypeId} {l : Str} {u : Value} (h : BufAt β w id2 e l u) (hk : ∀ g, β id2 = some g → w1.heap[g]? = w.heap[g]?) : BufAt β w1 id2 e l u := by
  rcases h with h | ⟨g, c, cur, fz, h1, h2, h3, h4⟩
  · exact .inl h
  · exact .inr ⟨g, c, cur, fz, h1, h2, (hk g h1).trans h3, h4⟩
theorem buf_lt {β : Nat → Option Nat} {w : World} {id2 : Nat} {e : TypeId} {l : Str} {u : Value} (h : BufAt β w id2 e l u) {g : Nat} (hg : β id2 = some g) : g < w.heap.size := by
  rcases h with ⟨_, _, h⟩ | ⟨g', c, cur, fz, h1, h2, h3, h4⟩
  · rw [h] at hg; cases hg
  · rw [h1] at hg; injection hg with hg; subst hg; exact (Array.getElem?_eq_some_iff.1 h3).1
variable [Globs]
/-- **String** -/
theorem sb_String (l : Str) : ObSpec Tryd.prog 57 (.sb 86 5 l) [] (.s l) (.sb 86 5 l) := by
  refine ⟨Tryd.call57, fun β O w id id2 v vs hne hO hid hid2 hdis hG hob hargs => ?_⟩
  obtain rfl := hargs.nil_inv
  obtain ⟨b, p, u, hb, rfl, hbk, hp, hbuf⟩ := hob
  have hlt : b < w.heap.size := (Array.getElem?_eq_some_iff.1 hbk).1
  have hcell : Tryd.prog.cellsOf 5 = 1 := by kernel_rfl
  have c1 : w.drew.cell? ⟨b, 1, none⟩ = some u := by
    have : w.drew.heap[b]? = some (.cells #[p, u] 86 (0, 0)) := hbk
    rw [Lib.cell_of_heap this]; rfl
  rcases hbuf with ⟨rfl, rfl, h3⟩ | ⟨g, c, cur, fz, h1, rfl, h2, h3, h4, h5, h6, h7, h8⟩
  · have hSD : (Builtin.unsafeSliceData_ #[84] 133 #[.slice none 0 0]).run Tryd.prog w.drew = .ok (.pointer none) w.drew := Lib.run_unsafeSliceData_nil _ _ _ _ _
    have hUS : (Builtin.unsafeString_ #[133, 3] 9 #[.pointer none, .int .i64 0]).run Tryd.prog w.drew = .ok (.string .empty) w.drew := Lib.run_unsafeString_none w.drew _ _ _ _
    have hob : ∀ O' : Nat → Prop, ObAt (setβ β id2 (β id2)) O' w.drew id id2 (.sb 86 5 []) (.pointer (some ⟨b, 0, none⟩)) := fun O' =>
      ⟨b, p, _, by unfold setβ; rw [if_neg hne]; exact hb, rfl, hbk, hp, .inl ⟨rfl, rfl, by simp [setβ, h3]⟩⟩
    have fin : Stp (fun k => β id = some k ∨ β id2 = some k) w w.drew := (Stp.drew w).mono fun _ _ h => h.elim
    have him : Im (fun _ => True) w.drew (.s []) (.string .empty) := .s [] (Nat.zero_le _)
    go_enter Tryd.func57, Tryd.ntmps57
    go_wp2
    go_region
    all_goals
      go_wp2
      go_ret
      exact ⟨_, β id2, rfl, fin, (fun g hg => by rw [h3] at hg; cases hg), him, fun O' _ => hob O'⟩
  · have hl0 : l.length ≠ 0 := by simpa using h8
    have hgb : g ≠ b := fun e => hdis g h1 (by rw [hb, e])
    have hSD : (Builtin.unsafeSliceData_ #[84] 133 #[.slice (some ⟨g, 0, none⟩) l.length c]).run Tryd.prog w.drew = .ok (.pointer (some ⟨g, 0, none⟩)) w.drew :=
      Lib.run_unsafeSliceData_row _ _ _ _ _ _ (by omega)
    have h2' : w.drew.heap[g]? = some (.cells cur 5 fz) := h2
    have hUS : (Builtin.unsafeString_ #[133, 3] 9 #[.pointer (some ⟨g, 0, none⟩), .int .i64 l.length]).run Tryd.prog w.drew = .ok (.string ⟨l.toArray⟩) (w.drew.freeze ⟨g, 0, none⟩ l.length) := by
      refine Lib.run_unsafeString_row w.drew 133 3 9 5 Tryd.underlying133 hcell g cur.size (by simp [World.shape?, h2']) l h8 (by omega) (by unfold maxLen at h5; omega) ?_
      intro j x hx
      have hadd : (⟨g, 0, none⟩ : Addr).add j = ⟨g, j, none⟩ := by unfold Addr.add; split <;> simp_all
      rw [hadd, cell_of_row w.drew g j cur 5 fz h2']
      have hv : (bcells l)[j]? = some (.int .u8 x.toNat) := by simp [bcells, hx]
      rw [← h7, List.getElem?_take] at hv
      split at hv
      · simpa using hv
      · cases hv
    have hheap : ∀ k, k ≠ g → (w.drew.freeze ⟨g, 0, none⟩ l.length).heap[k]? = w.heap[k]? := by
      intro k hk
      unfold World.freeze
      rw [if_neg hl0]
      simp only [Array.getElem?_modify]
      rw [if_neg (fun e => hk e.symm)]
      rfl
    have hsz : (w.drew.freeze ⟨g, 0, none⟩ l.length).heap.size = w.heap.size := by
      unfold World.freeze
      rw [if_neg hl0]
      simp only [Array.size_modify]
      rfl
    have hg2 : ∃ fz', (w.drew.freeze ⟨g, 0, none⟩ l.length).heap[g]? = some (.cells cur 5 fz') ∧ fz'.2 ≤ l.length := by
      obtain ⟨lo, hi⟩ := fz
      unfold World.freeze
      rw [if_neg hl0]
      refine ⟨(if lo == hi then (0, 0 + l.length) else (min lo 0, max hi (0 + l.length))), by simp [Array.getElem?_modify, h2'], ?_⟩
      simp only at h3
      split <;> simp <;> omega
    obtain ⟨fz', hg2, hfz'⟩ := hg2
    have hob : ∀ O' : Nat → Prop, ObAt (setβ β id2 (β id2)) O' (w.drew.freeze ⟨g, 0, none⟩ l.length) id id2 (.sb 86 5 l) (.pointer (some ⟨b, 0, none⟩)) := fun O' =>
      ⟨b, p, _, by unfold setβ; rw [if_neg hne]; exact hb, rfl, (hheap b (fun e => hgb e.symm)).trans hbk, hp, .inr ⟨g, c, cur, fz', by simp [setβ, h1], rfl, hg2, hfz', h4, h5, h6, h7, h8⟩⟩
    have fin : Stp (fun k => β id = some k ∨ β id2 = some k) w (w.drew.freeze ⟨g, 0, none⟩ l.length) := by
      refine ⟨?_, ?_, ?_, Nat.le_of_eq hsz.symm, fun k _ hk => hheap k fun e => hk (.inr (by rw [h1, e]))⟩ <;> (unfold World.freeze; rw [if_neg hl0]; rfl)
    have him : Im (fun _ => True) (w.drew.freeze ⟨g, 0, none⟩ l.length) (.s l) (.string ⟨l.toArray⟩) := .s l (by omega)
    have hblk : ∀ g', β id2 = some g' → g' < (w.drew.freeze ⟨g, 0, none⟩ l.length).heap.size ∧ (β id2 = some g' ∨ w.heap.size ≤ g') := fun g' hg' => by
      refine ⟨?_, .inl hg'⟩
      rw [h1] at hg'
      injection hg' with hg'
      subst hg'
      rw [hsz]
      exact (Array.getElem?_eq_some_iff.1 h2).1
    go_enter Tryd.func57, Tryd.ntmps57
    go_wp2
    go_region
    all_goals
      go_wp2
      go_ret
      exact ⟨_, β id2, rfl, fin, hblk, him, fun O' _ => hob O'⟩
end Go.Proofs.YtmfchbkdakmjhaaDoor
end
section
namespace Go.Proofs.YtmfchbkdakmjhaaDoor
set_option linter.unusedSectionVars false
set_option linter.unusedSimpArgs false
set_option linter.unusedVariables false
open Go Go.SX Go.RowKit
set_option maxRecDepth 100000
set_option maxHeartbeats 4000000
theorem ru_cells {r : Int} {zs : List Int} (h : Lib.encodeRuneZ r = zs) : bcells (Lib.encodeRune r) = zs.map (Value.int .u8) := by
  have := Lib.byteCells_encodeRune r
  unfold Lib.runeCells at this
  rw [h] at this
  exact this
theorem ru_ne (r : Int) : Lib.encodeRune r ≠ [] := by
  have := (Lib.encodeRuneZ_length r).1
  unfold Lib.encodeRune
  intro e
  rw [List.map_eq_nil_iff] at e
  rw [e] at this
  exact absurd this (by decide)
theorem next_alloc {β : Nat → Option Nat} {w w' : World} {o : Obj} {id2 : Nat} {e : TypeId} {l : Str} {v : Value} {b2 : Option Nat} (h : BufNext β (w.alloc o) w' id2 e l v b2) : BufNext β w w' id2 e l v b2 := by
  have hs : Stp (fun _ => False) w (w.alloc o) := letI : Globs := ⟨[]⟩; Stp.alloc w o
  refine ⟨(hs.mono fun _ _ h => h.elim).trans h.stp fun _ _ h => h, fun g hg => ⟨(h.blk g hg).1, ?_⟩, h.buf, h.sl⟩
  rcases (h.blk g hg).2 with h | h
  · exact .inl h
  · exact .inr (Nat.le_trans hs.size h)
/-- what appending a rune's bytes comes to -/
def RuNext (β : Nat → Option Nat) (w : World) (id2 : Nat) (l : Str) (r : Int) (e : Ending) (w' : World) : Prop := ∃ v' b2, e = .returned v' ∧ BufNext β w w' id2 5 (l ++ Lib.encodeRune r) v' b2
section
variable {β : Nat → Option Nat} {w : World} {id2 : Nat} {l : Str} {u : Value}
theorem ar_one (hbuf : BufAt β w id2 5 l u) (hlen : l.length + 4 ≤ 140737488355328) {r : Int} (h0 : 0 ≤ r) (h1 : r ≤ 127) : Calls Tryd.prog 95 #[u, .int .i32 r] w (RuNext β w id2 l r) := by
  obtain ⟨i0, hi, hz0, hz1, hz2⟩ := u8Info
  have hc : bcells (Lib.encodeRune r) = [.int .u8 r] := ru_cells (Lib.encodeRuneZ_one h0 h1)
  have hl : (Lib.encodeRune r).length = 1 := by rw [← bcells_length, hc]; rfl
  go_enter Tryd.func95, Tryd.ntmps95
  go_wp2_with (at_builtin; refine wpList_bufB rfl _ _ 84 rfl Tryd.underlying84 hi hz0 hz1 hz2 (buf_kept hbuf fun g hg => Lib.alloc_old _ _ g (buf_lt hbuf hg)) (Lib.encodeRune r) (ru_ne r) (ad := ⟨w.heap.size, 0, none⟩) (m := 1) (c0 := 1) ?_ hl.symm rfl rfl (by omega) ?_)
  · intro j v hj
    rw [hc] at hj
    match j, hj with
    | 0, hj => simp at hj; subst hj; simp [Addr.add]
    | (j + 1), hj => simp at hj
  intro v' w2 b2 hn
  obtain ⟨ao, n', cap, rfl⟩ := hn.sl
  go_wp2
  go_ret
  exact ⟨_, b2, rfl, next_alloc hn⟩
theorem an_two (hbuf : BufAt β w id2 5 l u) (hlen : l.length + 4 ≤ 140737488355328) {r : Int} (h0 : 128 ≤ r) (h1 : r ≤ 2047) : Calls Tryd.prog 132 #[u, .int .i32 r] w (RuNext β w id2 l r) := by
  obtain ⟨i0, hi, hz0, hz1, hz2⟩ := u8Info
  have hc : bcells (Lib.encodeRune r) = [.int .u8 (192 + r / 64), .int .u8 (128 + r % 64)] := ru_cells (Lib.encodeRuneZ_two (by omega) (by omega))
  have hl : (Lib.encodeRune r).length = 2 := by rw [← bcells_length, hc]; rfl
  go_enter Tryd.func132, Tryd.ntmps132
  go_wp2_with (at_builtin; refine wpList_bufB rfl _ _ 84 rfl Tryd.underlying84 hi hz0 hz1 hz2 (buf_kept hbuf fun g hg => Lib.alloc_old _ _ g (buf_lt hbuf hg)) (Lib.encodeRune r) (ru_ne r) (ad := ⟨w.heap.size, 0, none⟩) (m := 2) (c0 := 2) ?_ hl.symm rfl rfl (by omega) ?_)
  · intro j v hj
    rw [hc] at hj
    match j, hj with
    | 0, hj => simp at hj; subst hj; simp [Addr.add]
    | 1, hj => simp at hj; subst hj; simp [Addr.add]
    | (j + 2), hj => simp at hj
  intro v' w2 b2 hn
  obtain ⟨ao, n', cap, rfl⟩ := hn.sl
  go_wp2
  go_ret
  exact ⟨_, b2, rfl, next_alloc hn⟩
theorem an_three_lo (hbuf : BufAt β w id2 5 l u) (hlen : l.length + 4 ≤ 140737488355328) {r : Int} (h0 : 2048 ≤ r) (h1 : r < 55296) : Calls Tryd.prog 132 #[u, .int .i32 r] w (RuNext β w id2 l r) := by
  obtain ⟨i0, hi, hz0, hz1, hz2⟩ := u8Info
  have hc : bcells (Lib.encodeRune r) = [.int .u8 (224 + r / 4096), .int .u8 (128 + r / 64 % 64), .int .u8 (128 + r % 64)] := ru_cells (Lib.encodeRuneZ_three (Or.inl ⟨by omega, by omega⟩))
  have hl : (Lib.encodeRune r).length = 3 := by rw [← bcells_length, hc]; rfl
  go_enter Tryd.func132, Tryd.ntmps132
  go_wp2_with (at_builtin; refine wpList_bufB rfl _ _ 84 rfl Tryd.underlying84 hi hz0 hz1 hz2 (buf_kept hbuf fun g hg => Lib.alloc_old _ _ g (buf_lt hbuf hg)) (Lib.encodeRune r) (ru_ne r) (ad := ⟨w.heap.size, 0, none⟩) (m := 3) (c0 := 3) ?_ hl.symm rfl rfl (by omega) ?_)
  · intro j v hj
    rw [hc] at hj
    match j, hj with
    | 0, hj => simp at hj; subst hj; simp [Addr.add]
    | 1, hj => simp at hj; subst hj; simp [Addr.add]
    | 2, hj => simp at hj; subst hj; simp [Addr.add]
    | (j + 3), hj => simp at hj
  intro v' w2 b2 hn
  obtain ⟨ao, n', cap, rfl⟩ := hn.sl
  go_wp2
  go_ret
  exact ⟨_, b2, rfl, next_alloc hn⟩
theorem an_three_hi (hbuf : BufAt β w id2 5 l u) (hlen : l.length + 4 ≤ 140737488355328) {r : Int} (h0 : 57343 < r) (h1 : r ≤ 65535) : Calls Tryd.prog 132 #[u, .int .i32 r] w (RuNext β w id2 l r) := by
  obtain ⟨i0, hi, hz0, hz1, hz2⟩ := u8Info
  have hc : bcells (Lib.encodeRune r) = [.int .u8 (224 + r / 4096), .int .u8 (128 + r / 64 % 64), .int .u8 (128 + r % 64)] := ru_cells (Lib.encodeRuneZ_three (Or.inr ⟨by omega, by omega⟩))
  have hl : (Lib.encodeRune r).length = 3 := by rw [← bcells_length, hc]; rfl
  go_enter Tryd.func132, Tryd.ntmps132
  go_wp2_with (at_builtin; refine wpList_bufB rfl _ _ 84 rfl Tryd.underlying84 hi hz0 hz1 hz2 (buf_kept hbuf fun g hg => Lib.alloc_old _ _ g (buf_lt hbuf hg)) (Lib.encodeRune r) (ru_ne r) (ad := ⟨w.heap.size, 0, none⟩) (m := 3) (c0 := 3) ?_ hl.symm rfl rfl (by omega) ?_)
  · intro j v hj
    rw [hc] at hj
    match j, hj with
    | 0, hj => simp at hj; subst hj; simp [Addr.add]
    | 1, hj => simp at hj; subst hj; simp [Addr.add]
    | 2, hj => simp at hj; subst hj; simp [Addr.add]
    | (j + 3), hj => simp at hj
  intro v' w2 b2 hn
  obtain ⟨ao, n', cap, rfl⟩ := hn.sl
  go_wp2
  go_ret
  exact ⟨_, b2, rfl, next_alloc hn⟩
theorem an_four (hbuf : BufAt β w id2 5 l u) (hlen : l.length + 4 ≤ 140737488355328) {r : Int} (h0 : 65536 ≤ r) (h1 : r ≤ 1114111) : Calls Tryd.prog 132 #[u, .int .i32 r] w (RuNext β w id2 l r) := by
  obtain ⟨i0, hi, hz0, hz1, hz2⟩ := u8Info
  have hc : bcells (Lib.encodeRune r) = [.int .u8 (240 + r / 262144), .int .u8 (128 + r / 4096 % 64), .int .u8 (128 + r / 64 % 64), .int .u8 (128 + r % 64)] := ru_cells (Lib.encodeRuneZ_four (by omega) (by omega))
  have hl : (Lib.encodeRune r).length = 4 := by rw [← bcells_length, hc]; rfl
  go_enter Tryd.func132, Tryd.ntmps132
  go_wp2_with (at_builtin; refine wpList_bufB rfl _ _ 84 rfl Tryd.underlying84 hi hz0 hz1 hz2 (buf_kept hbuf fun g hg => Lib.alloc_old _ _ g (buf_lt hbuf hg)) (Lib.encodeRune r) (ru_ne r) (ad := ⟨w.heap.size, 0, none⟩) (m := 4) (c0 := 4) ?_ hl.symm rfl rfl (by omega) ?_)
  · intro j v hj
    rw [hc] at hj
    match j, hj with
    | 0, hj => simp at hj; subst hj; simp [Addr.add]
    | 1, hj => simp at hj; subst hj; simp [Addr.add]
    | 2, hj => simp at hj; subst hj; simp [Addr.add]
    | 3, hj => simp at hj; subst hj; simp [Addr.add]
    | (j + 4), hj => simp at hj
  intro v' w2 b2 hn
  obtain ⟨ao, n', cap, rfl⟩ := hn.sl
  go_wp2
  go_ret
  exact ⟨_, b2, rfl, next_alloc hn⟩
theorem an_bad_neg (hbuf : BufAt β w id2 5 l u) (hlen : l.length + 4 ≤ 140737488355328) {r : Int} (h0 : -2147483648 ≤ r) (h1 : r < 0) : Calls Tryd.prog 132 #[u, .int .i32 r] w (RuNext β w id2 l r) := by
  obtain ⟨i0, hi, hz0, hz1, hz2⟩ := u8Info
  have hc : bcells (Lib.encodeRune r) = [.int .u8 239, .int .u8 191, .int .u8 189] := ru_cells (Lib.encodeRuneZ_bad (r := r) (by omega))
  have hl : (Lib.encodeRune r).length = 3 := by rw [← bcells_length, hc]; rfl
  go_enter Tryd.func132, Tryd.ntmps132
  go_wp2_with (at_builtin; refine wpList_bufB rfl _ _ 84 rfl Tryd.underlying84 hi hz0 hz1 hz2 (buf_kept hbuf fun g hg => Lib.alloc_old _ _ g (buf_lt hbuf hg)) (Lib.encodeRune r) (ru_ne r) (ad := ⟨w.heap.size, 0, none⟩) (m := 3) (c0 := 3) ?_ hl.symm rfl rfl (by omega) ?_)
  · intro j v hj
    rw [hc] at hj
    match j, hj with
    | 0, hj => simp at hj; subst hj; simp [Addr.add]
    | 1, hj => simp at hj; subst hj; simp [Addr.add]
    | 2, hj => simp at hj; subst hj; simp [Addr.add]
    | (j + 3), hj => simp at hj
  intro v' w2 b2 hn
  obtain ⟨ao, n', cap, rfl⟩ := hn.sl
  go_wp2
  go_ret
  exact ⟨_, b2, rfl, next_alloc hn⟩
theorem an_bad_sur (hbuf : BufAt β w id2 5 l u) (hlen : l.length + 4 ≤ 140737488355328) {r : Int} (h0 : 55296 ≤ r) (h1 : r ≤ 57343) : Calls Tryd.prog 132 #[u, .int .i32 r] w (RuNext β w id2 l r) := by
  obtain ⟨i0, hi, hz0, hz1, hz2⟩ := u8Info
  have hc : bcells (Lib.encodeRune r) = [.int .u8 239, .int .u8 191, .int .u8 189] := ru_cells (Lib.encodeRuneZ_bad (r := r) (by omega))
  have hl : (Lib.encodeRune r).length = 3 := by rw [← bcells_length, hc]; rfl
  go_enter Tryd.func132, Tryd.ntmps132
  go_wp2_with (at_builtin; refine wpList_bufB rfl _ _ 84 rfl Tryd.underlying84 hi hz0 hz1 hz2 (buf_kept hbuf fun g hg => Lib.alloc_old _ _ g (buf_lt hbuf hg)) (Lib.encodeRune r) (ru_ne r) (ad := ⟨w.heap.size, 0, none⟩) (m := 3) (c0 := 3) ?_ hl.symm rfl rfl (by omega) ?_)
  all_goals first
    | (intro v' w2 b2 hn; obtain ⟨ao, n', cap, rfl⟩ := hn.sl; go_wp2; go_ret; exact ⟨_, b2, rfl, next_alloc hn⟩)
    | (intro j v hj
       rw [hc] at hj
       match j, hj with
       | 0, hj => simp at hj; subst hj; simp [Addr.add]
       | 1, hj => simp at hj; subst hj; simp [Addr.add]
       | 2, hj => simp at hj; subst hj; simp [Addr.add]
       | (j + 3), hj => simp at hj)
theorem an_bad_big (hbuf : BufAt β w id2 5 l u) (hlen : l.length + 4 ≤ 140737488355328) {r : Int} (h0 : 1114111 < r) (h1 : r ≤ 2147483647) : Calls Tryd.prog 132 #[u, .int .i32 r] w (RuNext β w id2 l r) := by
  obtain ⟨i0, hi, hz0, hz1, hz2⟩ := u8Info
  have hc : bcells (Lib.encodeRune r) = [.int .u8 239, .int .u8 191, .int .u8 189] := ru_cells (Lib.encodeRuneZ_bad (r := r) (by omega))
  have hl : (Lib.encodeRune r).length = 3 := by rw [← bcells_length, hc]; rfl
  go_enter Tryd.func132, Tryd.ntmps132
  go_wp2_with (at_builtin; refine wpList_bufB rfl _ _ 84 rfl Tryd.underlying84 hi hz0 hz1 hz2 (buf_kept hbuf fun g hg => Lib.alloc_old _ _ g (buf_lt hbuf hg)) (Lib.encodeRune r) (ru_ne r) (ad := ⟨w.heap.size, 0, none⟩) (m := 3) (c0 := 3) ?_ hl.symm rfl rfl (by omega) ?_)
  · intro j v hj
    rw [hc] at hj
    match j, hj with
    | 0, hj => simp at hj; subst hj; simp [Addr.add]
    | 1, hj => simp at hj; subst hj; simp [Addr.add]
    | 2, hj => simp at hj; subst hj; simp [Addr.add]
    | (j + 3), hj => simp at hj
  intro v' w2 b2 hn
  obtain ⟨ao, n', cap, rfl⟩ := hn.sl
  go_wp2
  go_ret
  exact ⟨_, b2, rfl, next_alloc hn⟩
theorem an_all (hbuf : BufAt β w id2 5 l u) (hlen : l.length + 4 ≤ 140737488355328) {r : Int} (hr0 : -2147483648 ≤ r) (hr1 : r ≤ 2147483647) (hna : r < 0 ∨ 128 ≤ r) : Calls Tryd.prog 132 #[u, .int .i32 r] w (RuNext β w id2 l r) := by
  by_cases c0 : r < 0
  · exact an_bad_neg hbuf hlen hr0 c0
  by_cases c1 : r ≤ 2047
  · exact an_two hbuf hlen (by omega) c1
  by_cases c2 : r < 55296
  · exact an_three_lo hbuf hlen (by omega) c2
  by_cases c3 : r ≤ 57343
  · exact an_bad_sur hbuf hlen (by omega) c3
  by_cases c4 : r ≤ 65535
  · exact an_three_hi hbuf hlen (by omega) c4
  by_cases c5 : r ≤ 1114111
  · exact an_four hbuf hlen (by omega) c5
  · exact an_bad_big hbuf hlen (by omega) hr1
theorem ar_other (hbuf : BufAt β w id2 5 l u) (hlen : l.length + 4 ≤ 140737488355328) {r : Int} (hr0 : -2147483648 ≤ r) (hr1 : r ≤ 2147483647) (hna : r < 0 ∨ 128 ≤ r) : Calls Tryd.prog 95 #[u, .int .i32 r] w (RuNext β w id2 l r) := by
  rcases hna with hna | hna
  all_goals
    go_enter Tryd.func95, Tryd.ntmps95
    go_wp2_with (go_at_call 132; refine (an_all hbuf hlen hr0 hr1 (by omega)).mono ?_)
    rintro e w1 ⟨v', b2, rfl, hn⟩
    obtain ⟨ao, n', cap, rfl⟩ := hn.sl
    go_wp2
    go_ret
    exact ⟨_, b2, rfl, hn⟩
/-- AppendRune onto a builder's buffer -/
theorem ar_all (hbuf : BufAt β w id2 5 l u) (hlen : l.length + 4 ≤ 140737488355328) {r : Int} (hr0 : -2147483648 ≤ r) (hr1 : r ≤ 2147483647) : Calls Tryd.prog 95 #[u, .int .i32 r] w (RuNext β w id2 l r) := by
  by_cases c : 0 ≤ r ∧ r ≤ 127
  · exact ar_one hbuf hlen c.1 c.2
  · exact ar_other hbuf hlen hr0 hr1 (by omega)
end
variable [Globs]
/-- **WriteRune** -/
theorem sb_WriteRune (l : Str) {r : Int} (hr0 : -2147483648 ≤ r) (hr1 : r ≤ 2147483647) (hlen : l.length + 4 ≤ 140737488355328) : ObSpec Tryd.prog 54 (.sb 86 5 l) [.i .i32 r] (.x) (.sb 86 5 (l ++ Lib.encodeRune r)) := by
  refine ⟨Tryd.call54, fun β O w id id2 v vs hne hO hid hid2 hdis hG hob hargs => ?_⟩
  obtain ⟨v1, vs', rfl, h1, h⟩ := hargs.cons_inv
  obtain rfl := h.nil_inv
  cases h1
  obtain ⟨b, p, u, hb, rfl, hbk, hp, hbuf⟩ := hob
  have hlt : b < w.heap.size := (Array.getElem?_eq_some_iff.1 hbk).1
  obtain ⟨ua, un, uc, hus⟩ : ∃ a n c, u = .slice a n c := hbuf.same.sl
  go_enter Tryd.func54, Tryd.ntmps54
  go_wp2_with (go_at_call 94; refine (cc b p u _ hp hbk).mono ?_)
  rintro e w1 ⟨rfl, hb1, hs1⟩
  have c1 : w1.cell? ⟨b, 1, none⟩ = some u := by rw [Lib.cell_of_heap hb1]; rfl
  have hbuf1 := buf_kept hbuf fun g hg => hs1.block g (buf_lt hbuf hg) fun e => hdis g hg (by rw [hb, e])
  subst hus
  go_wp2_with (go_at_call 95; refine (ar_all hbuf1 hlen hr0 hr1).mono ?_)
  rintro e w2 ⟨v', b2, rfl, hn⟩
  obtain ⟨hst, hblk, hob⟩ := sb_end hne hb hdis hlt hs1 hb1 (.inr rfl) hn
  have hb2 : w2.heap[b]? = some (.cells #[.pointer (some ⟨b, 0, none⟩), .slice ua un uc] 86 (0, 0)) := by
    rw [hn.stp.block b (Nat.lt_of_lt_of_le hlt hs1.size) fun e => hdis b e hb]
    exact hb1
  have d1 : w2.cell? ⟨b, 1, none⟩ = some (.slice ua un uc) := by rw [Lib.cell_of_heap hb2]; rfl
  have f1 : w2.frozen? ⟨b, 1, none⟩ = false := Lib.frozen_of_heap hb2 1
  obtain ⟨ao, n', cap, rfl⟩ := hn.sl
  go_wp2
  go_ret2
  exact ⟨_, b2, rfl, hst, hblk, .x _, fun O' _ => hob O' fun _ _ _ => trivial⟩
end Go.Proofs.YtmfchbkdakmjhaaDoor
end
section
namespace Go.Proofs.YtmfchbkdakmjhaaDoor
set_option linter.unusedSectionVars false
set_option linter.unusedSimpArgs false
set_option linter.unusedVariables false
open Go Go.SX Go.Ut Go.RowKit
set_option maxRecDepth 100000
set_option maxHeartbeats 0
theorem size0 (n : Int) : sizeR n = 0 ↔ ¬ scalar n := by
  unfold sizeR
  by_cases h : scalar n
  · rw [if_pos h]
    refine ⟨fun e => ?_, fun e => absurd h e⟩
    (repeat' split at e) <;> exact absurd e (by decide)
  · rw [if_neg h]
    exact ⟨fun _ => h, fun _ => rfl⟩
section
variable [G : Globs]
end
end Go.Proofs.YtmfchbkdakmjhaaDoor
end
section
namespace Go.Proofs.YtmfchbkdakmjhaaDoor
set_option linter.unusedSectionVars false
set_option linter.unusedSimpArgs false
set_option linter.unusedVariables false
open Go Go.SX Go.RowKit
set_option maxRecDepth 100000
set_option maxHeartbeats 4000000
theorem next_allocB {β : Nat → Option Nat} {w w' : World} {o : Obj} {id2 : Nat} {e : TypeId} {l : Str} {v : Value} {b2 : Option Nat} (h : BufNext β (w.alloc o) w' id2 e l v b2) : BufNext β w w' id2 e l v b2 := by
  have hs : Stp (fun _ => False) w (w.alloc o) := letI : Globs := ⟨[]⟩; Stp.alloc w o
  refine ⟨(hs.mono fun _ _ h => h.elim).trans h.stp fun _ _ h => h, fun g hg => ⟨(h.blk g hg).1, ?_⟩, h.buf, h.sl⟩
  rcases (h.blk g hg).2 with h | h
  · exact .inl h
  · exact .inr (Nat.le_trans hs.size h)
variable [Globs]
/-- **WriteByte** -/
theorem sb_WriteByte (l : Str) (c : UInt8) (hlen : l.length + 1 ≤ 140737488355328) : ObSpec Tryd.prog 53 (.sb 86 5 l) [.i .u8 (c.toNat : Int)] (.x) (.sb 86 5 (l ++ [c])) := by
  refine ⟨Tryd.call53, fun β O w id id2 v vs hne hO hid hid2 hdis hG hob hargs => ?_⟩
  obtain ⟨v1, vs', rfl, h1, h⟩ := hargs.cons_inv
  obtain rfl := h.nil_inv
  cases h1
  obtain ⟨b, p, u, hb, rfl, hbk, hp, hbuf⟩ := hob
  obtain ⟨i0, hi, hz0, hz1, hz2⟩ := u8Info
  have hc : bcells [c] = [.int .u8 (c.toNat : Int)] := rfl
  have hlt : b < w.heap.size := (Array.getElem?_eq_some_iff.1 hbk).1
  go_enter Tryd.func53, Tryd.ntmps53
  go_wp2_with (go_at_call 94; refine (cc b p u _ hp hbk).mono ?_)
  rintro e w1 ⟨rfl, hb1, hs1⟩
  have c1 : w1.cell? ⟨b, 1, none⟩ = some u := by rw [Lib.cell_of_heap hb1]; rfl
  have hbuf1 := buf_kept hbuf fun g hg => hs1.block g (buf_lt hbuf hg) fun e => hdis g hg (by rw [hb, e])
  go_wp2_with (at_builtin; refine wpList_bufB rfl _ _ 84 rfl Tryd.underlying84 hi hz0 hz1 hz2 (buf_kept hbuf1 fun g hg => Lib.alloc_old _ _ g (buf_lt hbuf1 hg)) [c] (by simp) (ad := ⟨w1.heap.size, 0, none⟩) (m := 1) (c0 := 1) ?_ rfl rfl rfl hlen ?_)
  · intro j v hj
    rw [hc] at hj
    match j, hj with
    | 0, hj => simp at hj; subst hj; simp [Addr.add]
    | (j + 1), hj => simp at hj
  intro v' w2 b2 hn0
  have hn := next_allocB hn0
  obtain ⟨hst, hblk, hob⟩ := sb_end hne hb hdis hlt hs1 hb1 (.inr rfl) hn
  have hb2 : w2.heap[b]? = some (.cells #[.pointer (some ⟨b, 0, none⟩), u] 86 (0, 0)) := by
    rw [hn.stp.block b (Nat.lt_of_lt_of_le hlt hs1.size) fun e => hdis b e hb]
    exact hb1
  have d1 : w2.cell? ⟨b, 1, none⟩ = some u := by rw [Lib.cell_of_heap hb2]; rfl
  have f1 : w2.frozen? ⟨b, 1, none⟩ = false := Lib.frozen_of_heap hb2 1
  obtain ⟨ao, n', cap, rfl⟩ := hn.sl
  go_wp2
  go_ret
  exact ⟨_, b2, rfl, hst, hblk, .x _, fun O' _ => hob O' fun _ _ _ => trivial⟩
end Go.Proofs.YtmfchbkdakmjhaaDoor
end
section
namespace Go.Proofs.YtmfchbkdakmjhaaDoor
set_option linter.unusedSectionVars false
set_option linter.unusedSimpArgs false
set_option linter.unusedVariables false
open Go Go.SX Go.Ut Go.Nm Go.Es
set_option maxRecDepth 100000
set_option maxHeartbeats 1000000
def lett (n : Int) : Prop := (97 ≤ n ∧ n ≤ 122) ∨ (65 ≤ n ∧ n ≤ 90)
instance (n : Int) : Decidable (lett n) := by unfold lett; infer_instance
section
variable [G : Globs]
theorem w_letter (n : Int) : vc Tryd.prog Γ 17 [0, 2] (Tryd.f66.body.getD .skip) (postK Γ [.tmp 2] (fun v => v = .b (decide (lett n)))) ⟨argSlots 0 [.i .u8 n], []⟩ := by
  repeat' (refine And.intro (fun h => ?_) (fun h => ?_) <;> (try simp [-List.getD_eq_getElem?_getD, -Int.pred_toNat] at h))
  all_goals
    refine congrArg AV.b ?_
    rw [Bool.eq_iff_iff]
    simp only [cond_true, cond_false, decide_eq_true_eq, Bool.false_eq_true, true_iff, false_iff]
    unfold lett
    first | omega | (constructor <;> intro h9 <;> (try (exfalso; exact h9)) <;> omega)
theorem s_letter (n : Int) : PSpec Tryd.prog 66 [.i .u8 n] (.b (decide (lett n))) :=
  pspec_of_vc Γ_good Tryd.func66 rfl Tryd.call66 Tryd.results66 Tryd.ntmps66 (Nat.le_of_ble_eq_true rfl) (w_letter n)
theorem w_bareP (s : Str) : vc Tryd.prog Γ 68 [0, 2, 3, 4, 5, 6, 13, 15, 16, 17, 18, 59, 61, 62] (Tryd.f26.body.getD .skip) (postK Γ [.tmp 2] (fun v => v = .b (bare s))) ⟨argSlots 0 [.s s], []⟩ := by
  by_cases h0 : s = []
  · subst h0
    (repeat' (first | (refine And.intro (fun h => ?_) (fun h => ?_) <;> (try simp [-List.getD_eq_getElem?_getD, -Int.pred_toNat] at h) <;> (try (exfalso; first | omega | contradiction))) | (refine And.intro (rng64 (by omega) (by omega)) ?_) | (refine And.intro ⟨by omega, by omega⟩ ?_) | (refine And.intro ⟨by omega, by omega, by omega⟩ ?_) | (intro _)))
    rfl
  have hb0 : (s == []) = false := by simpa using h0
  have h1 : 1 ≤ s.length := by cases s with | nil => exact absurd rfl h0 | cons _ _ => exact Nat.succ_le_succ (Nat.zero_le _)
  by_cases h2 : s.length ≤ 100
  · (repeat' (first | (refine And.intro (fun h => ?_) (fun h => ?_) <;> (try simp [-List.getD_eq_getElem?_getD, -Int.pred_toNat] at h) <;> (try (exfalso; first | omega | contradiction))) | (refine And.intro (rng64 (by omega) (by omega)) ?_) | (refine And.intro ⟨by omega, by omega⟩ ?_) | (refine And.intro ⟨by omega, by omega, by omega⟩ ?_) | (intro _)))
    refine Exists.intro [] (Exists.intro [] (Exists.intro [] (Exists.intro Nat (Exists.intro (fun k => k ≤ s.length ∧ keyUp s k) (Exists.intro (fun k => ⟨[(0, .s s), (15, .rd .u8 (toJ s)), (16, .i .i64 (toJ s).length), (17, .i .i64 k)], []⟩) (Exists.intro (fun k => s.length - k) (Exists.intro 0 (And.intro ⟨Nat.zero_le _, keyUp_zero s⟩ (And.intro ?_ ?_)))))))))
    · (repeat' (first | exact trivial | exact Or.inl rfl | exact Or.inr (Or.inl ⟨rfl, _, rfl⟩) | exact Or.inr (Or.inr (Or.inr ⟨_, _, _, rfl, rfl⟩)) | refine And.intro ?_ ?_))
    rintro k ⟨hk0, hu⟩
    have hjl := toJ_len s
    refine And.intro (fun h => ?_) (fun h => ?_)
    · have hk : k < s.length := by have : (k : Int) < (toJ s).length := of_decide_eq_true h; omega
      refine And.intro ⟨by omega, by omega⟩ ?_
      have hg : (toJ s).getD (Int.toNat k) 0 = ((s.getD k 0).toNat : Int) := by
        rw [Int.toNat_natCast, List.getD_eq_getElem?_getD, List.getD_eq_getElem?_getD]
        unfold toJ
        rw [List.getElem?_map, List.getElem?_eq_getElem hk]
        rfl
      rw [hg]
      have hcl := (s.getD k 0).toNat_lt
      have hyes := fun h => keyUp_succ (s := s) (k := k) hu ((keyC_iff _ _).2 h)
      have hno := fun h => bare_no (s := s) (k := k) hk (keyC_no h)
      generalize s.getD k 0 = c at *
      by_cases hcl1 : keyP k c
      · have hyes := hyes hcl1
        unfold keyP at hcl1
        rcases hcl1 with h3 | h3 | h3 | ⟨h3, h4 | h4⟩
        all_goals
          (repeat' (first | (refine And.intro (fun h => ?_) (fun h => ?_) <;> (try simp [-List.getD_eq_getElem?_getD, -Int.pred_toNat] at h) <;> (try (exfalso; first | omega | contradiction))) | (refine And.intro (rng64 (by omega) (by omega)) ?_) | (refine And.intro ⟨by omega, by omega⟩ ?_) | (refine And.intro ⟨by omega, by omega, by omega⟩ ?_) | (intro _)))
          refine Exists.intro [] (Exists.intro (k + 1) (And.intro ⟨hk, hyes⟩ (And.intro ?_ ?_)))
          · (repeat' (first | exact trivial | exact Or.inl rfl | exact Or.inr (Or.inl ⟨rfl, _, rfl⟩) | exact Or.inr (Or.inr (Or.inr ⟨_, _, _, rfl, rfl⟩)) | refine And.intro ?_ ?_))
          · (exact Nat.sub_lt_sub_left (by omega) (by omega))
      · rw [hno hcl1]
        unfold keyP at hcl1
        by_cases hk0 : k = 0
        · subst hk0
          rcases (show c.toNat < 65 ∨ (90 < c.toNat ∧ c.toNat < 95) ∨ c.toNat = 96 ∨ 122 < c.toNat by omega) with h3 | h3 | h3 | h3
          all_goals
            rcases (show (48 ≤ c.toNat ∧ c.toNat ≤ 57) ∨ c.toNat = 45 ∨ (c.toNat < 45 ∨ c.toNat = 46 ∨ c.toNat = 47 ∨ 57 < c.toNat) by omega) with h4 | h4 | h4
            all_goals first
              | (exfalso; omega)
              | ((repeat' (first | (refine And.intro (fun h => ?_) (fun h => ?_) <;> (try simp [-List.getD_eq_getElem?_getD, -Int.pred_toNat] at h) <;> (try (exfalso; first | omega | contradiction))) | (refine And.intro (rng64 (by omega) (by omega)) ?_) | (refine And.intro ⟨by omega, by omega⟩ ?_) | (refine And.intro ⟨by omega, by omega, by omega⟩ ?_) | (intro _))); all_goals rfl)
        · rcases (show c.toNat < 45 ∨ c.toNat = 46 ∨ c.toNat = 47 ∨ (57 < c.toNat ∧ c.toNat < 65) ∨ (90 < c.toNat ∧ c.toNat < 95) ∨ c.toNat = 96 ∨ 122 < c.toNat by omega) with h3 | h3 | h3 | h3 | h3 | h3 | h3
          all_goals
            (repeat' (first | (refine And.intro (fun h => ?_) (fun h => ?_) <;> (try simp [-List.getD_eq_getElem?_getD, -Int.pred_toNat] at h) <;> (try (exfalso; first | omega | contradiction))) | (refine And.intro (rng64 (by omega) (by omega)) ?_) | (refine And.intro ⟨by omega, by omega⟩ ?_) | (refine And.intro ⟨by omega, by omega, by omega⟩ ?_) | (intro _)))
            all_goals rfl
    · have hk : k = s.length := by have : ¬ (k : Int) < (toJ s).length := of_decide_eq_false h; omega
      subst hk
      have hy := fun h => bare_yes (s := s) ⟨h1, h2⟩ hu h
      have hw := bare_word (s := s)
      unfold wordB at hy hw
      by_cases e0 : s = [110, 117, 108, 108]
      · rw [hw (by simp [e0])]
        (repeat' (first | (refine And.intro (fun h => ?_) (fun h => ?_) <;> (try simp [-List.getD_eq_getElem?_getD, -Int.pred_toNat] at h) <;> (try (exfalso; first | omega | contradiction))) | (refine And.intro (rng64 (by omega) (by omega)) ?_) | (refine And.intro ⟨by omega, by omega⟩ ?_) | (refine And.intro ⟨by omega, by omega, by omega⟩ ?_) | (intro _)))
        all_goals rfl
      by_cases e1 : s = [116, 114, 117, 101]
      · rw [hw (by simp [e1])]
        (repeat' (first | (refine And.intro (fun h => ?_) (fun h => ?_) <;> (try simp [-List.getD_eq_getElem?_getD, -Int.pred_toNat] at h) <;> (try (exfalso; first | omega | contradiction))) | (refine And.intro (rng64 (by omega) (by omega)) ?_) | (refine And.intro ⟨by omega, by omega⟩ ?_) | (refine And.intro ⟨by omega, by omega, by omega⟩ ?_) | (intro _)))
        all_goals rfl
      by_cases e2 : s = [102, 97, 108, 115, 101]
      · rw [hw (by simp [e2])]
        (repeat' (first | (refine And.intro (fun h => ?_) (fun h => ?_) <;> (try simp [-List.getD_eq_getElem?_getD, -Int.pred_toNat] at h) <;> (try (exfalso; first | omega | contradiction))) | (refine And.intro (rng64 (by omega) (by omega)) ?_) | (refine And.intro ⟨by omega, by omega⟩ ?_) | (refine And.intro ⟨by omega, by omega, by omega⟩ ?_) | (intro _)))
        all_goals rfl
      by_cases e3 : s = [110, 97, 110]
      · rw [hw (by simp [e3])]
        (repeat' (first | (refine And.intro (fun h => ?_) (fun h => ?_) <;> (try simp [-List.getD_eq_getElem?_getD, -Int.pred_toNat] at h) <;> (try (exfalso; first | omega | contradiction))) | (refine And.intro (rng64 (by omega) (by omega)) ?_) | (refine And.intro ⟨by omega, by omega⟩ ?_) | (refine And.intro ⟨by omega, by omega, by omega⟩ ?_) | (intro _)))
        all_goals rfl
      by_cases e4 : s = [105, 110, 102]
      · rw [hw (by simp [e4])]
        (repeat' (first | (refine And.intro (fun h => ?_) (fun h => ?_) <;> (try simp [-List.getD_eq_getElem?_getD, -Int.pred_toNat] at h) <;> (try (exfalso; first | omega | contradiction))) | (refine And.intro (rng64 (by omega) (by omega)) ?_) | (refine And.intro ⟨by omega, by omega⟩ ?_) | (refine And.intro ⟨by omega, by omega, by omega⟩ ?_) | (intro _)))
        all_goals rfl
      rw [hy (by simp [e0, e1, e2, e3, e4])]
      (repeat' (first | (refine And.intro (fun h => ?_) (fun h => ?_) <;> (try simp [-List.getD_eq_getElem?_getD, -Int.pred_toNat] at h) <;> (try (exfalso; first | omega | contradiction))) | (refine And.intro (rng64 (by omega) (by omega)) ?_) | (refine And.intro ⟨by omega, by omega⟩ ?_) | (refine And.intro ⟨by omega, by omega, by omega⟩ ?_) | (intro _)))
      all_goals rfl
  · rw [bare_len (fun h => h2 h.2)]
    (repeat' (first | (refine And.intro (fun h => ?_) (fun h => ?_) <;> (try simp [-List.getD_eq_getElem?_getD, -Int.pred_toNat] at h) <;> (try (exfalso; first | omega | contradiction))) | (refine And.intro (rng64 (by omega) (by omega)) ?_) | (refine And.intro ⟨by omega, by omega⟩ ?_) | (refine And.intro ⟨by omega, by omega, by omega⟩ ?_) | (intro _)))
    rfl
theorem s_bareP (s : Str) : PSpec Tryd.prog 26 [.s s] (.b (bare s)) :=
  pspec_of_vc Γ_good Tryd.func26 rfl Tryd.call26 Tryd.results26 Tryd.ntmps26 (Nat.le_of_ble_eq_true rfl) (w_bareP s)
end
end Go.Proofs.YtmfchbkdakmjhaaDoor
end
section
namespace Go.Proofs.YtmfchbkdakmjhaaDoor
set_option linter.unusedSectionVars false
set_option linter.unusedSimpArgs false
set_option linter.unusedVariables false
open Go Go.SX Go.Ut Go.Nm Go.Es
set_option maxRecDepth 100000
set_option maxHeartbeats 1000000
section
variable [G : Globs]
theorem w_isDig (s : Str) (k : Nat) (hk : k < s.length) : vc Tryd.prog Γ 21 [0, 1, 4] (Tryd.f67.body.getD .skip) (postK Γ [.tmp 4] (fun v => v = .b (decide (48 ≤ (s.getD k 0).toNat ∧ (s.getD k 0).toNat ≤ 57)))) ⟨argSlots 0 [.s s, .i .i64 k], []⟩ := by
  have hg : s.getD (Int.toNat (k : Int)) 0 = s.getD k 0 := by rw [Int.toNat_natCast]
  rw [← hg]
  intro _
  refine And.intro (fun _ => ?_) (fun h => absurd (of_decide_eq_false h) (by omega))
  refine And.intro ⟨by omega, by omega⟩ ?_
  generalize hc : s.getD (Int.toNat (k : Int)) 0 = c
  refine And.intro (fun h => ?_) (fun h => ?_)
  · have h : (48 : Int) ≤ (c.toNat : Int) := of_decide_eq_true h
    refine And.intro ⟨by omega, by omega⟩ ?_
    rw [hc]
    refine congrArg AV.b ?_
    rw [Bool.eq_iff_iff]
    simp only [cond_true, cond_false, decide_eq_true_eq]
    omega
  · have h : ¬ (48 : Int) ≤ (c.toNat : Int) := of_decide_eq_false h
    refine congrArg AV.b ?_
    rw [Bool.eq_iff_iff]
    simp only [cond_true, cond_false, decide_eq_true_eq, Bool.false_eq_true]
    exact ⟨False.elim, fun h9 => h (by omega)⟩
theorem s_isDig (s : Str) (k : Nat) (hk : k < s.length) : PSpec Tryd.prog 67 [.s s, .i .i64 k] (.b (decide (48 ≤ (s.getD k 0).toNat ∧ (s.getD k 0).toNat ≤ 57))) :=
  pspec_of_vc Γ_good Tryd.func67 rfl Tryd.call67 Tryd.results67 Tryd.ntmps67 (Nat.le_of_ble_eq_true rfl) (w_isDig s k hk)
theorem w_bareR (s : Str) : vc Tryd.prog Γ 62 [0, 2, 3, 31, 35, 47, 61] (Tryd.f27.body.getD .skip) (postK Γ [.tmp 2] (fun v => v = .b (bare s))) ⟨argSlots 0 [.s s], []⟩ := by
  have hw := bare_word (s := s)
  unfold wordB at hw
  by_cases h1 : 1 ≤ s.length ∧ s.length ≤ 100
  rotate_left
  · rw [bare_len h1]
    by_cases h2 : 1 ≤ s.length
    · (repeat' (first | (refine And.intro (fun h => ?_) (fun h => ?_) <;> (try simp [-List.getD_eq_getElem?_getD, -Int.pred_toNat] at h) <;> (try (exfalso; first | omega | contradiction))) | (refine And.intro (rng64 (by omega) (by omega)) ?_) | (refine And.intro ⟨by omega, by omega⟩ ?_) | (refine And.intro ⟨by omega, by omega, by omega⟩ ?_) | (intro _)))
      all_goals rfl
    · (repeat' (first | (refine And.intro (fun h => ?_) (fun h => ?_) <;> (try simp [-List.getD_eq_getElem?_getD, -Int.pred_toNat] at h) <;> (try (exfalso; first | omega | contradiction))) | (refine And.intro (rng64 (by omega) (by omega)) ?_) | (refine And.intro ⟨by omega, by omega⟩ ?_) | (refine And.intro ⟨by omega, by omega, by omega⟩ ?_) | (intro _)))
      all_goals rfl
  by_cases e0 : s = [110, 117, 108, 108]
  · rw [hw (by simp [e0])]; (repeat' (first | (refine And.intro (fun h => ?_) (fun h => ?_) <;> (try simp [-List.getD_eq_getElem?_getD, -Int.pred_toNat] at h) <;> (try (exfalso; first | omega | contradiction))) | (refine And.intro (rng64 (by omega) (by omega)) ?_) | (refine And.intro ⟨by omega, by omega⟩ ?_) | (refine And.intro ⟨by omega, by omega, by omega⟩ ?_) | (intro _))); all_goals rfl
  by_cases e1 : s = [116, 114, 117, 101]
  · rw [hw (by simp [e1])]; (repeat' (first | (refine And.intro (fun h => ?_) (fun h => ?_) <;> (try simp [-List.getD_eq_getElem?_getD, -Int.pred_toNat] at h) <;> (try (exfalso; first | omega | contradiction))) | (refine And.intro (rng64 (by omega) (by omega)) ?_) | (refine And.intro ⟨by omega, by omega⟩ ?_) | (refine And.intro ⟨by omega, by omega, by omega⟩ ?_) | (intro _))); all_goals rfl
  by_cases e2 : s = [102, 97, 108, 115, 101]
  · rw [hw (by simp [e2])]; (repeat' (first | (refine And.intro (fun h => ?_) (fun h => ?_) <;> (try simp [-List.getD_eq_getElem?_getD, -Int.pred_toNat] at h) <;> (try (exfalso; first | omega | contradiction))) | (refine And.intro (rng64 (by omega) (by omega)) ?_) | (refine And.intro ⟨by omega, by omega⟩ ?_) | (refine And.intro ⟨by omega, by omega, by omega⟩ ?_) | (intro _))); all_goals rfl
  by_cases e3 : s = [110, 97, 110]
  · rw [hw (by simp [e3])]; (repeat' (first | (refine And.intro (fun h => ?_) (fun h => ?_) <;> (try simp [-List.getD_eq_getElem?_getD, -Int.pred_toNat] at h) <;> (try (exfalso; first | omega | contradiction))) | (refine And.intro (rng64 (by omega) (by omega)) ?_) | (refine And.intro ⟨by omega, by omega⟩ ?_) | (refine And.intro ⟨by omega, by omega, by omega⟩ ?_) | (intro _))); all_goals rfl
  by_cases e4 : s = [105, 110, 102]
  · rw [hw (by simp [e4])]; (repeat' (first | (refine And.intro (fun h => ?_) (fun h => ?_) <;> (try simp [-List.getD_eq_getElem?_getD, -Int.pred_toNat] at h) <;> (try (exfalso; first | omega | contradiction))) | (refine And.intro (rng64 (by omega) (by omega)) ?_) | (refine And.intro ⟨by omega, by omega⟩ ?_) | (refine And.intro ⟨by omega, by omega, by omega⟩ ?_) | (intro _))); all_goals rfl
  (repeat' (first | (refine And.intro (fun h => ?_) (fun h => ?_) <;> (try simp [-List.getD_eq_getElem?_getD, -Int.pred_toNat] at h) <;> (try (exfalso; first | omega | contradiction))) | (refine And.intro (rng64 (by omega) (by omega)) ?_) | (refine And.intro ⟨by omega, by omega⟩ ?_) | (refine And.intro ⟨by omega, by omega, by omega⟩ ?_) | (intro _)))
  refine Exists.intro [] (Exists.intro [] (Exists.intro [] (Exists.intro Nat (Exists.intro (fun k => k ≤ s.length ∧ keyUp s k) (Exists.intro (fun k => ⟨[(0, .s s), (3, .i .i64 k)], []⟩) (Exists.intro (fun k => s.length - k) (Exists.intro 0 (And.intro ⟨Nat.zero_le _, keyUp_zero s⟩ (And.intro ?_ ?_)))))))))
  · (repeat' (first | exact trivial | exact Or.inl rfl | exact Or.inr (Or.inl ⟨rfl, _, rfl⟩) | exact Or.inr (Or.inr (Or.inr ⟨_, _, _, rfl, rfl⟩)) | refine And.intro ?_ ?_))
  rintro k ⟨hk0, hu⟩
  intro _
  refine And.intro (fun h => ?_) (fun h => ?_)
  · have hk : k < s.length := by have : (k : Int) < s.length := of_decide_eq_true h; omega
    refine And.intro ⟨by omega, by omega⟩ ?_
    have hg : s.getD (Int.toNat (k : Int)) 0 = s.getD k 0 := by rw [Int.toNat_natCast]
    have hyes := fun h => keyUp_succ (s := s) (k := k) hu ((keyC_iff _ _).2 h)
    have hno := fun h => bare_no (s := s) (k := k) hk (keyC_no h)
    have hD := s_isDig s k hk
    have hcl := (s.getD k 0).toNat_lt
    refine Or.inl (Exists.intro _ (And.intro (s_letter ((s.getD (Int.toNat (k : Int)) 0).toNat : Int)) ?_))
    by_cases hL : lett ((s.getD k 0).toNat : Int)
    · have hyes := hyes (by unfold lett at hL; unfold keyP; omega)
      (repeat' (first | (refine And.intro (fun h => ?_) (fun h => ?_) <;> (try simp [-List.getD_eq_getElem?_getD, -Int.pred_toNat] at h) <;> (try (exfalso; first | omega | contradiction))) | (refine And.intro (rng64 (by omega) (by omega)) ?_) | (refine And.intro ⟨by omega, by omega⟩ ?_) | (refine And.intro ⟨by omega, by omega, by omega⟩ ?_) | (intro _)))
      refine Exists.intro [] (Exists.intro (k + 1) (And.intro ⟨hk, hyes⟩ (And.intro ?_ ?_)))
      · (repeat' (first | exact trivial | exact Or.inl rfl | exact Or.inr (Or.inl ⟨rfl, _, rfl⟩) | exact Or.inr (Or.inr (Or.inr ⟨_, _, _, rfl, rfl⟩)) | refine And.intro ?_ ?_))
      · (exact Nat.sub_lt_sub_left (by omega) (by omega))
    by_cases h95 : (s.getD k 0).toNat = 95
    · have hyes := hyes (by unfold keyP; omega)
      (repeat' (first | (refine And.intro (fun h => ?_) (fun h => ?_) <;> (try simp [-List.getD_eq_getElem?_getD, -Int.pred_toNat] at h) <;> (try (exfalso; first | omega | contradiction))) | (refine And.intro (rng64 (by omega) (by omega)) ?_) | (refine And.intro ⟨by omega, by omega⟩ ?_) | (refine And.intro ⟨by omega, by omega, by omega⟩ ?_) | (intro _)))
      refine Exists.intro [] (Exists.intro (k + 1) (And.intro ⟨hk, hyes⟩ (And.intro ?_ ?_)))
      · (repeat' (first | exact trivial | exact Or.inl rfl | exact Or.inr (Or.inl ⟨rfl, _, rfl⟩) | exact Or.inr (Or.inr (Or.inr ⟨_, _, _, rfl, rfl⟩)) | refine And.intro ?_ ?_))
      · (exact Nat.sub_lt_sub_left (by omega) (by omega))
    by_cases hk0 : k = 0
    · rw [hno (by unfold lett at hL; unfold keyP; omega)]
      (repeat' (first | (refine And.intro (fun h => ?_) (fun h => ?_) <;> (try simp [-List.getD_eq_getElem?_getD, -Int.pred_toNat] at h) <;> (try (exfalso; first | omega | contradiction))) | (refine And.intro (rng64 (by omega) (by omega)) ?_) | (refine And.intro ⟨by omega, by omega⟩ ?_) | (refine And.intro ⟨by omega, by omega, by omega⟩ ?_) | (intro _)))
      all_goals rfl
    by_cases h45 : (s.getD k 0).toNat = 45
    · have hyes := hyes (by unfold keyP; omega)
      have hq : (((s.getD k 0).toNat : Int) != 45) = false := by rw [h45]; rfl
      (repeat' (first | (refine And.intro (fun h => ?_) (fun h => ?_) <;> (try simp [-List.getD_eq_getElem?_getD, -Int.pred_toNat] at h) <;> (try (exfalso; first | omega | contradiction))) | (refine And.intro (rng64 (by omega) (by omega)) ?_) | (refine And.intro ⟨by omega, by omega⟩ ?_) | (refine And.intro ⟨by omega, by omega, by omega⟩ ?_) | (intro _)))
      all_goals first
        | (exfalso; simp_all; done)
        | skip
      refine Exists.intro [] (Exists.intro (k + 1) (And.intro ⟨hk, hyes⟩ (And.intro ?_ ?_)))
      · (repeat' (first | exact trivial | exact Or.inl rfl | exact Or.inr (Or.inl ⟨rfl, _, rfl⟩) | exact Or.inr (Or.inr (Or.inr ⟨_, _, _, rfl, rfl⟩)) | refine And.intro ?_ ?_))
      · (exact Nat.sub_lt_sub_left (by omega) (by omega))
    by_cases hd : 48 ≤ (s.getD k 0).toNat ∧ (s.getD k 0).toNat ≤ 57
    · have hyes := hyes (by unfold keyP; omega)
      rw [decide_eq_true hd] at hD
      (repeat' (first | (refine And.intro (fun h => ?_) (fun h => ?_) <;> (try simp [-List.getD_eq_getElem?_getD, -Int.pred_toNat] at h) <;> (try (exfalso; first | omega | contradiction))) | (refine And.intro (rng64 (by omega) (by omega)) ?_) | (refine And.intro ⟨by omega, by omega⟩ ?_) | (refine And.intro ⟨by omega, by omega, by omega⟩ ?_) | (intro _)))
      refine Or.inl (Exists.intro _ (And.intro (hD) ?_))
      (repeat' (first | (refine And.intro (fun h => ?_) (fun h => ?_) <;> (try simp [-List.getD_eq_getElem?_getD, -Int.pred_toNat] at h) <;> (try (exfalso; first | omega | contradiction))) | (refine And.intro (rng64 (by omega) (by omega)) ?_) | (refine And.intro ⟨by omega, by omega⟩ ?_) | (refine And.intro ⟨by omega, by omega, by omega⟩ ?_) | (intro _)))
      refine Exists.intro [] (Exists.intro (k + 1) (And.intro ⟨hk, hyes⟩ (And.intro ?_ ?_)))
      · (repeat' (first | exact trivial | exact Or.inl rfl | exact Or.inr (Or.inl ⟨rfl, _, rfl⟩) | exact Or.inr (Or.inr (Or.inr ⟨_, _, _, rfl, rfl⟩)) | refine And.intro ?_ ?_))
      · (exact Nat.sub_lt_sub_left (by omega) (by omega))
    · rw [hno (by unfold lett at hL; unfold keyP; omega)]
      rw [decide_eq_false hd] at hD
      (repeat' (first | (refine And.intro (fun h => ?_) (fun h => ?_) <;> (try simp [-List.getD_eq_getElem?_getD, -Int.pred_toNat] at h) <;> (try (exfalso; first | omega | contradiction))) | (refine And.intro (rng64 (by omega) (by omega)) ?_) | (refine And.intro ⟨by omega, by omega⟩ ?_) | (refine And.intro ⟨by omega, by omega, by omega⟩ ?_) | (intro _)))
      refine Or.inl (Exists.intro _ (And.intro (hD) ?_))
      (repeat' (first | (refine And.intro (fun h => ?_) (fun h => ?_) <;> (try simp [-List.getD_eq_getElem?_getD, -Int.pred_toNat] at h) <;> (try (exfalso; first | omega | contradiction))) | (refine And.intro (rng64 (by omega) (by omega)) ?_) | (refine And.intro ⟨by omega, by omega⟩ ?_) | (refine And.intro ⟨by omega, by omega, by omega⟩ ?_) | (intro _)))
      all_goals rfl
  · have hk : k = s.length := by have : ¬ (k : Int) < s.length := of_decide_eq_false h; omega
    subst hk
    rw [bare_yes h1 hu (by unfold wordB; simp [e0, e1, e2, e3, e4])]
    rfl
theorem s_bareR (s : Str) : PSpec Tryd.prog 27 [.s s] (.b (bare s)) :=
  pspec_of_vc Γ_good Tryd.func27 rfl Tryd.call27 Tryd.results27 Tryd.ntmps27 (Nat.le_of_ble_eq_true rfl) (w_bareR s)
end
end Go.Proofs.YtmfchbkdakmjhaaDoor
end
section
namespace Go.Proofs.YtmfchbkdakmjhaaDoor
set_option linter.unusedSectionVars false
set_option linter.unusedSimpArgs false
set_option linter.unusedVariables false
open Go Go.SX Go.RowKit
set_option maxRecDepth 100000
set_option maxHeartbeats 4000000
variable [Globs]
/-- **WriteString** -/
theorem sb_WriteString (l s : Str) (hlen : l.length + s.length ≤ 140737488355328) : ObSpec Tryd.prog 55 (.sb 86 5 l) [.s s] (.x) (.sb 86 5 (l ++ s)) := by
  refine ⟨Tryd.call55, fun β O w id id2 v vs hne hO hid hid2 hdis hG hob hargs => ?_⟩
  obtain ⟨v1, vs', rfl, h1, h⟩ := hargs.cons_inv
  obtain rfl := h.nil_inv
  cases h1
  obtain ⟨b, p, u, hb, rfl, hbk, hp, hbuf⟩ := hob
  obtain ⟨i0, hi, hz0, hz1, hz2⟩ := u8Info
  have hlt : b < w.heap.size := (Array.getElem?_eq_some_iff.1 hbk).1
  go_enter Tryd.func55, Tryd.ntmps55
  go_wp2_with (go_at_call 94; refine (cc b p u _ hp hbk).mono ?_)
  rintro e w1 ⟨rfl, hb1, hs1⟩
  have c1 : w1.cell? ⟨b, 1, none⟩ = some u := by rw [Lib.cell_of_heap hb1]; rfl
  have hbuf1 := buf_kept hbuf fun g hg => hs1.block g (buf_lt hbuf hg) fun e => hdis g hg (by rw [hb, e])
  go_wp2_with (at_builtin; refine wpList_buf rfl _ _ 84 9 rfl Tryd.underlying84 Tryd.underlying9 hi hz0 hz1 hz2 hbuf1 s rfl rfl hlen ?_)
  intro v' w2 b2 hn
  obtain ⟨hst, hblk, hob⟩ := sb_end hne hb hdis hlt hs1 hb1 (.inr rfl) hn
  have hb2 : w2.heap[b]? = some (.cells #[.pointer (some ⟨b, 0, none⟩), u] 86 (0, 0)) := by
    rw [hn.stp.block b (Nat.lt_of_lt_of_le hlt hs1.size) fun e => hdis b e hb]
    exact hb1
  have d1 : w2.cell? ⟨b, 1, none⟩ = some u := by rw [Lib.cell_of_heap hb2]; rfl
  have f1 : w2.frozen? ⟨b, 1, none⟩ = false := Lib.frozen_of_heap hb2 1
  obtain ⟨ao, n', cap, rfl⟩ := hn.sl
  go_wp2
  go_ret2
  exact ⟨_, b2, rfl, hst, hblk, .x _, fun O' _ => hob O' fun _ _ _ => trivial⟩
end Go.Proofs.YtmfchbkdakmjhaaDoor
end
section
namespace Go.Proofs.YtmfchbkdakmjhaaDoor
set_option linter.unusedSectionVars false
set_option linter.unusedSimpArgs false
set_option linter.unusedVariables false
open Go Go.SX Go.Ut Go.Nm Go.Es
set_option maxRecDepth 100000
set_option maxHeartbeats 1000000
section
variable [G : Globs]
theorem w_fmt0 (ht : HasNum) (n : Int) (b k : Nat) (hb : b = 2 ^ k) (hk : k = 1 ∨ k = 3 ∨ k = 4) (hc : Lib.ctz 64 b = k) (h0 : -9223372036854775808 ≤ n) (h1 : n ≤ 9223372036854775807) : vc Tryd.prog Γ 54 [0, 1, 4, 5, 6, 7, 9, 11, 17, 23, 34] (Tryd.f96.body.getD .skip) (postK Γ [.tmp 4] (fun v => v = .s (txtB n b))) ⟨argSlots 0 [.i .i64 n, .i .i64 (b : Int)], []⟩ := by
  have hbv : (b = 2 ∧ k = 1) ∨ (b = 8 ∧ k = 3) ∨ (b = 16 ∧ k = 4) := by
    rcases hk with rfl | rfl | rfl
    · exact .inl ⟨hb, rfl⟩
    · exact .inr (.inl ⟨hb, rfl⟩)
    · exact .inr (.inr ⟨hb, rfl⟩)
  have hF := s_fbits ht n b k hb hk hc h0 h1
  (repeat' (first | (refine And.intro (fun h => ?_) (fun h => ?_) <;> (try simp [-List.getD_eq_getElem?_getD, -Int.pred_toNat] at h) <;> (try (exfalso; first | omega | contradiction))) | (refine And.intro (rng64 (by omega) (by omega)) ?_) | (refine And.intro ⟨by omega, by omega⟩ ?_) | (refine And.intro ⟨by omega, by omega, by omega⟩ ?_) | (intro _)))
  refine Or.inl (Exists.intro _ (And.intro (hF) ?_))
  rfl
theorem s_fmt0 (ht : HasNum) (n : Int) (b k : Nat) (hb : b = 2 ^ k) (hk : k = 1 ∨ k = 3 ∨ k = 4) (hc : Lib.ctz 64 b = k) (h0 : -9223372036854775808 ≤ n) (h1 : n ≤ 9223372036854775807) : PSpec Tryd.prog 96 [.i .i64 n, .i .i64 (b : Int)] (.s (txtB n b)) :=
  pspec_of_vc Γ_good Tryd.func96 rfl Tryd.call96 Tryd.results96 Tryd.ntmps96 (Nat.le_of_ble_eq_true rfl) (w_fmt0 ht n b k hb hk hc h0 h1)
theorem w_fmtB (ht : HasNum) (n : Int) (b k : Nat) (hb : b = 2 ^ k) (hk : k = 1 ∨ k = 3 ∨ k = 4) (hc : Lib.ctz 64 b = k) (h0 : -9223372036854775808 ≤ n) (h1 : n ≤ 9223372036854775807) : vc Tryd.prog Γ 8 [0, 1, 4] (Tryd.f56.body.getD .skip) (postK Γ [.tmp 4] (fun v => v = .s (txtB n b))) ⟨argSlots 0 [.i .i64 n, .i .i64 (b : Int)], []⟩ := by
  refine Or.inl (Exists.intro _ (And.intro (s_fmt0 ht n b k hb hk hc h0 h1) ?_))
  rfl
theorem s_fmtB (ht : HasNum) (n : Int) (b k : Nat) (hb : b = 2 ^ k) (hk : k = 1 ∨ k = 3 ∨ k = 4) (hc : Lib.ctz 64 b = k) (h0 : -9223372036854775808 ≤ n) (h1 : n ≤ 9223372036854775807) : PSpec Tryd.prog 56 [.i .i64 n, .i .i64 (b : Int)] (.s (txtB n b)) :=
  pspec_of_vc Γ_good Tryd.func56 rfl Tryd.call56 Tryd.results56 Tryd.ntmps56 (Nat.le_of_ble_eq_true rfl) (w_fmtB ht n b k hb hk hc h0 h1)
theorem w_quoteP (ht : HasNum) (hu : HasU8) (s : Str) (hs : s.length ≤ 1048576) : vc Tryd.prog Γ 55 [0, 2, 3, 4, 6, 9, 12, 13, 14, 18, 28, 32, 36, 40] (Tryd.f19.body.getD .skip) (postK Γ [.tmp 2, .tmp 3] (fun v => v = if 0 ≤ bad s then .tup [.s [], .i .i64 3] else .tup [.s (qAll s), .i .i64 0])) ⟨argSlots 0 [.s s], []⟩ := by
  refine Or.inl (Exists.intro _ (And.intro (s_Bad hu s) ?_))
  refine And.intro (fun h => ?_) (fun h => ?_)
  · have h : 0 ≤ bad s := of_decide_eq_true h
    rw [if_pos h]
    rfl
  have h : ¬ 0 ≤ bad s := of_decide_eq_false h
  rw [if_neg h]
  refine Exists.intro 100 (And.intro rfl ?_)
  refine Exists.intro _ (Exists.intro _ (And.intro (sb_WriteByte [] 34 (by decide)) ?_))
  refine Exists.intro [] (Exists.intro [] (Exists.intro [] (Exists.intro (Str × Nat) (Exists.intro (fun x => x.2 ≤ s.length ∧ x.1 ++ qFrom s x.2 ++ [34] = qAll s ∧ x.1.length ≤ 1 + 6 * x.2) (Exists.intro (fun ⟨o, i⟩ => ⟨[(4, .ob 4 100 (.sb 86 5 o)), (12, .ob 12 12 (.it s i))], []⟩) (Exists.intro (fun x => s.length - x.2) (Exists.intro ([34], 0) (And.intro ⟨Nat.zero_le _, rfl, Nat.le_refl _⟩ (And.intro ?_ ?_)))))))))
  · (repeat' (first | exact trivial | exact Or.inl rfl | exact Or.inr (Or.inl ⟨rfl, _, rfl⟩) | exact Or.inr (Or.inr (Or.inr ⟨_, _, _, rfl, rfl⟩)) | refine And.intro ?_ ?_))
  rintro ⟨o, i⟩ ⟨hi, heq, hol⟩
  simp only at hi heq hol
  refine And.intro (fun hk => ?_) (fun hk => ?_)
  · rw [qFrom_step hk, ← List.append_assoc] at heq
    have hp := dec_pos s i
    have hle := dec_le hk
    have hd := dec_rune s i
    have hsc := dec_scalar s i
    have h0 : (0 : Int) ≤ ((decAt s i).1 : Int) := by omega
    have h6 := q1_le h0
    have hlen : (o ++ q1 ((decAt s i).1 : Int)).length ≤ 1 + 6 * (i + (decAt s i).2) := by rw [List.length_append]; omega
    have hE := encode_scalar hsc
    have hqq : q1 ((decAt s i).1 : Int) = q1 ((decAt s i).1 : Int) := rfl
    conv at hqq => rhs; unfold q1
    generalize hr : ((decAt s i).1 : Int) = r at *
    (focus (refine And.intro ?_ (fun h9 => ?_); rotate_left 1; (focus (exfalso; revert h9; first | decide | (simp <;> omega) | (intro h9; simp at h9 <;> omega))); refine fun _ => ?_))
    have hN : (o ++ q1 r).length ≤ 100000000 := by omega
    by_cases c1 : r = 34
    · (repeat' (first | (refine And.intro (fun h => ?_) (fun h => ?_) <;> (try simp [-List.getD_eq_getElem?_getD, -Int.pred_toNat] at h) <;> (try (exfalso; first | omega | contradiction))) | (refine And.intro (rng64 (by omega) (by omega)) ?_) | (refine And.intro ⟨by omega, by omega⟩ ?_) | (refine And.intro ⟨by omega, by omega, by omega⟩ ?_) | (intro _)))
      refine Exists.intro _ (Exists.intro _ (And.intro (sb_WriteByte o 92 (by omega)) ?_))
      refine Exists.intro _ (Exists.intro _ (And.intro (sb_WriteRune (o ++ [92]) (r := r) (by omega) (by omega) (by rw [List.length_append, List.length_cons, List.length_nil]; omega)) ?_))
      rw [show (o ++ [92]) ++ Lib.encodeRune r = o ++ q1 r by rw [hE, hqq, if_pos c1, c1, List.append_assoc]; rfl]
      refine Exists.intro [] (Exists.intro (o ++ q1 r, i + (decAt s i).2) (And.intro ⟨hle, heq, hlen⟩ (And.intro ?_ ?_)))
      · (repeat' (first | exact trivial | exact Or.inl rfl | exact Or.inr (Or.inl ⟨rfl, _, rfl⟩) | exact Or.inr (Or.inr (Or.inr ⟨_, _, _, rfl, rfl⟩)) | refine And.intro ?_ ?_))
      · (exact Nat.sub_lt_sub_left (by omega) (by omega))
    rw [if_neg c1] at hqq
    by_cases c2 : r = 92
    · (repeat' (first | (refine And.intro (fun h => ?_) (fun h => ?_) <;> (try simp [-List.getD_eq_getElem?_getD, -Int.pred_toNat] at h) <;> (try (exfalso; first | omega | contradiction))) | (refine And.intro (rng64 (by omega) (by omega)) ?_) | (refine And.intro ⟨by omega, by omega⟩ ?_) | (refine And.intro ⟨by omega, by omega, by omega⟩ ?_) | (intro _)))
      refine Exists.intro _ (Exists.intro _ (And.intro (sb_WriteByte o 92 (by omega)) ?_))
      refine Exists.intro _ (Exists.intro _ (And.intro (sb_WriteRune (o ++ [92]) (r := r) (by omega) (by omega) (by rw [List.length_append, List.length_cons, List.length_nil]; omega)) ?_))
      rw [show (o ++ [92]) ++ Lib.encodeRune r = o ++ q1 r by rw [hE, hqq, if_pos c2, c2, List.append_assoc]; rfl]
      refine Exists.intro [] (Exists.intro (o ++ q1 r, i + (decAt s i).2) (And.intro ⟨hle, heq, hlen⟩ (And.intro ?_ ?_)))
      · (repeat' (first | exact trivial | exact Or.inl rfl | exact Or.inr (Or.inl ⟨rfl, _, rfl⟩) | exact Or.inr (Or.inr (Or.inr ⟨_, _, _, rfl, rfl⟩)) | refine And.intro ?_ ?_))
      · (exact Nat.sub_lt_sub_left (by omega) (by omega))
    rw [if_neg c2] at hqq
    by_cases c3 : r = 10
    · (repeat' (first | (refine And.intro (fun h => ?_) (fun h => ?_) <;> (try simp [-List.getD_eq_getElem?_getD, -Int.pred_toNat] at h) <;> (try (exfalso; first | omega | contradiction))) | (refine And.intro (rng64 (by omega) (by omega)) ?_) | (refine And.intro ⟨by omega, by omega⟩ ?_) | (refine And.intro ⟨by omega, by omega, by omega⟩ ?_) | (intro _)))
      refine Exists.intro _ (Exists.intro _ (And.intro (sb_WriteString o [92, 110] (by show o.length + 2 ≤ _; omega)) ?_))
      rw [show o ++ [92, 110] = o ++ q1 r by rw [hqq, if_pos c3]]
      refine Exists.intro [] (Exists.intro (o ++ q1 r, i + (decAt s i).2) (And.intro ⟨hle, heq, hlen⟩ (And.intro ?_ ?_)))
      · (repeat' (first | exact trivial | exact Or.inl rfl | exact Or.inr (Or.inl ⟨rfl, _, rfl⟩) | exact Or.inr (Or.inr (Or.inr ⟨_, _, _, rfl, rfl⟩)) | refine And.intro ?_ ?_))
      · (exact Nat.sub_lt_sub_left (by omega) (by omega))
    rw [if_neg c3] at hqq
    by_cases c4 : r = 9
    · (repeat' (first | (refine And.intro (fun h => ?_) (fun h => ?_) <;> (try simp [-List.getD_eq_getElem?_getD, -Int.pred_toNat] at h) <;> (try (exfalso; first | omega | contradiction))) | (refine And.intro (rng64 (by omega) (by omega)) ?_) | (refine And.intro ⟨by omega, by omega⟩ ?_) | (refine And.intro ⟨by omega, by omega, by omega⟩ ?_) | (intro _)))
      refine Exists.intro _ (Exists.intro _ (And.intro (sb_WriteString o [92, 116] (by show o.length + 2 ≤ _; omega)) ?_))
      rw [show o ++ [92, 116] = o ++ q1 r by rw [hqq, if_pos c4]]
      refine Exists.intro [] (Exists.intro (o ++ q1 r, i + (decAt s i).2) (And.intro ⟨hle, heq, hlen⟩ (And.intro ?_ ?_)))
      · (repeat' (first | exact trivial | exact Or.inl rfl | exact Or.inr (Or.inl ⟨rfl, _, rfl⟩) | exact Or.inr (Or.inr (Or.inr ⟨_, _, _, rfl, rfl⟩)) | refine And.intro ?_ ?_))
      · (exact Nat.sub_lt_sub_left (by omega) (by omega))
    rw [if_neg c4] at hqq
    by_cases c5 : r = 13
    · (repeat' (first | (refine And.intro (fun h => ?_) (fun h => ?_) <;> (try simp [-List.getD_eq_getElem?_getD, -Int.pred_toNat] at h) <;> (try (exfalso; first | omega | contradiction))) | (refine And.intro (rng64 (by omega) (by omega)) ?_) | (refine And.intro ⟨by omega, by omega⟩ ?_) | (refine And.intro ⟨by omega, by omega, by omega⟩ ?_) | (intro _)))
      refine Exists.intro _ (Exists.intro _ (And.intro (sb_WriteString o [92, 114] (by show o.length + 2 ≤ _; omega)) ?_))
      rw [show o ++ [92, 114] = o ++ q1 r by rw [hqq, if_pos c5]]
      refine Exists.intro [] (Exists.intro (o ++ q1 r, i + (decAt s i).2) (And.intro ⟨hle, heq, hlen⟩ (And.intro ?_ ?_)))
      · (repeat' (first | exact trivial | exact Or.inl rfl | exact Or.inr (Or.inl ⟨rfl, _, rfl⟩) | exact Or.inr (Or.inr (Or.inr ⟨_, _, _, rfl, rfl⟩)) | refine And.intro ?_ ?_))
      · (exact Nat.sub_lt_sub_left (by omega) (by omega))
    rw [if_neg c5] at hqq
    by_cases c6 : r < 32 ∨ r = 127
    · rw [if_pos c6] at hqq
      have hF := s_fmtB ht r 16 4 rfl (.inr (.inr rfl)) rfl (by omega) (by omega)
      have hT : txtB r 16 = txtN 16 r.toNat := by unfold txtB; rw [if_neg (by omega), show r.natAbs = r.toNat by omega]; rfl
      have hT2 := hexT_le h0 c6
      rw [hT] at hF
      have hw : IntKind.i64.wrap r = r := by rw [IntKind.wrap_i64]; omega
      have hF : PSpec Tryd.prog 56 [.i .i64 (IntKind.i64.wrap r), .i .i64 16] (.s (txtN 16 r.toNat)) := by rw [hw]; exact hF
      have hm : maxLen = 1152921504606846976 ∨ 1000000 ≤ maxLen := .inr (by decide)
      have hmm : 1000000 ≤ maxLen := by decide
      rcases c6 with c6 | c6
      all_goals
        (repeat' (first | (refine And.intro (fun h => ?_) (fun h => ?_) <;> (try simp [-List.getD_eq_getElem?_getD, -Int.pred_toNat] at h) <;> (try (exfalso; first | omega | contradiction))) | (refine And.intro (rng64 (by omega) (by omega)) ?_) | (refine And.intro ⟨by omega, by omega⟩ ?_) | (refine And.intro ⟨by omega, by omega, by omega⟩ ?_) | (intro _)))
        refine Or.inl (Exists.intro _ (And.intro (hF) ?_))
        refine And.intro (by show 3 + (txtN 16 r.toNat).length ≤ maxLen; omega) ?_
        refine And.intro (by rw [List.length_append]; show 3 + (txtN 16 r.toNat).length + 1 ≤ maxLen; omega) ?_
        refine Exists.intro _ (Exists.intro _ (And.intro (sb_WriteString o ([92, 117, 123] ++ txtN 16 r.toNat ++ [125]) (by rw [List.length_append, List.length_append]; show o.length + (3 + (txtN 16 r.toNat).length + 1) ≤ _; omega)) ?_))
        rw [← hqq]
        refine Exists.intro [] (Exists.intro (o ++ q1 r, i + (decAt s i).2) (And.intro ⟨hle, heq, hlen⟩ (And.intro ?_ ?_)))
        · (repeat' (first | exact trivial | exact Or.inl rfl | exact Or.inr (Or.inl ⟨rfl, _, rfl⟩) | exact Or.inr (Or.inr (Or.inr ⟨_, _, _, rfl, rfl⟩)) | refine And.intro ?_ ?_))
        · (exact Nat.sub_lt_sub_left (by omega) (by omega))
    rw [if_neg c6] at hqq
    (repeat' (first | (refine And.intro (fun h => ?_) (fun h => ?_) <;> (try simp [-List.getD_eq_getElem?_getD, -Int.pred_toNat] at h) <;> (try (exfalso; first | omega | contradiction))) | (refine And.intro (rng64 (by omega) (by omega)) ?_) | (refine And.intro ⟨by omega, by omega⟩ ?_) | (refine And.intro ⟨by omega, by omega, by omega⟩ ?_) | (intro _)))
    refine Exists.intro _ (Exists.intro _ (And.intro (sb_WriteRune o (r := r) (by omega) (by omega) (by omega)) ?_))
    rw [show o ++ Lib.encodeRune r = o ++ q1 r by rw [hE, hqq]]
    refine Exists.intro [] (Exists.intro (o ++ q1 r, i + (decAt s i).2) (And.intro ⟨hle, heq, hlen⟩ (And.intro ?_ ?_)))
    · (repeat' (first | exact trivial | exact Or.inl rfl | exact Or.inr (Or.inl ⟨rfl, _, rfl⟩) | exact Or.inr (Or.inr (Or.inr ⟨_, _, _, rfl, rfl⟩)) | refine And.intro ?_ ?_))
    · (exact Nat.sub_lt_sub_left (by omega) (by omega))
  · rw [qFrom_end (by omega), List.append_nil] at heq
    (focus (refine And.intro (fun h9 => ?_) ?_; (focus (exfalso; revert h9; first | decide | (simp <;> omega) | (intro h9; simp at h9 <;> omega))); refine fun _ => ?_))
    refine Exists.intro _ (Exists.intro _ (And.intro (sb_WriteByte o 34 (by omega)) ?_))
    refine Exists.intro _ (Exists.intro _ (And.intro (sb_String (o ++ [34])) ?_))
    rw [heq]
    rfl
theorem s_quoteP (ht : HasNum) (hu : HasU8) (s : Str) (hs : s.length ≤ 1048576) : PSpec Tryd.prog 19 [.s s] (if 0 ≤ bad s then .tup [.s [], .i .i64 3] else .tup [.s (qAll s), .i .i64 0]) :=
  pspec_of_vc Γ_good Tryd.func19 rfl Tryd.call19 Tryd.results19 Tryd.ntmps19 (Nat.le_of_ble_eq_true rfl) (w_quoteP ht hu s hs)
end
end Go.Proofs.YtmfchbkdakmjhaaDoor
end
section
namespace Go.Proofs.YtmfchbkdakmjhaaDoor
set_option linter.unusedSectionVars false
set_option linter.unusedSimpArgs false
set_option linter.unusedVariables false
open Go Go.SX Go.Ut Go.Nm Go.Es
set_option maxRecDepth 100000
set_option maxHeartbeats 1000000
section
variable [G : Globs]
theorem runesF_len (s : Str) : ∀ (f i : Nat), (runesF s f i).length ≤ f
  | 0, _ => by rw [runesF]; exact Nat.le_refl _
  | f + 1, i => by
    rw [runesF]
    split
    · exact Nat.succ_le_succ (runesF_len s f _)
    · exact Nat.zero_le _
theorem qL_take {l : List Int} {k : Nat} (h : k < l.length) : qL (l.take (k + 1)) = qL (l.take k) ++ q1 l[k] := by
  unfold qL
  rw [List.take_succ_eq_append_getElem h, List.flatMap_append]
  simp
theorem w_quotedR (s : Str) (hs : s.length ≤ 1048576) (hb : bad s < 0) : vc Tryd.prog Γ 74 [0, 2, 3, 5, 7, 8, 9, 10, 18, 23, 28, 33, 38, 43, 54, 66] (Tryd.f22.body.getD .skip) (postK Γ [.tmp 2] (fun v => v = .s (qAll s))) ⟨argSlots 0 [.s s], []⟩ := by
  refine Or.inl (Exists.intro _ (And.intro (s_Scalars s hs hb) ?_))
  have hq : qAll s = [34] ++ qL (runes s) ++ [34] := rfl
  rw [hq]
  have hsc := runes_scalar s
  have hll : (runes s).length ≤ s.length := by rw [runes_from0]; exact runesF_len s _ _
  generalize runes s = l at *
  intro _
  refine Exists.intro [] (Exists.intro [] (Exists.intro [] (Exists.intro Nat (Exists.intro (fun k => k ≤ l.length ∧ (qL (l.take k)).length ≤ 6 * k) (Exists.intro (fun k => ⟨[(3, .s ([34] ++ qL (l.take k))), (7, .rd .rune l), (8, .i .i64 l.length), (9, .i .i64 k)], []⟩) (Exists.intro (fun k => l.length - k) (Exists.intro 0 (And.intro ⟨Nat.zero_le _, Nat.le_refl _⟩ (And.intro ?_ ?_)))))))))
  · (repeat' (first | exact trivial | exact Or.inl rfl | exact Or.inr (Or.inl ⟨rfl, _, rfl⟩) | exact Or.inr (Or.inr (Or.inr ⟨_, _, _, rfl, rfl⟩)) | refine And.intro ?_ ?_))
  rintro k ⟨hk0, hol⟩
  refine And.intro (fun h => ?_) (fun h => ?_)
  · have hk : k < l.length := by have : (k : Int) < l.length := of_decide_eq_true h; omega
    refine And.intro ⟨by omega, by omega⟩ ?_
    have hg : l.getD (Int.toNat k) 0 = l[k] := by rw [Int.toNat_natCast, List.getD_eq_getElem?_getD, List.getElem?_eq_getElem hk]; rfl
    rw [hg]
    have hs1 := hsc l[k] (List.getElem_mem hk)
    have hqt := qL_take hk
    have h6 := q1_le hs1.1
    have hol2 : (qL (l.take (k + 1))).length ≤ 6 * (k + 1) := by rw [hqt, List.length_append]; omega
    have hmm : 100000000 ≤ maxLen := by decide
    have hlk : 0 ≤ l[k] ∧ l[k] ≤ 1114111 := ⟨hs1.1, hs1.2.1⟩
    have hl1 : ([34] ++ qL (l.take k)).length ≤ 10000000 := by rw [List.length_append]; show 1 + (qL (l.take k)).length ≤ _; omega
    have fin : ∀ x : Str, q1 l[k] = x → ([34] ++ qL (l.take k)) ++ x = [34] ++ qL (l.take (k + 1)) := fun x e => by rw [hqt, e, List.append_assoc]
    rcases q1_c hs1.1 with ⟨c, e⟩ | ⟨c, e⟩ | ⟨c, e⟩ | ⟨c, e⟩ | ⟨c, e⟩ | ⟨c, e⟩ | ⟨c, e⟩ | ⟨c, e⟩ | ⟨c, e⟩
    · (repeat' (first | (refine And.intro (fun h => ?_) (fun h => ?_) <;> (try simp [-List.getD_eq_getElem?_getD, -Int.pred_toNat] at h) <;> (try (exfalso; first | omega | contradiction))) | (refine And.intro (rng64 (by omega) (by omega)) ?_) | (refine And.intro ⟨by omega, by omega⟩ ?_) | (refine And.intro ⟨by omega, by omega, by omega⟩ ?_) | (intro _)))
      refine And.intro (by show ([34] ++ qL (l.take k)).length + 2 ≤ maxLen; omega) ?_
      rw [fin _ e]
      refine And.intro ⟨by omega, by omega⟩ ?_
      refine Exists.intro [] (Exists.intro (k + 1) (And.intro ⟨hk, hol2⟩ (And.intro ?_ ?_)))
      · (repeat' (first | exact trivial | exact Or.inl rfl | exact Or.inr (Or.inl ⟨rfl, _, rfl⟩) | exact Or.inr (Or.inr (Or.inr ⟨_, _, _, rfl, rfl⟩)) | refine And.intro ?_ ?_))
      · (exact Nat.sub_lt_sub_left (by omega) (by omega))
    · (repeat' (first | (refine And.intro (fun h => ?_) (fun h => ?_) <;> (try simp [-List.getD_eq_getElem?_getD, -Int.pred_toNat] at h) <;> (try (exfalso; first | omega | contradiction))) | (refine And.intro (rng64 (by omega) (by omega)) ?_) | (refine And.intro ⟨by omega, by omega⟩ ?_) | (refine And.intro ⟨by omega, by omega, by omega⟩ ?_) | (intro _)))
      refine And.intro (by show ([34] ++ qL (l.take k)).length + 2 ≤ maxLen; omega) ?_
      rw [fin _ e]
      refine And.intro ⟨by omega, by omega⟩ ?_
      refine Exists.intro [] (Exists.intro (k + 1) (And.intro ⟨hk, hol2⟩ (And.intro ?_ ?_)))
      · (repeat' (first | exact trivial | exact Or.inl rfl | exact Or.inr (Or.inl ⟨rfl, _, rfl⟩) | exact Or.inr (Or.inr (Or.inr ⟨_, _, _, rfl, rfl⟩)) | refine And.intro ?_ ?_))
      · (exact Nat.sub_lt_sub_left (by omega) (by omega))
    · (repeat' (first | (refine And.intro (fun h => ?_) (fun h => ?_) <;> (try simp [-List.getD_eq_getElem?_getD, -Int.pred_toNat] at h) <;> (try (exfalso; first | omega | contradiction))) | (refine And.intro (rng64 (by omega) (by omega)) ?_) | (refine And.intro ⟨by omega, by omega⟩ ?_) | (refine And.intro ⟨by omega, by omega, by omega⟩ ?_) | (intro _)))
      refine And.intro (by show ([34] ++ qL (l.take k)).length + 2 ≤ maxLen; omega) ?_
      rw [fin _ e]
      refine And.intro ⟨by omega, by omega⟩ ?_
      refine Exists.intro [] (Exists.intro (k + 1) (And.intro ⟨hk, hol2⟩ (And.intro ?_ ?_)))
      · (repeat' (first | exact trivial | exact Or.inl rfl | exact Or.inr (Or.inl ⟨rfl, _, rfl⟩) | exact Or.inr (Or.inr (Or.inr ⟨_, _, _, rfl, rfl⟩)) | refine And.intro ?_ ?_))
      · (exact Nat.sub_lt_sub_left (by omega) (by omega))
    · (repeat' (first | (refine And.intro (fun h => ?_) (fun h => ?_) <;> (try simp [-List.getD_eq_getElem?_getD, -Int.pred_toNat] at h) <;> (try (exfalso; first | omega | contradiction))) | (refine And.intro (rng64 (by omega) (by omega)) ?_) | (refine And.intro ⟨by omega, by omega⟩ ?_) | (refine And.intro ⟨by omega, by omega, by omega⟩ ?_) | (intro _)))
      refine And.intro (by show ([34] ++ qL (l.take k)).length + 2 ≤ maxLen; omega) ?_
      rw [fin _ e]
      refine And.intro ⟨by omega, by omega⟩ ?_
      refine Exists.intro [] (Exists.intro (k + 1) (And.intro ⟨hk, hol2⟩ (And.intro ?_ ?_)))
      · (repeat' (first | exact trivial | exact Or.inl rfl | exact Or.inr (Or.inl ⟨rfl, _, rfl⟩) | exact Or.inr (Or.inr (Or.inr ⟨_, _, _, rfl, rfl⟩)) | refine And.intro ?_ ?_))
      · (exact Nat.sub_lt_sub_left (by omega) (by omega))
    · (repeat' (first | (refine And.intro (fun h => ?_) (fun h => ?_) <;> (try simp [-List.getD_eq_getElem?_getD, -Int.pred_toNat] at h) <;> (try (exfalso; first | omega | contradiction))) | (refine And.intro (rng64 (by omega) (by omega)) ?_) | (refine And.intro ⟨by omega, by omega⟩ ?_) | (refine And.intro ⟨by omega, by omega, by omega⟩ ?_) | (intro _)))
      refine And.intro (by show ([34] ++ qL (l.take k)).length + 2 ≤ maxLen; omega) ?_
      rw [fin _ e]
      refine And.intro ⟨by omega, by omega⟩ ?_
      refine Exists.intro [] (Exists.intro (k + 1) (And.intro ⟨hk, hol2⟩ (And.intro ?_ ?_)))
      · (repeat' (first | exact trivial | exact Or.inl rfl | exact Or.inr (Or.inl ⟨rfl, _, rfl⟩) | exact Or.inr (Or.inr (Or.inr ⟨_, _, _, rfl, rfl⟩)) | refine And.intro ?_ ?_))
      · (exact Nat.sub_lt_sub_left (by omega) (by omega))
    · (repeat' (first | (refine And.intro (fun h => ?_) (fun h => ?_) <;> (try simp [-List.getD_eq_getElem?_getD, -Int.pred_toNat] at h) <;> (try (exfalso; first | omega | contradiction))) | (refine And.intro (rng64 (by omega) (by omega)) ?_) | (refine And.intro ⟨by omega, by omega⟩ ?_) | (refine And.intro ⟨by omega, by omega, by omega⟩ ?_) | (intro _)))
      refine And.intro ⟨by omega, by omega, by show l[k] + 1 ≤ 16; omega⟩ ?_
      rw [hex_cutI hs1.1 c.1]
      refine And.intro (by show 3 + 1 ≤ maxLen; omega) ?_
      refine And.intro (by show 4 + 1 ≤ maxLen; omega) ?_
      refine And.intro (by show ([34] ++ qL (l.take k)).length + 5 ≤ maxLen; omega) ?_
      rw [fin _ e]
      refine And.intro ⟨by omega, by omega⟩ ?_
      refine Exists.intro [] (Exists.intro (k + 1) (And.intro ⟨hk, hol2⟩ (And.intro ?_ ?_)))
      · (repeat' (first | exact trivial | exact Or.inl rfl | exact Or.inr (Or.inl ⟨rfl, _, rfl⟩) | exact Or.inr (Or.inr (Or.inr ⟨_, _, _, rfl, rfl⟩)) | refine And.intro ?_ ?_))
      · (exact Nat.sub_lt_sub_left (by omega) (by omega))
    · (repeat' (first | (refine And.intro (fun h => ?_) (fun h => ?_) <;> (try simp [-List.getD_eq_getElem?_getD, -Int.pred_toNat] at h) <;> (try (exfalso; first | omega | contradiction))) | (refine And.intro (rng64 (by omega) (by omega)) ?_) | (refine And.intro ⟨by omega, by omega⟩ ?_) | (refine And.intro ⟨by omega, by omega, by omega⟩ ?_) | (intro _)))
      refine And.intro ⟨by omega, by omega, by show l[k] - 15 ≤ 16; omega⟩ ?_
      rw [show l[k] - 15 = (l[k] - 16) + 1 by omega, hex_cutI (r := l[k] - 16) (by omega) (by omega)]
      refine And.intro (by show 4 + 1 ≤ maxLen; omega) ?_
      refine And.intro (by show 5 + 1 ≤ maxLen; omega) ?_
      refine And.intro (by show ([34] ++ qL (l.take k)).length + 6 ≤ maxLen; omega) ?_
      rw [fin _ e]
      refine And.intro ⟨by omega, by omega⟩ ?_
      refine Exists.intro [] (Exists.intro (k + 1) (And.intro ⟨hk, hol2⟩ (And.intro ?_ ?_)))
      · (repeat' (first | exact trivial | exact Or.inl rfl | exact Or.inr (Or.inl ⟨rfl, _, rfl⟩) | exact Or.inr (Or.inr (Or.inr ⟨_, _, _, rfl, rfl⟩)) | refine And.intro ?_ ?_))
      · (exact Nat.sub_lt_sub_left (by omega) (by omega))
    · (repeat' (first | (refine And.intro (fun h => ?_) (fun h => ?_) <;> (try simp [-List.getD_eq_getElem?_getD, -Int.pred_toNat] at h) <;> (try (exfalso; first | omega | contradiction))) | (refine And.intro (rng64 (by omega) (by omega)) ?_) | (refine And.intro ⟨by omega, by omega⟩ ?_) | (refine And.intro ⟨by omega, by omega, by omega⟩ ?_) | (intro _)))
      refine And.intro (by show ([34] ++ qL (l.take k)).length + 6 ≤ maxLen; omega) ?_
      rw [fin _ e]
      refine And.intro ⟨by omega, by omega⟩ ?_
      refine Exists.intro [] (Exists.intro (k + 1) (And.intro ⟨hk, hol2⟩ (And.intro ?_ ?_)))
      · (repeat' (first | exact trivial | exact Or.inl rfl | exact Or.inr (Or.inl ⟨rfl, _, rfl⟩) | exact Or.inr (Or.inr (Or.inr ⟨_, _, _, rfl, rfl⟩)) | refine And.intro ?_ ?_))
      · (exact Nat.sub_lt_sub_left (by omega) (by omega))
    · (repeat' (first | (refine And.intro (fun h => ?_) (fun h => ?_) <;> (try simp [-List.getD_eq_getElem?_getD, -Int.pred_toNat] at h) <;> (try (exfalso; first | omega | contradiction))) | (refine And.intro (rng64 (by omega) (by omega)) ?_) | (refine And.intro ⟨by omega, by omega⟩ ?_) | (refine And.intro ⟨by omega, by omega, by omega⟩ ?_) | (intro _)))
      have hw : IntKind.i64.wrap l[k] = l[k] := by rw [IntKind.wrap_i64]; have := hs1.2.1; omega
      have hC : PSpec Tryd.prog 60 [.i .i64 (IntKind.i64.wrap l[k])] (.s (encS l[k])) := by rw [hw]; exact s_CodeOf l[k] hs1
      refine Or.inl (Exists.intro _ (And.intro (hC) ?_))
      have h4 := encS_le l[k]
      refine And.intro (by omega) ?_
      rw [fin _ e]
      refine And.intro ⟨by omega, by omega⟩ ?_
      refine Exists.intro [] (Exists.intro (k + 1) (And.intro ⟨hk, hol2⟩ (And.intro ?_ ?_)))
      · (repeat' (first | exact trivial | exact Or.inl rfl | exact Or.inr (Or.inl ⟨rfl, _, rfl⟩) | exact Or.inr (Or.inr (Or.inr ⟨_, _, _, rfl, rfl⟩)) | refine And.intro ?_ ?_))
      · (exact Nat.sub_lt_sub_left (by omega) (by omega))
  · have hk : k = l.length := by have : ¬ (k : Int) < l.length := of_decide_eq_false h; omega
    subst hk
    rw [List.take_length] at hol ⊢
    refine And.intro (by rw [List.length_append]; show 1 + (qL l).length + 1 ≤ maxLen; unfold maxLen; omega) ?_
    rfl
theorem s_quotedR (s : Str) (hs : s.length ≤ 1048576) (hb : bad s < 0) : PSpec Tryd.prog 22 [.s s] (.s (qAll s)) :=
  pspec_of_vc Γ_good Tryd.func22 rfl Tryd.call22 Tryd.results22 Tryd.ntmps22 (Nat.le_of_ble_eq_true rfl) (w_quotedR s hs hb)
end
end Go.Proofs.YtmfchbkdakmjhaaDoor
end
section
namespace Go.Proofs.YtmfchbkdakmjhaaDoor
set_option linter.unusedSectionVars false
set_option linter.unusedSimpArgs false
set_option linter.unusedVariables false
open Go Go.SX Go.Ut Go.Nm Go.Es
set_option maxRecDepth 100000
set_option maxHeartbeats 1000000
section
variable [G : Globs]
theorem w_lower (c : UInt8) : vc Tryd.prog Γ 5 [0, 2] (Tryd.f176.body.getD .skip) (postK Γ [.tmp 2] (fun v => v = .i .u8 (lowC c))) ⟨argSlots 0 [.i .u8 (c.toNat : Int)], []⟩ := by
  rfl
theorem s_lower (c : UInt8) : PSpec Tryd.prog 176 [.i .u8 (c.toNat : Int)] (.i .u8 (lowC c)) :=
  pspec_of_vc Γ_good Tryd.func176 rfl Tryd.call176 Tryd.results176 Tryd.ntmps176 (Nat.le_of_ble_eq_true rfl) (w_lower c)
def hexR (s : Str) : AV := if hexA s then .tup [.i .u64 (hexN 0 s : Int), .er none] else .tup [.i .u64 0, .er (some (202, some 2))]
theorem w_parse0 (s : Str) (h0 : s ≠ []) (h6 : s.length ≤ 6) : vc Tryd.prog Γ 172 [0, 1, 2, 6, 7, 8, 9, 10, 11, 12, 13, 15, 16, 17, 19, 25, 32, 37, 40, 52, 64, 77, 83, 85, 90, 92, 99, 100, 101, 102, 106, 112, 121, 137, 141, 159, 169] (Tryd.f138.body.getD .skip) (postK Γ [.tmp 6, .tmp 7] (fun v => v = hexR s)) ⟨argSlots 0 [.s s, .i .i64 16, .i .i64 32], []⟩ := by
  (repeat' (first | (refine And.intro (fun h => ?_) (fun h => ?_) <;> (try simp [-List.getD_eq_getElem?_getD, -Int.pred_toNat] at h) <;> (try (exfalso; first | omega | contradiction))) | (refine And.intro (rng64 (by omega) (by omega)) ?_) | (refine And.intro ⟨by omega, by omega⟩ ?_) | (refine And.intro ⟨by omega, by omega, by omega⟩ ?_) | (intro _)))
  refine And.intro (by decide) ?_
  (repeat' (first | (refine And.intro (fun h => ?_) (fun h => ?_) <;> (try simp [-List.getD_eq_getElem?_getD, -Int.pred_toNat] at h) <;> (try (exfalso; first | omega | contradiction))) | (refine And.intro (rng64 (by omega) (by omega)) ?_) | (refine And.intro ⟨by omega, by omega⟩ ?_) | (refine And.intro ⟨by omega, by omega, by omega⟩ ?_) | (intro _)))
  have hjl := toJ_len s
  refine Exists.intro [] (Exists.intro [] (Exists.intro [] (Exists.intro Nat (Exists.intro (fun k => k ≤ s.length ∧ hexA (s.take k)) (Exists.intro (fun k => ⟨[(1, .i .i64 16), (8, .b false), (9, .s s), (10, .i .u64 1152921504606846976), (11, .i .u64 4294967295), (12, .b false), (13, .i .u64 (hexN 0 (s.take k) : Int)), (99, .rd .u8 (toJ s)), (100, .i .i64 (toJ s).length), (101, .i .i64 k)], []⟩) (Exists.intro (fun k => s.length - k) (Exists.intro 0 (And.intro ⟨Nat.zero_le _, fun c hc => nomatch hc⟩ (And.intro ?_ ?_)))))))))
  · (repeat' (first | exact trivial | exact Or.inl rfl | exact Or.inr (Or.inl ⟨rfl, _, rfl⟩) | exact Or.inr (Or.inr (Or.inr ⟨_, _, _, rfl, rfl⟩)) | refine And.intro ?_ ?_))
  rintro k ⟨hk0, hx⟩
  refine And.intro (fun h => ?_) (fun h => ?_)
  · have hk : k < s.length := by have : (k : Int) < (toJ s).length := of_decide_eq_true h; omega
    refine And.intro ⟨by omega, by omega⟩ ?_
    have hg : (toJ s).getD (Int.toNat k) 0 = (s[k].toNat : Int) := by
      rw [Int.toNat_natCast, List.getD_eq_getElem?_getD]
      unfold toJ
      rw [List.getElem?_map, List.getElem?_eq_getElem hk]
      rfl
    rw [hg]
    have htk : s.take (k + 1) = s.take k ++ [s[k]] := List.take_succ_eq_append_getElem hk
    have hl6 : hexN 0 (s.take k) < 16777216 := hexN_six hx (by rw [List.length_take]; omega)
    obtain ⟨l1, l2, l3, l4, l5⟩ := low_at s[k]
    have hlow := s_lower s[k]
    have hcl := s[k].toNat_lt
    have hno : ¬ dgt s[k] < 16 → hexR s = .tup [.i .u64 0, .er (some (202, some 2))] := fun h => by
      unfold hexR
      rw [if_neg (fun h9 => h (h9 s[k] (List.getElem_mem hk)))]
    have hyes : dgt s[k] < 16 → hexA (s.take (k + 1)) := fun h => by rw [htk]; exact hexA_append hx h
    have hnx : hexN 0 (s.take (k + 1)) = hexN 0 (s.take k) * 16 + dgt s[k] := by rw [htk, hexN_append]
    generalize s[k] = c at *
    generalize hexN 0 (s.take k) = n at *
    have key : (hexR s = hexR s) := rfl
    by_cases hd : 48 ≤ c.toNat ∧ c.toNat ≤ 57
    · obtain ⟨l5, l6⟩ := l5 hd
      refine And.intro (fun h => absurd (eq_of_beq h) (by omega)) (fun _ => ?_)
      refine And.intro (fun h => by cases h) (fun _ => ?_)
      refine And.intro (fun _ => ?_) (fun h => absurd (of_decide_eq_false h) (by omega))
      refine And.intro (fun _ => ?_) (fun h => absurd (of_decide_eq_false h) (by omega))
      have e : IntKind.u8.wrap ((c.toNat : Int) - 48) = (dgt c : Int) := by rw [IntKind.wrap_u8]; omega
      have hw16 : IntKind.u8.wrap 16 = 16 := rfl
      have hu16 : IntKind.u64.wrap 16 = 16 := rfl
      have hud : IntKind.u64.wrap (dgt c : Int) = (dgt c : Int) := by rw [IntKind.wrap_u64]; omega
      have hm : IntKind.u64.wrap ((n : Int) * IntKind.u64.wrap 16) = (n : Int) * 16 := by rw [hu16, IntKind.wrap_u64]; omega
      have hs : IntKind.u64.wrap ((n : Int) * 16 + IntKind.u64.wrap (dgt c : Int)) = (n : Int) * 16 + (dgt c : Int) := by rw [hud, IntKind.wrap_u64]; omega
      refine And.intro (fun h => absurd (of_decide_eq_true h) (by rw [hw16, e]; omega)) (fun _ => ?_)
      refine And.intro (fun h => absurd (of_decide_eq_true h) (by omega)) (fun _ => ?_)
      refine And.intro (fun _ => ?_) (fun h => absurd (of_decide_eq_true (by simpa using h)) (by rw [hm, e, hs]; omega))
      refine And.intro (fun h => absurd (of_decide_eq_true h) (by rw [hm, e, hs]; omega)) (fun _ => ?_)
      refine And.intro ⟨by omega, by omega⟩ ?_
      refine Exists.intro [] (Exists.intro (k + 1) (And.intro ⟨hk, hyes l6⟩ (And.intro ?_ ?_)))
      · (repeat' (first | exact trivial | exact Or.inl rfl | exact Or.inl ((congrArg (AV.i .u64) (by rw [hm, e, hs, hnx]; omega))) | refine And.intro ?_ ?_))
      · (exact Nat.sub_lt_sub_left (by omega) (by omega))
    · rcases (show c.toNat < 48 ∨ c.toNat = 95 ∨ (57 < c.toNat ∧ c.toNat ≠ 95) by omega) with h9 | h9 | h9
      all_goals
        (repeat' (first | (refine And.intro (fun h => ?_) (fun h => ?_) <;> (try simp [-List.getD_eq_getElem?_getD, -Int.pred_toNat] at h) <;> (try (exfalso; first | omega | contradiction))) | (refine And.intro (rng64 (by omega) (by omega)) ?_) | (refine And.intro ⟨by omega, by omega⟩ ?_) | (refine And.intro ⟨by omega, by omega, by omega⟩ ?_) | (intro _)))
        refine Or.inl (Exists.intro _ (And.intro (hlow) ?_))
        rcases (show lowC c < 97 ∨ 122 < lowC c ∨ (97 ≤ lowC c ∧ lowC c ≤ 102) ∨ (103 ≤ lowC c ∧ lowC c ≤ 122) by omega) with v | v | v | v
        · rw [hno (by have := l2 ⟨by omega, hd⟩; omega)]
          (repeat' (first | (refine And.intro (fun h => ?_) (fun h => ?_) <;> (try simp [-List.getD_eq_getElem?_getD, -Int.pred_toNat] at h) <;> (try (exfalso; first | omega | contradiction))) | (refine And.intro (rng64 (by omega) (by omega)) ?_) | (refine And.intro ⟨by omega, by omega⟩ ?_) | (refine And.intro ⟨by omega, by omega, by omega⟩ ?_) | (intro _)))
          rfl
        · rw [hno (by have := l2 ⟨by omega, hd⟩; omega)]
          (repeat' (first | (refine And.intro (fun h => ?_) (fun h => ?_) <;> (try simp [-List.getD_eq_getElem?_getD, -Int.pred_toNat] at h) <;> (try (exfalso; first | omega | contradiction))) | (refine And.intro (rng64 (by omega) (by omega)) ?_) | (refine And.intro ⟨by omega, by omega⟩ ?_) | (refine And.intro ⟨by omega, by omega, by omega⟩ ?_) | (intro _)))
          refine Or.inl (Exists.intro _ (And.intro (hlow) ?_))
          (repeat' (first | (refine And.intro (fun h => ?_) (fun h => ?_) <;> (try simp [-List.getD_eq_getElem?_getD, -Int.pred_toNat] at h) <;> (try (exfalso; first | omega | contradiction))) | (refine And.intro (rng64 (by omega) (by omega)) ?_) | (refine And.intro ⟨by omega, by omega⟩ ?_) | (refine And.intro ⟨by omega, by omega, by omega⟩ ?_) | (intro _)))
          rfl
        · obtain ⟨l7, l8⟩ := l3 ⟨by omega, by omega, hd⟩
          (repeat' (first | (refine And.intro (fun h => ?_) (fun h => ?_) <;> (try simp [-List.getD_eq_getElem?_getD, -Int.pred_toNat] at h) <;> (try (exfalso; first | omega | contradiction))) | (refine And.intro (rng64 (by omega) (by omega)) ?_) | (refine And.intro ⟨by omega, by omega⟩ ?_) | (refine And.intro ⟨by omega, by omega, by omega⟩ ?_) | (intro _)))
          refine Or.inl (Exists.intro _ (And.intro (hlow) ?_))
          refine And.intro (fun _ => ?_) (fun h => absurd (of_decide_eq_false h) (by omega))
          refine Or.inl (Exists.intro _ (And.intro (hlow) ?_))
          have e : IntKind.u8.wrap (IntKind.u8.wrap (lowC c - 97) + 10) = (dgt c : Int) := by rw [IntKind.wrap_u8, IntKind.wrap_u8]; omega
          have hw16 : IntKind.u8.wrap 16 = 16 := rfl
          have hu16 : IntKind.u64.wrap 16 = 16 := rfl
          have hud : IntKind.u64.wrap (dgt c : Int) = (dgt c : Int) := by rw [IntKind.wrap_u64]; omega
          have hm : IntKind.u64.wrap ((n : Int) * IntKind.u64.wrap 16) = (n : Int) * 16 := by rw [hu16, IntKind.wrap_u64]; omega
          have hs : IntKind.u64.wrap ((n : Int) * 16 + IntKind.u64.wrap (dgt c : Int)) = (n : Int) * 16 + (dgt c : Int) := by rw [hud, IntKind.wrap_u64]; omega
          refine And.intro (fun h => absurd (of_decide_eq_true h) (by rw [hw16, e]; omega)) (fun _ => ?_)
          refine And.intro (fun h => absurd (of_decide_eq_true h) (by omega)) (fun _ => ?_)
          refine And.intro (fun _ => ?_) (fun h => absurd (of_decide_eq_true (by simpa using h)) (by rw [hm, e, hs]; omega))
          refine And.intro (fun h => absurd (of_decide_eq_true h) (by rw [hm, e, hs]; omega)) (fun _ => ?_)
          refine And.intro ⟨by omega, by omega⟩ ?_
          refine Exists.intro [] (Exists.intro (k + 1) (And.intro ⟨hk, hyes l8⟩ (And.intro ?_ ?_)))
          · (repeat' (first | exact trivial | exact Or.inl rfl | exact Or.inl ((congrArg (AV.i .u64) (by rw [hm, e, hs, hnx]; omega))) | refine And.intro ?_ ?_))
          · (exact Nat.sub_lt_sub_left (by omega) (by omega))
        · have l7 := l4 ⟨by omega, by omega, hd⟩
          rw [hno (by omega)]
          (repeat' (first | (refine And.intro (fun h => ?_) (fun h => ?_) <;> (try simp [-List.getD_eq_getElem?_getD, -Int.pred_toNat] at h) <;> (try (exfalso; first | omega | contradiction))) | (refine And.intro (rng64 (by omega) (by omega)) ?_) | (refine And.intro ⟨by omega, by omega⟩ ?_) | (refine And.intro ⟨by omega, by omega, by omega⟩ ?_) | (intro _)))
          refine Or.inl (Exists.intro _ (And.intro (hlow) ?_))
          refine And.intro (fun _ => ?_) (fun h => absurd (of_decide_eq_false h) (by omega))
          refine Or.inl (Exists.intro _ (And.intro (hlow) ?_))
          have e : IntKind.u8.wrap (IntKind.u8.wrap (lowC c - 97) + 10) = lowC c - 97 + 10 := by rw [IntKind.wrap_u8, IntKind.wrap_u8]; omega
          have hw16 : IntKind.u8.wrap 16 = 16 := rfl
          refine And.intro (fun _ => ?_) (fun h => absurd (of_decide_eq_false h) (by rw [hw16, e]; omega))
          rfl
  · have hk : k = s.length := by have : ¬ (k : Int) < (toJ s).length := of_decide_eq_false h; omega
    subst hk
    rw [List.take_length] at hx ⊢
    have hR : hexR s = .tup [.i .u64 (hexN 0 s : Int), .er none] := by unfold hexR; rw [if_pos hx]
    rw [hR]
    (repeat' (first | (refine And.intro (fun h => ?_) (fun h => ?_) <;> (try simp [-List.getD_eq_getElem?_getD, -Int.pred_toNat] at h) <;> (try (exfalso; first | omega | contradiction))) | (refine And.intro (rng64 (by omega) (by omega)) ?_) | (refine And.intro ⟨by omega, by omega⟩ ?_) | (refine And.intro ⟨by omega, by omega, by omega⟩ ?_) | (intro _)))
    rfl
theorem s_parse0 (s : Str) (h0 : s ≠ []) (h6 : s.length ≤ 6) : PSpec Tryd.prog 138 [.s s, .i .i64 16, .i .i64 32] (hexR s) :=
  pspec_of_vc Γ_good Tryd.func138 rfl Tryd.call138 Tryd.results138 Tryd.ntmps138 (Nat.le_of_ble_eq_true rfl) (w_parse0 s h0 h6)
end
end Go.Proofs.YtmfchbkdakmjhaaDoor
end
section
namespace Go.Ut
set_option linter.unusedSectionVars false
set_option linter.unusedSimpArgs false
set_option linter.unusedVariables false
open Go Go.SX
end Go.Ut
end
section
namespace Go.Es
set_option linter.unusedSectionVars false
set_option linter.unusedSimpArgs false
set_option linter.unusedVariables false
open Go Go.SX Go.Ut Go.Nm
/-- where a brace closes, what the digits before it say -/
def uniP (ds : Str) : Int × Int × Int :=
  if 1 ≤ ds.findIdx (· == 125) ∧ ds.findIdx (· == 125) ≤ 6 ∧ ds.findIdx (· == 125) < ds.length ∧ hexA (ds.take (ds.findIdx (· == 125))) then
    (if scalar (hexN 0 (ds.take (ds.findIdx (· == 125))) : Int) then ((hexN 0 (ds.take (ds.findIdx (· == 125))) : Int), 3 + (ds.findIdx (· == 125) : Int), 0) else (0, 0, 3)) else (0, 0, 4)
/-- what stands behind a stroke: the scalar, how many bytes, the fault -/
def escP : Str → Int × Int × Int
  | [] => (0, 0, 4)
  | c :: r => if c.toNat = 34 ∨ c.toNat = 92 ∨ c.toNat = 47 then ((c.toNat : Int), 1, 0) else if c.toNat = 110 then (10, 1, 0) else if c.toNat = 116 then (9, 1, 0) else if c.toNat = 114 then (13, 1, 0) else
    if c.toNat = 117 ∧ r.head? = some 123 then uniP (r.drop 1) else (0, 0, 4)
def tup3 (x : Int × Int × Int) : AV := .tup [.i .i32 x.1, .i .i64 x.2.1, .i .i64 x.2.2]
theorem idx_find (l : Str) (c : UInt8) : Lib.indexByte l c = if l.findIdx (· == c) < l.length then (l.findIdx (· == c) : Int) else -1 := by
  induction l with
  | nil => rfl
  | cons b r ih =>
    rw [Lib.indexByte, List.findIdx_cons]
    cases hb : b == c with
    | true => rw [if_pos rfl]; simp
    | false =>
      rw [if_neg (by decide), ih]
      simp only [cond_false, List.length_cons, Nat.add_lt_add_iff_right]
      by_cases h : r.findIdx (· == c) < r.length
      · simp only [if_pos h]
        rw [if_neg (by simp)]
        omega
      · simp only [if_neg h]
        rfl
theorem pre_iff (c : UInt8) (r : Str) : isPre [117, 123] (c :: r) = true ↔ c.toNat = 117 ∧ r.head? = some 123 := by
  unfold isPre
  rw [decide_eq_true_eq]
  have h1 : c = 117 ↔ c.toNat = 117 := ⟨fun h => by rw [h]; rfl, fun h => UInt8.toNat_inj.1 h⟩
  cases r with
  | nil => simp
  | cons d t => simp [h1]
/-- a quoted text read from a place on, with so many steps at most: what was read before, the place -/
def unqF (s : Str) : Nat → Str → Nat → Str × Int × Int
  | 0, _, _ => ([], 0, 4)
  | f + 1, o, i => if i < s.length then
      (if (s.getD i 0).toNat = 34 then (o, (i : Int) + 1, 0) else if (s.getD i 0).toNat = 10 then ([], 0, 4) else if (s.getD i 0).toNat = 92 then
        (if (escP (s.drop (i + 1))).2.2 ≠ 0 then ([], 0, (escP (s.drop (i + 1))).2.2) else unqF s f (o ++ encS (escP (s.drop (i + 1))).1) (i + (1 + (escP (s.drop (i + 1))).2.1).toNat))
      else if (decAt s i).1 = 65533 ∧ (decAt s i).2 = 1 then ([], 0, 3) else unqF s f (o ++ encS ((decAt s i).1 : Int)) (i + (decAt s i).2))
    else ([], 0, 4)
theorem uniP_rng (ds : Str) : (0 ≤ (uniP ds).2.1 ∧ (uniP ds).2.1 ≤ 9) ∧ ((uniP ds).2.2 = 0 → scalar (uniP ds).1) := by
  unfold uniP
  split
  · rename_i h
    split
    · rename_i h2
      exact ⟨⟨by show (0 : Int) ≤ 3 + _; omega, by show (3 : Int) + _ ≤ 9; omega⟩, fun _ => h2⟩
    · exact ⟨⟨by decide, by decide⟩, fun h => absurd h (by decide)⟩
  · exact ⟨⟨by decide, by decide⟩, fun h => absurd h (by decide)⟩
theorem escP_rng (l : Str) : (0 ≤ (escP l).2.1 ∧ (escP l).2.1 ≤ 9) ∧ ((escP l).2.2 = 0 → scalar (escP l).1) := by
  cases l with
  | nil => exact ⟨⟨by decide, by decide⟩, fun h => absurd h (by decide)⟩
  | cons c r =>
    rw [escP]
    split
    · rename_i h
      refine ⟨⟨by show (0 : Int) ≤ 1; decide, by show (1 : Int) ≤ 9; decide⟩, fun _ => ?_⟩
      show scalar (c.toNat : Int)
      unfold scalar
      omega
    split
    · exact ⟨⟨by decide, by decide⟩, fun _ => by decide⟩
    split
    · exact ⟨⟨by decide, by decide⟩, fun _ => by decide⟩
    split
    · exact ⟨⟨by decide, by decide⟩, fun _ => by decide⟩
    split
    · exact uniP_rng _
    · exact ⟨⟨by decide, by decide⟩, fun h => absurd h (by decide)⟩
theorem unqF_fuel (s : Str) : ∀ (f g : Nat) (o : Str) (i : Nat), s.length ≤ f + i → s.length ≤ g + i → unqF s f o i = unqF s g o i
  | 0, 0, _, _, _, _ => rfl
  | 0, g + 1, o, i, h, _ => by rw [unqF, unqF, if_neg (by omega)]
  | f + 1, 0, o, i, _, h => by rw [unqF, unqF, if_neg (by omega)]
  | f + 1, g + 1, o, i, h, h2 => by
    rw [unqF, unqF]
    have hr := (escP_rng (s.drop (i + 1))).1
    have hp := dec_pos s i
    rw [unqF_fuel s f g (o ++ encS (escP (s.drop (i + 1))).1) (i + (1 + (escP (s.drop (i + 1))).2.1).toNat) (by omega) (by omega), unqF_fuel s f g (o ++ encS ((decAt s i).1 : Int)) (i + (decAt s i).2) (by omega) (by omega)]
def unqFrom (s : Str) (o : Str) (i : Nat) : Str × Int × Int := unqF s s.length o i
def unq (s : Str) : Str × Int × Int := if isPre [34] s then unqFrom s [] 1 else ([], 0, 4)
def tupU (x : Str × Int × Int) : AV := .tup [.s x.1, .i .i64 x.2.1, .i .i64 x.2.2]
theorem unq_end {s o : Str} {i : Nat} (h : s.length ≤ i) : unqFrom s o i = ([], 0, 4) := by
  unfold unqFrom
  rw [unqF_fuel s s.length 0 o i (by omega) (by omega), unqF]
theorem unq_step {s o : Str} {i : Nat} (h : i < s.length) : unqFrom s o i =
    (if (s.getD i 0).toNat = 34 then (o, (i : Int) + 1, 0) else if (s.getD i 0).toNat = 10 then ([], 0, 4) else if (s.getD i 0).toNat = 92 then
        (if (escP (s.drop (i + 1))).2.2 ≠ 0 then ([], 0, (escP (s.drop (i + 1))).2.2) else unqFrom s (o ++ encS (escP (s.drop (i + 1))).1) (i + (1 + (escP (s.drop (i + 1))).2.1).toNat))
      else if (decAt s i).1 = 65533 ∧ (decAt s i).2 = 1 then ([], 0, 3) else unqFrom s (o ++ encS ((decAt s i).1 : Int)) (i + (decAt s i).2)) := by
  unfold unqFrom
  rw [unqF_fuel s s.length (s.length + 1) o i (by omega) (by omega), unqF, if_pos h]
theorem pre34 (s : Str) : isPre [34] s = true ↔ s ≠ [] ∧ (s.getD 0 0).toNat = 34 := by
  unfold isPre
  rw [decide_eq_true_eq]
  cases s with
  | nil => simp
  | cons c r =>
    have h1 : c = 34 ↔ c.toNat = 34 := ⟨fun h => by rw [h]; rfl, fun h => UInt8.toNat_inj.1 h⟩
    simp [h1]
/-- where the first closing brace stands -/
theorem idx_is {ds : Str} {m : Nat} (hm : m < ds.length) (hc : (ds.getD m 0).toNat = 125) (hx : hexA (ds.take m)) : ds.findIdx (· == 125) = m := by
  rw [List.getD_eq_getElem?_getD, List.getElem?_eq_getElem hm] at hc
  have hc : ds[m] = 125 := UInt8.toNat_inj.1 hc
  refine (List.findIdx_eq hm).2 ⟨by rw [hc]; rfl, fun j hj => ?_⟩
  have h1 : ds[j] ∈ ds.take m := by
    rw [List.mem_take_iff_getElem]
    exact ⟨j, by omega, rfl⟩
  have h2 := hx _ h1
  have h3 : ds[j] ≠ 125 := fun e => by rw [e] at h2; revert h2; decide
  simpa using h3
/-- where the scan ends -/
theorem uni_exit {ds : Str} {m : Nat} (h7 : m ≤ 7) (hl : m ≤ ds.length) (hx : hexA (ds.take m)) (hend : m = 7 ∨ ds.length ≤ m ∨ ¬ dgt (ds.getD m 0) < 16) :
    (1 ≤ m ∧ m ≤ 6 ∧ m < ds.length ∧ (ds.getD m 0).toNat = 125 → uniP ds = if scalar (hexN 0 (ds.take m) : Int) then ((hexN 0 (ds.take m) : Int), 3 + (m : Int), 0) else (0, 0, 3)) ∧
    (¬ (1 ≤ m ∧ m ≤ 6 ∧ m < ds.length ∧ (ds.getD m 0).toNat = 125) → uniP ds = (0, 0, 4)) := by
  refine ⟨fun ⟨h1, h2, h3, h4⟩ => ?_, fun hno => ?_⟩
  · have he := idx_is h3 h4 hx
    unfold uniP
    rw [he, if_pos ⟨h1, h2, h3, hx⟩]
  · unfold uniP
    rw [if_neg]
    generalize he : ds.findIdx (· == 125) = e
    rintro ⟨h1, h2, h3, h4⟩
    have hce : ds[e] = 125 := by
      have := List.findIdx_getElem (xs := ds) (p := (· == 125)) (w := by rw [he]; exact h3)
      simp only [he, beq_iff_eq] at this
      exact this
    have hD : ∀ k (hk : k < ds.length), ds.getD k 0 = ds[k] := fun k hk => by rw [List.getD_eq_getElem?_getD, List.getElem?_eq_getElem hk]; rfl
    have hle : m ≤ e := by
      refine Nat.le_of_not_lt fun hlt => ?_
      have h5 : ds[e] ∈ ds.take m := by rw [List.mem_take_iff_getElem]; exact ⟨e, by omega, rfl⟩
      have h6 := hx _ h5
      rw [hce] at h6
      revert h6
      decide
    have hge : e ≤ m := by
      refine Nat.le_of_not_lt fun hlt => ?_
      rcases hend with h | h | h
      · omega
      · omega
      · rw [hD m (by omega)] at h
        exact h (h4 _ (by rw [List.mem_take_iff_getElem]; exact ⟨m, by omega, rfl⟩))
    obtain rfl := Nat.le_antisymm hle hge
    exact hno ⟨h1, h2, h3, by rw [hD m h3, hce]; rfl⟩
end Go.Es
end
section
namespace Go.Proofs.YtmfchbkdakmjhaaDoor
set_option linter.unusedSectionVars false
set_option linter.unusedSimpArgs false
set_option linter.unusedVariables false
open Go Go.SX Go.Ut Go.Nm Go.Es
set_option maxRecDepth 100000
set_option maxHeartbeats 1000000
/-- a package-level variable holds an error -/
def HasErr [G : Globs] : Prop := ∃ (T : TypeId) (p : Value) (e : TypeId) (fz : Nat × Nat), (4, Obj.cells #[.iface T p] e fz) ∈ G.gl
section
variable [G : Globs]
theorem s_IndexByte (s : Str) (n : Int) : PSpec Tryd.prog 99 [.s s, .i .u8 n] (.i .i64 (Lib.indexByte s n.toNat.toUInt8)) := by
  refine ⟨Tryd.call99, fun O w vs hO _ hargs => ?_⟩
  obtain ⟨v0, vs0, rfl, h0, h⟩ := hargs.cons_inv
  obtain ⟨v1, vs1, rfl, h1, h⟩ := h.cons_inv
  obtain rfl := h.nil_inv
  cases h0
  cases h1
  refine (Tryd.strings_IndexByte ⟨s.toArray⟩ n w).mono fun e w' ⟨he, hw⟩ => ?_
  subst he hw
  exact ⟨_, rfl, Stp.refl _ _, .i _ _⟩
theorem s_toErr (he : HasErr) (fn s : Str) (b k : Int) (hl : s.length ≤ 1000000) : PSpec Tryd.prog 139 [.s fn, .s s, .i .i64 b, .i .i64 k, .er (some (202, some 2))] (.er (some (204, none))) := by
  refine ⟨Tryd.call139, fun O w vs hO hG hargs => ?_⟩
  obtain ⟨v0, vs0, rfl, h0, h⟩ := hargs.cons_inv
  obtain ⟨v1, vs1, rfl, h1, h⟩ := h.cons_inv
  obtain ⟨v2, vs2, rfl, h2, h⟩ := h.cons_inv
  obtain ⟨v3, vs3, rfl, h3, h⟩ := h.cons_inv
  obtain ⟨v4, vs4, rfl, h4, h⟩ := h.cons_inv
  obtain rfl := h.nil_inv
  cases h0
  cases h1
  cases h2
  cases h3
  cases h4
  obtain ⟨T, p, e, fz, hm⟩ := he
  have hcell : w.cell? ⟨4, 0, none⟩ = some (.iface T p) := by simp [World.cell?, (hG _ hm).2]
  refine (Tryd.strconv_toError_syntax ⟨fn.toArray⟩ ⟨s.toArray⟩ b k (.iface T p) w (by show s.length ≤ _; omega) hcell (.inr ⟨_, _, rfl⟩)).mono fun e w' ⟨N, he, _, _, hb⟩ => ?_
  subst he
  exact ⟨_, rfl, ⟨hb.os, hb.tape, hb.output, hb.size, fun k hk _ => hb.block k hk⟩, .er2 _ _⟩
theorem w_parseU (he : HasErr) (s : Str) (h0 : s ≠ []) (h6 : s.length ≤ 6) : vc Tryd.prog Γ 26 [0, 1, 2, 6, 7, 8, 9, 18] (Tryd.f100.body.getD .skip) (postK Γ [.tmp 6, .tmp 7] (fun v => v = if hexA s then .tup [.i .u64 (hexN 0 s : Int), .er none] else .tup [.i .u64 0, .er (some (204, none))])) ⟨argSlots 0 [.s s, .i .i64 16, .i .i64 32], []⟩ := by
  have hP := s_parse0 s h0 h6
  unfold hexR at hP
  by_cases hx : hexA s
  · rw [if_pos hx] at hP ⊢
    refine Or.inl (Exists.intro _ (And.intro (hP) ?_))
    (repeat' (first | (refine And.intro (fun h => ?_) (fun h => ?_) <;> (try simp [-List.getD_eq_getElem?_getD, -Int.pred_toNat] at h) <;> (try (exfalso; first | omega | contradiction))) | (refine And.intro (rng64 (by omega) (by omega)) ?_) | (refine And.intro ⟨by omega, by omega⟩ ?_) | (refine And.intro ⟨by omega, by omega, by omega⟩ ?_) | (intro _)))
    rfl
  · rw [if_neg hx] at hP ⊢
    refine Or.inl (Exists.intro _ (And.intro (hP) ?_))
    (repeat' (first | (refine And.intro (fun h => ?_) (fun h => ?_) <;> (try simp [-List.getD_eq_getElem?_getD, -Int.pred_toNat] at h) <;> (try (exfalso; first | omega | contradiction))) | (refine And.intro (rng64 (by omega) (by omega)) ?_) | (refine And.intro ⟨by omega, by omega⟩ ?_) | (refine And.intro ⟨by omega, by omega, by omega⟩ ?_) | (intro _)))
    refine Or.inl (Exists.intro _ (And.intro (s_toErr he [80, 97, 114, 115, 101, 85, 105, 110, 116] s 16 32 (by omega)) ?_))
    rfl
theorem s_parseU (he : HasErr) (s : Str) (h0 : s ≠ []) (h6 : s.length ≤ 6) : PSpec Tryd.prog 100 [.s s, .i .i64 16, .i .i64 32] (if hexA s then .tup [.i .u64 (hexN 0 s : Int), .er none] else .tup [.i .u64 0, .er (some (204, none))]) :=
  pspec_of_vc Γ_good Tryd.func100 rfl Tryd.call100 Tryd.results100 Tryd.ntmps100 (Nat.le_of_ble_eq_true rfl) (w_parseU he s h0 h6)
theorem w_escapeP (he : HasErr) (s : Str) (hs : s.length ≤ 1048576) : vc Tryd.prog Γ 61 [0, 2, 3, 4, 5, 6, 7, 8, 9, 11, 13, 14, 21, 23, 25, 43, 52, 56] (Tryd.f62.body.getD .skip) (postK Γ [.tmp 2, .tmp 3, .tmp 4] (fun v => v = tup3 (escP s))) ⟨argSlots 0 [.s s], []⟩ := by
  cases s with
  | nil => (repeat' (first | (refine And.intro (fun h => ?_) (fun h => ?_) <;> (try simp [-List.getD_eq_getElem?_getD, -Int.pred_toNat] at h) <;> (try (exfalso; first | omega | contradiction))) | (refine And.intro (rng64 (by omega) (by omega)) ?_) | (refine And.intro ⟨by omega, by omega⟩ ?_) | (refine And.intro ⟨by omega, by omega, by omega⟩ ?_) | (intro _))); rfl
  | cons c r =>
  have hcl := c.toNat_lt
  rw [escP]
  have hw : IntKind.i32.wrap (c.toNat : Int) = (c.toNat : Int) := by rw [IntKind.wrap_i32]; omega
  have hne : ((c :: r) == []) = false := rfl
  refine And.intro (fun h => absurd (hne.symm.trans h) (by decide)) (fun _ => ?_)
  have h0l : (0 : Int) < ((c :: r).length : Int) := by show (0 : Int) < ((r.length + 1 : Nat) : Int); omega
  refine And.intro ⟨Int.le_refl 0, h0l⟩ ?_
  rw [show (c :: r).getD (Int.toNat 0) 0 = c from rfl]
  by_cases c1 : c.toNat = 34 ∨ c.toNat = 92 ∨ c.toNat = 47
  · rw [if_pos c1]
    rcases c1 with c1 | c1 | c1
    all_goals
      (repeat' (first | (refine And.intro (fun h => ?_) (fun h => ?_) <;> (try simp [-List.getD_eq_getElem?_getD, -Int.pred_toNat] at h) <;> (try (exfalso; first | omega | contradiction))) | (refine And.intro (rng64 (by omega) (by omega)) ?_) | (refine And.intro ⟨by omega, by omega⟩ ?_) | (refine And.intro ⟨by omega, by omega, by omega⟩ ?_) | (intro _)))
      exact congrArg (fun x : Int => AV.tup [.i .i32 x, .i .i64 1, .i .i64 0]) hw
  rw [if_neg c1]
  by_cases c2 : c.toNat = 110
  · rw [if_pos c2]; (repeat' (first | (refine And.intro (fun h => ?_) (fun h => ?_) <;> (try simp [-List.getD_eq_getElem?_getD, -Int.pred_toNat] at h) <;> (try (exfalso; first | omega | contradiction))) | (refine And.intro (rng64 (by omega) (by omega)) ?_) | (refine And.intro ⟨by omega, by omega⟩ ?_) | (refine And.intro ⟨by omega, by omega, by omega⟩ ?_) | (intro _))); rfl
  rw [if_neg c2]
  by_cases c3 : c.toNat = 116
  · rw [if_pos c3]; (repeat' (first | (refine And.intro (fun h => ?_) (fun h => ?_) <;> (try simp [-List.getD_eq_getElem?_getD, -Int.pred_toNat] at h) <;> (try (exfalso; first | omega | contradiction))) | (refine And.intro (rng64 (by omega) (by omega)) ?_) | (refine And.intro ⟨by omega, by omega⟩ ?_) | (refine And.intro ⟨by omega, by omega, by omega⟩ ?_) | (intro _))); rfl
  rw [if_neg c3]
  by_cases c4 : c.toNat = 114
  · rw [if_pos c4]; (repeat' (first | (refine And.intro (fun h => ?_) (fun h => ?_) <;> (try simp [-List.getD_eq_getElem?_getD, -Int.pred_toNat] at h) <;> (try (exfalso; first | omega | contradiction))) | (refine And.intro (rng64 (by omega) (by omega)) ?_) | (refine And.intro ⟨by omega, by omega⟩ ?_) | (refine And.intro ⟨by omega, by omega, by omega⟩ ?_) | (intro _))); rfl
  rw [if_neg c4]
  have hC := s_cutPre (c :: r) [117, 123]
  (repeat' (first | (refine And.intro (fun h => ?_) (fun h => ?_) <;> (try simp [-List.getD_eq_getElem?_getD, -Int.pred_toNat] at h) <;> (try (exfalso; first | omega | contradiction))) | (refine And.intro (rng64 (by omega) (by omega)) ?_) | (refine And.intro ⟨by omega, by omega⟩ ?_) | (refine And.intro ⟨by omega, by omega, by omega⟩ ?_) | (intro _)))
  refine Or.inl (Exists.intro _ (And.intro (hC) ?_))
  have hI := s_IndexByte (cutP [117, 123] (c :: r)) 125
  rw [show (125 : Int).toNat.toUInt8 = (125 : UInt8) from rfl, idx_find] at hI
  by_cases hp : c.toNat = 117 ∧ r.head? = some 123
  rotate_left
  · rw [if_neg hp]
    have hf : isPre [117, 123] (c :: r) = false := by
      cases hh : isPre [117, 123] (c :: r) with
      | false => rfl
      | true => exact absurd ((pre_iff c r).1 hh) hp
    rw [hf]
    refine Or.inl (Exists.intro _ (And.intro (hI) ?_))
    (repeat' (first | (refine And.intro (fun h => ?_) (fun h => ?_) <;> (try simp [-List.getD_eq_getElem?_getD, -Int.pred_toNat] at h) <;> (try (exfalso; first | omega | contradiction))) | (refine And.intro (rng64 (by omega) (by omega)) ?_) | (refine And.intro ⟨by omega, by omega⟩ ?_) | (refine And.intro ⟨by omega, by omega, by omega⟩ ?_) | (intro _)))
    rfl
  rw [if_pos hp]
  have ht : isPre [117, 123] (c :: r) = true := (pre_iff c r).2 hp
  have hd : cutP [117, 123] (c :: r) = r.drop 1 := by unfold cutP; rw [if_pos ht]; rfl
  rw [ht, hd]
  rw [hd] at hI
  have hdl : (r.drop 1).length ≤ 1048576 := by rw [List.length_drop]; have : (c :: r).length = r.length + 1 := rfl; omega
  generalize r.drop 1 = ds at *
  unfold uniP
  generalize hE : ds.findIdx (· == 125) = e at *
  refine Or.inl (Exists.intro _ (And.intro (hI) ?_))
  by_cases he1 : 1 ≤ e ∧ e ≤ 6 ∧ e < ds.length
  rotate_left
  · by_cases hlt : e < ds.length
    · rw [if_pos hlt, if_neg (fun h => he1 ⟨h.1, h.2.1, h.2.2.1⟩)]
      rcases (show e < 1 ∨ 6 < e by omega) with h9 | h9
      all_goals
        (repeat' (first | (refine And.intro (fun h => ?_) (fun h => ?_) <;> (try simp [-List.getD_eq_getElem?_getD, -Int.pred_toNat] at h) <;> (try (exfalso; first | omega | contradiction))) | (refine And.intro (rng64 (by omega) (by omega)) ?_) | (refine And.intro ⟨by omega, by omega⟩ ?_) | (refine And.intro ⟨by omega, by omega, by omega⟩ ?_) | (intro _)))
        all_goals rfl
    · rw [if_neg hlt, if_neg (fun h => he1 ⟨h.1, h.2.1, h.2.2.1⟩)]
      (repeat' (first | (refine And.intro (fun h => ?_) (fun h => ?_) <;> (try simp [-List.getD_eq_getElem?_getD, -Int.pred_toNat] at h) <;> (try (exfalso; first | omega | contradiction))) | (refine And.intro (rng64 (by omega) (by omega)) ?_) | (refine And.intro ⟨by omega, by omega⟩ ?_) | (refine And.intro ⟨by omega, by omega, by omega⟩ ?_) | (intro _)))
      all_goals rfl
  rw [if_pos he1.2.2]
  (repeat' (first | (refine And.intro (fun h => ?_) (fun h => ?_) <;> (try simp [-List.getD_eq_getElem?_getD, -Int.pred_toNat] at h) <;> (try (exfalso; first | omega | contradiction))) | (refine And.intro (rng64 (by omega) (by omega)) ?_) | (refine And.intro ⟨by omega, by omega⟩ ?_) | (refine And.intro ⟨by omega, by omega, by omega⟩ ?_) | (intro _)))
  have hsl : List.drop (Int.toNat 0) (List.take (Int.toNat (e : Int)) ds) = ds.take e := by rw [Int.toNat_natCast]; rfl
  rw [hsl]
  have hle : (ds.take e).length = e := by rw [List.length_take]; omega
  have hU := s_parseU he (ds.take e) (fun h => by rw [h] at hle; have : ([] : Str).length = 0 := rfl; omega) (by omega)
  by_cases hx : hexA (ds.take e)
  rotate_left
  · rw [if_neg hx] at hU
    rw [if_neg (fun h => hx h.2.2.2)]
    refine Or.inl (Exists.intro _ (And.intro (hU) ?_))
    (repeat' (first | (refine And.intro (fun h => ?_) (fun h => ?_) <;> (try simp [-List.getD_eq_getElem?_getD, -Int.pred_toNat] at h) <;> (try (exfalso; first | omega | contradiction))) | (refine And.intro (rng64 (by omega) (by omega)) ?_) | (refine And.intro ⟨by omega, by omega⟩ ?_) | (refine And.intro ⟨by omega, by omega, by omega⟩ ?_) | (intro _)))
    rfl
  rw [if_pos hx] at hU
  rw [if_pos ⟨he1.1, he1.2.1, he1.2.2, hx⟩]
  have h24 := hexN_six hx (by omega)
  generalize hexN 0 (ds.take e) = n at *
  have hw32 : IntKind.i32.wrap (n : Int) = (n : Int) := by rw [IntKind.wrap_i32]; omega
  have hS : PSpec Tryd.prog 101 [.i .i32 (IntKind.i32.wrap (n : Int))] (.i .i64 (sizeR (n : Int))) := by rw [hw32]; exact s_Size (n : Int)
  have hz := size0 (n : Int)
  refine Or.inl (Exists.intro _ (And.intro (hU) ?_))
  (repeat' (first | (refine And.intro (fun h => ?_) (fun h => ?_) <;> (try simp [-List.getD_eq_getElem?_getD, -Int.pred_toNat] at h) <;> (try (exfalso; first | omega | contradiction))) | (refine And.intro (rng64 (by omega) (by omega)) ?_) | (refine And.intro ⟨by omega, by omega⟩ ?_) | (refine And.intro ⟨by omega, by omega, by omega⟩ ?_) | (intro _)))
  refine Or.inl (Exists.intro _ (And.intro (hS) ?_))
  by_cases hsc : scalar (n : Int)
  · rw [if_pos hsc]
    refine And.intro (fun h => absurd (hz.1 (eq_of_beq h)) (fun h => h hsc)) (fun _ => ?_)
    (repeat' (first | (refine And.intro (fun h => ?_) (fun h => ?_) <;> (try simp [-List.getD_eq_getElem?_getD, -Int.pred_toNat] at h) <;> (try (exfalso; first | omega | contradiction))) | (refine And.intro (rng64 (by omega) (by omega)) ?_) | (refine And.intro ⟨by omega, by omega⟩ ?_) | (refine And.intro ⟨by omega, by omega, by omega⟩ ?_) | (intro _)))
    exact congrArg (fun x : Int => AV.tup [.i .i32 x, .i .i64 (3 + (e : Int)), .i .i64 0]) hw32
  · rw [if_neg hsc]
    refine And.intro (fun _ => ?_) (fun h => absurd (hz.2 hsc) (ne_of_beq_false h))
    rfl
theorem s_escapeP (he : HasErr) (s : Str) (hs : s.length ≤ 1048576) : PSpec Tryd.prog 62 [.s s] (tup3 (escP s)) :=
  pspec_of_vc Γ_good Tryd.func62 rfl Tryd.call62 Tryd.results62 Tryd.ntmps62 (Nat.le_of_ble_eq_true rfl) (w_escapeP he s hs)
end
end Go.Proofs.YtmfchbkdakmjhaaDoor
end
section
namespace Go.Proofs.YtmfchbkdakmjhaaDoor
set_option linter.unusedSectionVars false
set_option linter.unusedSimpArgs false
set_option linter.unusedVariables false
open Go Go.SX Go.Ut Go.Nm Go.Es
set_option maxRecDepth 100000
set_option maxHeartbeats 1000000
section
variable [G : Globs]
theorem w_hasPre (s t : Str) : vc Tryd.prog Γ 8 [0, 1, 4] (Tryd.f61.body.getD .skip) (postK Γ [.tmp 4] (fun v => v = .b (isPre t s))) ⟨argSlots 0 [.s s, .s t], []⟩ := by
  refine Or.inl (Exists.intro _ (And.intro (s_hasPre0 s t) ?_))
  rfl
theorem s_hasPre (s t : Str) : PSpec Tryd.prog 61 [.s s, .s t] (.b (isPre t s)) :=
  pspec_of_vc Γ_good Tryd.func61 rfl Tryd.call61 Tryd.results61 Tryd.ntmps61 (Nat.le_of_ble_eq_true rfl) (w_hasPre s t)
theorem w_unqP (he : HasErr) (hu : HasU8) (s : Str) (hs : s.length ≤ 1048576) : vc Tryd.prog Γ 63 [0, 2, 3, 4, 5, 6, 7, 8, 9, 10, 11, 14, 18, 21, 30, 36, 41, 43, 55] (Tryd.f24.body.getD .skip) (postK Γ [.tmp 2, .tmp 3, .tmp 4] (fun v => v = tupU (unq s))) ⟨argSlots 0 [.s s], []⟩ := by
  refine Or.inl (Exists.intro _ (And.intro (s_hasPre s [34]) ?_))
  unfold unq
  cases hp : isPre [34] s with
  | false => (repeat' (first | (refine And.intro (fun h => ?_) (fun h => ?_) <;> (try simp [-List.getD_eq_getElem?_getD, -Int.pred_toNat] at h) <;> (try (exfalso; first | omega | contradiction))) | (refine And.intro (rng64 (by omega) (by omega)) ?_) | (refine And.intro ⟨by omega, by omega⟩ ?_) | (refine And.intro ⟨by omega, by omega, by omega⟩ ?_) | (intro _))); all_goals rfl
  | true =>
  rw [if_pos rfl]
  generalize hR : unqFrom s [] 1 = R
  refine And.intro (fun h => by cases h) (fun _ => ?_)
  refine Exists.intro 100 (And.intro rfl ?_)
  refine Exists.intro [] (Exists.intro [] (Exists.intro [] (Exists.intro (Str × Nat) (Exists.intro (fun x => 1 ≤ x.2 ∧ x.2 ≤ s.length + 10 ∧ unqFrom s x.1 x.2 = R ∧ x.1.length ≤ 4 * x.2) (Exists.intro (fun ⟨o, i⟩ => ⟨[(0, .s s), (5, .ob 5 100 (.sb 86 5 o)), (6, .i .i64 i)], []⟩) (Exists.intro (fun x => s.length - x.2) (Exists.intro ([], 1) (And.intro ⟨Nat.le_refl _, by omega, hR, Nat.zero_le _⟩ (And.intro ?_ ?_)))))))))
  · (repeat' (first | exact trivial | exact Or.inl rfl | exact Or.inr (Or.inl ⟨rfl, _, rfl⟩) | exact Or.inr (Or.inr (Or.inr ⟨_, _, _, rfl, rfl⟩)) | refine And.intro ?_ ?_))
  rintro ⟨o, i⟩ ⟨hi1, hi2, heq, hol⟩
  simp only at hi1 hi2 heq hol
  intro _
  refine And.intro (fun h => ?_) (fun h => ?_)
  · have hk : i < s.length := by have : (i : Int) < s.length := of_decide_eq_true h; omega
    rw [unq_step hk] at heq
    have hcl := (s.getD i 0).toNat_lt
    have hp := dec_pos s i
    have hle := dec_le hk
    have hd := dec_rune s i
    have hE := escP_rng (s.drop (i + 1))
    refine And.intro ⟨by omega, by omega⟩ ?_
    rw [show s.getD (Int.toNat (i : Int)) 0 = s.getD i 0 by rw [Int.toNat_natCast]]
    by_cases c1 : (s.getD i 0).toNat = 34
    · rw [if_pos c1] at heq
      (repeat' (first | (refine And.intro (fun h => ?_) (fun h => ?_) <;> (try simp [-List.getD_eq_getElem?_getD, -Int.pred_toNat] at h) <;> (try (exfalso; first | omega | contradiction))) | (refine And.intro (rng64 (by omega) (by omega)) ?_) | (refine And.intro ⟨by omega, by omega⟩ ?_) | (refine And.intro ⟨by omega, by omega, by omega⟩ ?_) | (intro _)))
      refine Exists.intro _ (Exists.intro _ (And.intro (sb_String o) ?_))
      refine And.intro ⟨by omega, by omega⟩ ?_
      rw [← heq]
      rfl
    rw [if_neg c1] at heq
    by_cases c2 : (s.getD i 0).toNat = 10
    · rw [if_pos c2] at heq
      rw [← heq]
      (repeat' (first | (refine And.intro (fun h => ?_) (fun h => ?_) <;> (try simp [-List.getD_eq_getElem?_getD, -Int.pred_toNat] at h) <;> (try (exfalso; first | omega | contradiction))) | (refine And.intro (rng64 (by omega) (by omega)) ?_) | (refine And.intro ⟨by omega, by omega⟩ ?_) | (refine And.intro ⟨by omega, by omega, by omega⟩ ?_) | (intro _)))
      rfl
    rw [if_neg c2] at heq
    by_cases c3 : (s.getD i 0).toNat = 92
    · rw [if_pos c3] at heq
      (repeat' (first | (refine And.intro (fun h => ?_) (fun h => ?_) <;> (try simp [-List.getD_eq_getElem?_getD, -Int.pred_toNat] at h) <;> (try (exfalso; first | omega | contradiction))) | (refine And.intro (rng64 (by omega) (by omega)) ?_) | (refine And.intro ⟨by omega, by omega⟩ ?_) | (refine And.intro ⟨by omega, by omega, by omega⟩ ?_) | (intro _)))
      rw [show List.drop ((i : Int) + 1).toNat (List.take (s.length : Int).toNat s) = s.drop (i + 1) by rw [Int.toNat_natCast, List.take_length, show ((i : Int) + 1).toNat = i + 1 by omega]]
      have hP := s_escapeP he (s.drop (i + 1)) (by rw [List.length_drop]; omega)
      unfold tup3 at hP
      generalize escP (s.drop (i + 1)) = x at *
      refine Or.inl (Exists.intro _ (And.intro (hP) ?_))
      obtain ⟨⟨hE1, hE2⟩, hE3⟩ := hE
      by_cases hz : x.2.2 = 0
      · rw [if_neg (fun h => h hz)] at heq
        have hsc := hE3 hz
        have hsr : 0 ≤ x.1 ∧ x.1 ≤ 1114111 := ⟨hsc.1, hsc.2.1⟩
        have h4 := encS_le x.1
        refine And.intro (fun h => absurd hz (by simpa using h)) (fun _ => ?_)
        refine Exists.intro _ (Exists.intro _ (And.intro (sb_WriteRune o (r := x.1) (by omega) (by omega) (by omega)) ?_))
        rw [encode_scalar hsc]
        refine And.intro ⟨by omega, by omega⟩ ?_
        refine And.intro ⟨by omega, by omega⟩ ?_
        refine Exists.intro [] (Exists.intro (o ++ encS x.1, i + (1 + x.2.1).toNat) (And.intro ⟨by show 1 ≤ i + _; omega, by show i + _ ≤ _; omega, heq, by show (o ++ encS x.1).length ≤ 4 * (i + _); rw [List.length_append]; omega⟩ (And.intro ?_ ?_)))
        · (repeat' (first | exact trivial | exact Or.inl rfl | exact Or.inl ((congrArg (AV.i .i64) (by show (i : Int) + (1 + x.2.1) = ((i + (1 + x.2.1).toNat : Nat) : Int); omega))) | refine And.intro ?_ ?_))
        · show s.length - (i + (1 + x.2.1).toNat) < s.length - i
          omega
      · rw [if_pos hz] at heq
        refine And.intro (fun _ => ?_) (fun h => absurd (by simpa using h) hz)
        rw [← heq]
        rfl
    rw [if_neg c3] at heq
    (repeat' (first | (refine And.intro (fun h => ?_) (fun h => ?_) <;> (try simp [-List.getD_eq_getElem?_getD, -Int.pred_toNat] at h) <;> (try (exfalso; first | omega | contradiction))) | (refine And.intro (rng64 (by omega) (by omega)) ?_) | (refine And.intro ⟨by omega, by omega⟩ ?_) | (refine And.intro ⟨by omega, by omega, by omega⟩ ?_) | (intro _)))
    rw [show List.drop (i : Int).toNat (List.take (s.length : Int).toNat s) = s.drop i by rw [Int.toNat_natCast, Int.toNat_natCast, List.take_length]]
    have qc := s_Next hu (s.drop i)
    unfold codeR at qc
    rw [code_at hk] at qc
    by_cases hb : (decAt s i).1 = 65533 ∧ (decAt s i).2 = 1
    · rw [if_pos hb] at qc heq
      refine Or.inl (Exists.intro _ (And.intro (qc) ?_))
      rw [← heq]
      (focus (refine And.intro ?_ (fun h9 => ?_); rotate_left 1; (focus (exfalso; revert h9; first | decide | (simp <;> omega) | (intro h9; simp at h9 <;> omega))); refine fun _ => ?_))
      rfl
    · rw [if_neg hb] at qc heq
      have hsc := dec_scalar s i
      have h4 := encS_le ((decAt s i).1 : Int)
      refine Or.inl (Exists.intro _ (And.intro (qc) ?_))
      refine And.intro (fun h9 => absurd (of_decide_eq_true h9) (by simp only; omega)) (fun _ => ?_)
      refine Exists.intro _ (Exists.intro _ (And.intro (sb_WriteRune o (r := ((decAt s i).1 : Int)) (by omega) (by omega) (by omega)) ?_))
      rw [encode_scalar hsc]
      refine And.intro ⟨by simp only; omega, by simp only; omega⟩ ?_
      refine Exists.intro [] (Exists.intro (o ++ encS ((decAt s i).1 : Int), i + (decAt s i).2) (And.intro ⟨by show 1 ≤ i + _; omega, by show i + _ ≤ _; omega, heq, by show (o ++ encS ((decAt s i).1 : Int)).length ≤ 4 * (i + _); rw [List.length_append]; omega⟩ (And.intro ?_ ?_)))
      · (repeat' (first | exact trivial | exact Or.inl rfl | exact Or.inr (Or.inl ⟨rfl, _, rfl⟩) | exact Or.inr (Or.inr (Or.inr ⟨_, _, _, rfl, rfl⟩)) | refine And.intro ?_ ?_))
      · show s.length - (i + (decAt s i).2) < s.length - i
        omega
  · have hk : s.length ≤ i := by have : ¬ (i : Int) < s.length := of_decide_eq_false h; omega
    rw [unq_end hk] at heq
    rw [← heq]
    rfl
theorem s_unqP (he : HasErr) (hu : HasU8) (s : Str) (hs : s.length ≤ 1048576) : PSpec Tryd.prog 24 [.s s] (tupU (unq s)) :=
  pspec_of_vc Γ_good Tryd.func24 rfl Tryd.call24 Tryd.results24 Tryd.ntmps24 (Nat.le_of_ble_eq_true rfl) (w_unqP he hu s hs)
end
end Go.Proofs.YtmfchbkdakmjhaaDoor
end
section
namespace Go.Proofs.YtmfchbkdakmjhaaDoor
set_option linter.unusedSectionVars false
set_option linter.unusedSimpArgs false
set_option linter.unusedVariables false
open Go Go.SX Go.Ut Go.Nm Go.Es
set_option maxRecDepth 100000
set_option maxHeartbeats 1000000
section
variable [G : Globs]
theorem w_keyP (ht : HasNum) (hu : HasU8) (s : Str) (hs : s.length ≤ 1048576) : vc Tryd.prog Γ 11 [0, 2, 3, 5] (Tryd.f20.body.getD .skip) (postK Γ [.tmp 2, .tmp 3] (fun v => v = if bare s then .tup [.s s, .i .i64 0] else if 0 ≤ bad s then .tup [.s [], .i .i64 3] else .tup [.s (qAll s), .i .i64 0])) ⟨argSlots 0 [.s s], []⟩ := by
  refine Or.inl (Exists.intro _ (And.intro (s_bareP s) ?_))
  have hQ := s_quoteP ht hu s hs
  cases hb : bare s with
  | true => (repeat' (first | (refine And.intro (fun h => ?_) (fun h => ?_) <;> (try simp [-List.getD_eq_getElem?_getD, -Int.pred_toNat] at h) <;> (try (exfalso; first | omega | contradiction))) | (refine And.intro (rng64 (by omega) (by omega)) ?_) | (refine And.intro ⟨by omega, by omega⟩ ?_) | (refine And.intro ⟨by omega, by omega, by omega⟩ ?_) | (intro _))); all_goals rfl
  | false =>
  rw [if_neg (by decide)]
  by_cases h : 0 ≤ bad s
  · rw [if_pos h] at hQ ⊢
    refine And.intro (fun h => by cases h) (fun _ => ?_)
    refine Or.inl (Exists.intro _ (And.intro (hQ) ?_))
    rfl
  · rw [if_neg h] at hQ ⊢
    refine And.intro (fun h => by cases h) (fun _ => ?_)
    refine Or.inl (Exists.intro _ (And.intro (hQ) ?_))
    rfl
theorem s_keyP (ht : HasNum) (hu : HasU8) (s : Str) (hs : s.length ≤ 1048576) : PSpec Tryd.prog 20 [.s s] (if bare s then .tup [.s s, .i .i64 0] else if 0 ≤ bad s then .tup [.s [], .i .i64 3] else .tup [.s (qAll s), .i .i64 0]) :=
  pspec_of_vc Γ_good Tryd.func20 rfl Tryd.call20 Tryd.results20 Tryd.ntmps20 (Nat.le_of_ble_eq_true rfl) (w_keyP ht hu s hs)
theorem w_keyR (s : Str) (hs : s.length ≤ 1048576) (hb : bad s < 0) : vc Tryd.prog Γ 8 [0, 2, 4] (Tryd.f23.body.getD .skip) (postK Γ [.tmp 2] (fun v => v = .s (if bare s then s else qAll s))) ⟨argSlots 0 [.s s], []⟩ := by
  refine Or.inl (Exists.intro _ (And.intro (s_bareR s) ?_))
  cases hb1 : bare s with
  | true => (repeat' (first | (refine And.intro (fun h => ?_) (fun h => ?_) <;> (try simp [-List.getD_eq_getElem?_getD, -Int.pred_toNat] at h) <;> (try (exfalso; first | omega | contradiction))) | (refine And.intro (rng64 (by omega) (by omega)) ?_) | (refine And.intro ⟨by omega, by omega⟩ ?_) | (refine And.intro ⟨by omega, by omega, by omega⟩ ?_) | (intro _))); all_goals rfl
  | false =>
  rw [if_neg (by decide)]
  refine And.intro (fun h => by cases h) (fun _ => ?_)
  refine Or.inl (Exists.intro _ (And.intro (s_quotedR s hs hb) ?_))
  rfl
theorem s_keyR (s : Str) (hs : s.length ≤ 1048576) (hb : bad s < 0) : PSpec Tryd.prog 23 [.s s] (.s (if bare s then s else qAll s)) :=
  pspec_of_vc Γ_good Tryd.func23 rfl Tryd.call23 Tryd.results23 Tryd.ntmps23 (Nat.le_of_ble_eq_true rfl) (w_keyR s hs hb)
end
end Go.Proofs.YtmfchbkdakmjhaaDoor
end
section
namespace Go.Proofs.YtmfchbkdakmjhaaDoor
set_option linter.unusedSectionVars false
set_option linter.unusedSimpArgs false
set_option linter.unusedVariables false
open Go Go.SX Go.Ut Go.Nm Go.Es
set_option maxRecDepth 100000
set_option maxHeartbeats 8000000
section
variable [G : Globs]
theorem w_unqR (s : Str) (hs : s.length ≤ 1048576) : vc Tryd.prog Γ 168 [0, 2, 3, 4, 5, 6, 7, 8, 9, 10, 17, 27, 31, 38, 47, 64, 67, 68, 81, 87, 93, 99, 112, 129, 158, 163] (Tryd.f25.body.getD .skip) (postK Γ [.tmp 2, .tmp 3, .tmp 4] (fun v => v = tupU (unq s))) ⟨argSlots 0 [.s s], []⟩ := by
  unfold unq
  by_cases h0 : s = []
  · subst h0
    (repeat' (first | (refine And.intro (fun h => ?_) (fun h => ?_) <;> (try simp [-List.getD_eq_getElem?_getD, -Int.pred_toNat] at h) <;> (try (exfalso; first | omega | contradiction))) | (refine And.intro (rng64 (by omega) (by omega)) ?_) | (refine And.intro ⟨by omega, by omega⟩ ?_) | (refine And.intro ⟨by omega, by omega, by omega⟩ ?_) | (intro _)))
    rfl
  have h1 : 1 ≤ s.length := by cases s with | nil => exact absurd rfl h0 | cons _ _ => exact Nat.succ_le_succ (Nat.zero_le _)
  by_cases hp : (s.getD 0 0).toNat = 34
  rotate_left
  · rw [if_neg (fun h => hp ((pre34 s).1 h).2)]
    (repeat' (first | (refine And.intro (fun h => ?_) (fun h => ?_) <;> (try simp [-List.getD_eq_getElem?_getD, -Int.pred_toNat] at h) <;> (try (exfalso; first | omega | contradiction))) | (refine And.intro (rng64 (by omega) (by omega)) ?_) | (refine And.intro ⟨by omega, by omega⟩ ?_) | (refine And.intro ⟨by omega, by omega, by omega⟩ ?_) | (intro _)))
    all_goals rfl
  rw [if_pos ((pre34 s).2 ⟨h0, hp⟩)]
  generalize hR : unqFrom s [] 1 = R
  (repeat' (first | (refine And.intro (fun h => ?_) (fun h => ?_) <;> (try simp [-List.getD_eq_getElem?_getD, -Int.pred_toNat] at h) <;> (try (exfalso; first | omega | contradiction))) | (refine And.intro (rng64 (by omega) (by omega)) ?_) | (refine And.intro ⟨by omega, by omega⟩ ?_) | (refine And.intro ⟨by omega, by omega, by omega⟩ ?_) | (intro _)))
  refine Exists.intro [] (Exists.intro [] (Exists.intro [] (Exists.intro (Str × Nat) (Exists.intro (fun x => 1 ≤ x.2 ∧ x.2 ≤ s.length + 10 ∧ unqFrom s x.1 x.2 = R ∧ x.1.length ≤ 4 * x.2) (Exists.intro (fun ⟨o, i⟩ => ⟨[(0, .s s), (5, .s o), (6, .i .i64 i)], []⟩) (Exists.intro (fun x => s.length - x.2) (Exists.intro ([], 1) (And.intro ⟨Nat.le_refl _, by omega, hR, Nat.zero_le _⟩ (And.intro ?_ ?_)))))))))
  · (repeat' (first | exact trivial | exact Or.inl rfl | exact Or.inr (Or.inl ⟨rfl, _, rfl⟩) | exact Or.inr (Or.inr (Or.inr ⟨_, _, _, rfl, rfl⟩)) | refine And.intro ?_ ?_))
  rintro ⟨o, i⟩ ⟨hi1, hi2, heq, hol⟩
  simp only at hi1 hi2 heq hol
  by_cases hk : i < s.length
  rotate_left
  · rw [unq_end (by omega)] at heq
    rw [← heq]
    (repeat' (first | (refine And.intro (fun h => ?_) (fun h => ?_) <;> (try simp [-List.getD_eq_getElem?_getD, -Int.pred_toNat] at h) <;> (try (exfalso; first | omega | contradiction))) | (refine And.intro (rng64 (by omega) (by omega)) ?_) | (refine And.intro ⟨by omega, by omega⟩ ?_) | (refine And.intro ⟨by omega, by omega, by omega⟩ ?_) | (intro _)))
    all_goals rfl
  rw [unq_step hk] at heq
  have hcl := (s.getD i 0).toNat_lt
  have hpp := dec_pos s i
  have hle := dec_le hk
  have hd := dec_rune s i
  by_cases c1 : (s.getD i 0).toNat = 34
  · rw [if_pos c1] at heq
    rw [← heq]
    (repeat' (first | (refine And.intro (fun h => ?_) (fun h => ?_) <;> (try simp [-List.getD_eq_getElem?_getD, -Int.pred_toNat] at h) <;> (try (exfalso; first | omega | contradiction))) | (refine And.intro (rng64 (by omega) (by omega)) ?_) | (refine And.intro ⟨by omega, by omega⟩ ?_) | (refine And.intro ⟨by omega, by omega, by omega⟩ ?_) | (intro _)))
    all_goals rfl
  rw [if_neg c1] at heq
  by_cases c2 : (s.getD i 0).toNat = 10
  · rw [if_pos c2] at heq
    rw [← heq]
    (repeat' (first | (refine And.intro (fun h => ?_) (fun h => ?_) <;> (try simp [-List.getD_eq_getElem?_getD, -Int.pred_toNat] at h) <;> (try (exfalso; first | omega | contradiction))) | (refine And.intro (rng64 (by omega) (by omega)) ?_) | (refine And.intro ⟨by omega, by omega⟩ ?_) | (refine And.intro ⟨by omega, by omega, by omega⟩ ?_) | (intro _)))
    all_goals rfl
  rw [if_neg c2] at heq
  by_cases c3 : (s.getD i 0).toNat = 92
  rotate_left
  · rw [if_neg c3] at heq
    (repeat' (first | (refine And.intro (fun h => ?_) (fun h => ?_) <;> (try simp [-List.getD_eq_getElem?_getD, -Int.pred_toNat] at h) <;> (try (exfalso; first | omega | contradiction))) | (refine And.intro (rng64 (by omega) (by omega)) ?_) | (refine And.intro ⟨by omega, by omega⟩ ?_) | (refine And.intro ⟨by omega, by omega, by omega⟩ ?_) | (intro _)))
    rw [show List.drop (i : Int).toNat (List.take (s.length : Int).toNat s) = s.drop i by rw [Int.toNat_natCast, Int.toNat_natCast, List.take_length]]
    have qc := s_Code (s.drop i)
    unfold codeR at qc
    rw [code_at hk] at qc
    by_cases hb : (decAt s i).1 = 65533 ∧ (decAt s i).2 = 1
    · rw [if_pos hb] at qc heq
      refine Or.inl (Exists.intro _ (And.intro (qc) ?_))
      rw [← heq]
      (focus (refine And.intro ?_ (fun h9 => ?_); rotate_left 1; (focus (exfalso; revert h9; first | decide | (simp <;> omega) | (intro h9; simp at h9 <;> omega))); refine fun _ => ?_))
      rfl
    · rw [if_neg hb] at qc heq
      obtain ⟨hsc, hsz, hta⟩ := good_at hk hb
      have h4 := encS_le ((decAt s i).1 : Int)
      have hmm : 100000000 ≤ maxLen := by decide
      refine Or.inl (Exists.intro _ (And.intro (qc) ?_))
      refine And.intro (fun h9 => absurd (of_decide_eq_true h9) (by first | omega | (simp only; omega))) (fun _ => ?_)
      refine And.intro ⟨by first | omega | (simp only; omega), by first | omega | (simp only; omega)⟩ ?_
      refine And.intro ⟨by first | omega | (simp only; omega), by first | omega | (simp only; omega), by first | omega | (simp only; omega)⟩ ?_
      have hcut : List.drop (i : Int).toNat (List.take ((i : Int) + ((decAt s i).2 : Int)).toNat s) = encS ((decAt s i).1 : Int) := by
        rw [← hta, Int.toNat_natCast, show ((i : Int) + ((decAt s i).2 : Int)).toNat = i + (decAt s i).2 by omega, List.drop_take, Nat.add_sub_cancel_left]
      simp only
      rw [hcut]
      refine And.intro (by omega) ?_
      refine And.intro ⟨by first | omega | (simp only; omega), by first | omega | (simp only; omega)⟩ ?_
      refine Exists.intro [] (Exists.intro (o ++ encS ((decAt s i).1 : Int), i + (decAt s i).2) (And.intro ⟨by show 1 ≤ i + _; omega, by show i + _ ≤ _; omega, heq, by show (o ++ encS ((decAt s i).1 : Int)).length ≤ 4 * (i + _); rw [List.length_append]; omega⟩ (And.intro ?_ ?_)))
      · (repeat' (first | exact trivial | exact Or.inl rfl | exact Or.inr (Or.inl ⟨rfl, _, rfl⟩) | exact Or.inr (Or.inr (Or.inr ⟨_, _, _, rfl, rfl⟩)) | refine And.intro ?_ ?_))
      · show s.length - (i + (decAt s i).2) < s.length - i
        omega
  rw [if_pos c3] at heq
  by_cases hk1 : i + 1 < s.length
  rotate_left
  · rw [List.drop_eq_nil_of_le (by omega)] at heq
    rw [← show (([] : Str), (0 : Int), (4 : Int)) = R from heq]
    (repeat' (first | (refine And.intro (fun h => ?_) (fun h => ?_) <;> (try simp [-List.getD_eq_getElem?_getD, -Int.pred_toNat] at h) <;> (try (exfalso; first | omega | contradiction))) | (refine And.intro (rng64 (by omega) (by omega)) ?_) | (refine And.intro ⟨by omega, by omega⟩ ?_) | (refine And.intro ⟨by omega, by omega, by omega⟩ ?_) | (intro _)))
    all_goals rfl
  have hdr : s.drop (i + 1) = s.getD (i + 1) 0 :: s.drop (i + 2) := by
    rw [List.drop_eq_getElem_cons hk1, List.getD_eq_getElem?_getD, List.getElem?_eq_getElem hk1]
    rfl
  have hgi : s.getD ((i : Int) + 1).toNat 0 = s.getD (i + 1) 0 := by rw [show ((i : Int) + 1).toNat = i + 1 by omega]
  have hmm : 100000000 ≤ maxLen := by decide
  have hc1 := (s.getD (i + 1) 0).toNat_lt
  rw [hdr, escP] at heq
  have hnx : ∀ (b : UInt8), unqFrom s (o ++ [b]) (i + (1 + (1 : Int)).toNat) = R → unqFrom s (o ++ [b]) (i + 2) = R := fun b h => h
  have stp : ∀ (v : Int) (b : UInt8), encS v = [b] → (if ((v, (1 : Int), (0 : Int)) : Int × Int × Int).2.2 ≠ 0 then (([] : Str), (0 : Int), (v, (1 : Int), (0 : Int)).2.2) else unqFrom s (o ++ encS (v, (1 : Int), (0 : Int)).1) (i + (1 + (v, (1 : Int), (0 : Int)).2.1).toNat)) = R → unqFrom s (o ++ [b]) (i + 2) = R := fun v b hb h => by
    rw [if_neg (fun h => h rfl)] at h
    rw [← hb]
    exact h
  by_cases d1 : (s.getD (i + 1) 0).toNat = 34 ∨ (s.getD (i + 1) 0).toNat = 92 ∨ (s.getD (i + 1) 0).toNat = 47
  · rw [if_pos d1] at heq
    have heq := stp _ (s.getD (i + 1) 0) (by
      unfold encS
      rw [if_pos (by omega)]
      exact congrArg (fun x : UInt8 => [x]) (eb_eq rfl)) heq
    have hcut : List.drop ((i : Int) + 1).toNat (List.take ((i : Int) + 1 + 1).toNat s) = [s.getD (i + 1) 0] := by
      rw [show ((i : Int) + 1).toNat = i + 1 by omega, show ((i : Int) + 1 + 1).toNat = i + 1 + 1 by omega, List.drop_take, show i + 1 + 1 - (i + 1) = 1 by omega, hdr]
      rfl
    rcases d1 with d1 | d1 | d1
    all_goals
      (repeat' (first | (refine And.intro (fun h => ?_) (fun h => ?_) <;> (try simp [-List.getD_eq_getElem?_getD, -Int.pred_toNat] at h) <;> (try (exfalso; first | omega | contradiction))) | (refine And.intro (rng64 (by omega) (by omega)) ?_) | (refine And.intro ⟨by omega, by omega⟩ ?_) | (refine And.intro ⟨by omega, by omega, by omega⟩ ?_) | (intro _)))
      rw [hcut]
      refine And.intro (by show o.length + 1 ≤ maxLen; omega) ?_
      refine And.intro ⟨by omega, by omega⟩ ?_
      refine Exists.intro [] (Exists.intro (o ++ [s.getD (i + 1) 0], i + 2) (And.intro ⟨by show 1 ≤ i + 2; omega, by show i + 2 ≤ _; omega, heq, by show (o ++ [_]).length ≤ 4 * (i + 2); rw [List.length_append]; show o.length + 1 ≤ _; omega⟩ (And.intro ?_ ?_)))
      · (repeat' (first | exact trivial | exact Or.inl rfl | exact Or.inl ((congrArg (AV.i .i64) (by show (i : Int) + 1 + 1 = ((i + 2 : Nat) : Int); omega))) | refine And.intro ?_ ?_))
      · show s.length - (i + 2) < s.length - i
        omega
  rw [if_neg d1] at heq
  by_cases d2 : (s.getD (i + 1) 0).toNat = 110
  · rw [if_pos d2] at heq
    have heq := stp 10 10 rfl heq
    (repeat' (first | (refine And.intro (fun h => ?_) (fun h => ?_) <;> (try simp [-List.getD_eq_getElem?_getD, -Int.pred_toNat] at h) <;> (try (exfalso; first | omega | contradiction))) | (refine And.intro (rng64 (by omega) (by omega)) ?_) | (refine And.intro ⟨by omega, by omega⟩ ?_) | (refine And.intro ⟨by omega, by omega, by omega⟩ ?_) | (intro _)))
    refine And.intro (by show o.length + 1 ≤ maxLen; omega) ?_
    refine And.intro ⟨by omega, by omega⟩ ?_
    refine Exists.intro [] (Exists.intro (o ++ [10], i + 2) (And.intro ⟨by show 1 ≤ i + 2; omega, by show i + 2 ≤ _; omega, heq, by show (o ++ [_]).length ≤ 4 * (i + 2); rw [List.length_append]; show o.length + 1 ≤ _; omega⟩ (And.intro ?_ ?_)))
    · (repeat' (first | exact trivial | exact Or.inl rfl | exact Or.inl ((congrArg (AV.i .i64) (by show (i : Int) + 1 + 1 = ((i + 2 : Nat) : Int); omega))) | refine And.intro ?_ ?_))
    · show s.length - (i + 2) < s.length - i
      omega
  rw [if_neg d2] at heq
  by_cases d3 : (s.getD (i + 1) 0).toNat = 116
  · rw [if_pos d3] at heq
    have heq := stp 9 9 rfl heq
    (repeat' (first | (refine And.intro (fun h => ?_) (fun h => ?_) <;> (try simp [-List.getD_eq_getElem?_getD, -Int.pred_toNat] at h) <;> (try (exfalso; first | omega | contradiction))) | (refine And.intro (rng64 (by omega) (by omega)) ?_) | (refine And.intro ⟨by omega, by omega⟩ ?_) | (refine And.intro ⟨by omega, by omega, by omega⟩ ?_) | (intro _)))
    refine And.intro (by show o.length + 1 ≤ maxLen; omega) ?_
    refine And.intro ⟨by omega, by omega⟩ ?_
    refine Exists.intro [] (Exists.intro (o ++ [9], i + 2) (And.intro ⟨by show 1 ≤ i + 2; omega, by show i + 2 ≤ _; omega, heq, by show (o ++ [_]).length ≤ 4 * (i + 2); rw [List.length_append]; show o.length + 1 ≤ _; omega⟩ (And.intro ?_ ?_)))
    · (repeat' (first | exact trivial | exact Or.inl rfl | exact Or.inl ((congrArg (AV.i .i64) (by show (i : Int) + 1 + 1 = ((i + 2 : Nat) : Int); omega))) | refine And.intro ?_ ?_))
    · show s.length - (i + 2) < s.length - i
      omega
  rw [if_neg d3] at heq
  by_cases d4 : (s.getD (i + 1) 0).toNat = 114
  · rw [if_pos d4] at heq
    have heq := stp 13 13 rfl heq
    (repeat' (first | (refine And.intro (fun h => ?_) (fun h => ?_) <;> (try simp [-List.getD_eq_getElem?_getD, -Int.pred_toNat] at h) <;> (try (exfalso; first | omega | contradiction))) | (refine And.intro (rng64 (by omega) (by omega)) ?_) | (refine And.intro ⟨by omega, by omega⟩ ?_) | (refine And.intro ⟨by omega, by omega, by omega⟩ ?_) | (intro _)))
    refine And.intro (by show o.length + 1 ≤ maxLen; omega) ?_
    refine And.intro ⟨by omega, by omega⟩ ?_
    refine Exists.intro [] (Exists.intro (o ++ [13], i + 2) (And.intro ⟨by show 1 ≤ i + 2; omega, by show i + 2 ≤ _; omega, heq, by show (o ++ [_]).length ≤ 4 * (i + 2); rw [List.length_append]; show o.length + 1 ≤ _; omega⟩ (And.intro ?_ ?_)))
    · (repeat' (first | exact trivial | exact Or.inl rfl | exact Or.inl ((congrArg (AV.i .i64) (by show (i : Int) + 1 + 1 = ((i + 2 : Nat) : Int); omega))) | refine And.intro ?_ ?_))
    · show s.length - (i + 2) < s.length - i
      omega
  rw [if_neg d4] at heq
  by_cases d5 : (s.getD (i + 1) 0).toNat = 117 ∧ (s.drop (i + 2)).head? = some 123
  rotate_left
  · rw [if_neg d5, if_pos (by decide)] at heq
    rw [← show (([] : Str), (0 : Int), (4 : Int)) = R from heq]
    by_cases d6 : (s.getD (i + 1) 0).toNat = 117
    · have d7 : s.length ≤ i + 2 ∨ (s.getD (i + 2) 0).toNat ≠ 123 := by
        by_cases h7 : s.length ≤ i + 2
        · exact .inl h7
        · refine .inr fun h8 => d5 ⟨d6, ?_⟩
          rw [List.head?_drop, List.getElem?_eq_getElem (by omega)]
          refine congrArg some (UInt8.toNat_inj.1 ?_)
          rw [List.getD_eq_getElem?_getD, List.getElem?_eq_getElem (by omega)] at h8
          exact h8
      by_cases h7 : s.length ≤ i + 2
      · (repeat' (first | (refine And.intro (fun h => ?_) (fun h => ?_) <;> (try simp [-List.getD_eq_getElem?_getD, -Int.pred_toNat] at h) <;> (try (exfalso; first | omega | contradiction))) | (refine And.intro (rng64 (by omega) (by omega)) ?_) | (refine And.intro ⟨by omega, by omega⟩ ?_) | (refine And.intro ⟨by omega, by omega, by omega⟩ ?_) | (intro _)))
        all_goals rfl
      · have d7 : ¬ (s.getD (i + 2) 0).toNat = 123 := d7.resolve_left h7
        have d7b : ¬ (s.getD (i + 1 + 1) 0).toNat = 123 := d7
        have d7c : ¬ (s.getD ((i : Int) + 1 + 1).toNat 0).toNat = 123 := by rw [show ((i : Int) + 1 + 1).toNat = i + 2 by omega]; exact d7
        have d7d : ¬ (s.getD ((i : Int) + 2).toNat 0).toNat = 123 := by rw [show ((i : Int) + 2).toNat = i + 2 by omega]; exact d7
        (repeat' (first | (refine And.intro (fun h => ?_) (fun h => ?_) <;> (try simp [-List.getD_eq_getElem?_getD, -Int.pred_toNat] at h) <;> (try (exfalso; first | omega | contradiction))) | (refine And.intro (rng64 (by omega) (by omega)) ?_) | (refine And.intro ⟨by omega, by omega⟩ ?_) | (refine And.intro ⟨by omega, by omega, by omega⟩ ?_) | (intro _)))
        all_goals rfl
    · (repeat' (first | (refine And.intro (fun h => ?_) (fun h => ?_) <;> (try simp [-List.getD_eq_getElem?_getD, -Int.pred_toNat] at h) <;> (try (exfalso; first | omega | contradiction))) | (refine And.intro (rng64 (by omega) (by omega)) ?_) | (refine And.intro ⟨by omega, by omega⟩ ?_) | (refine And.intro ⟨by omega, by omega, by omega⟩ ?_) | (intro _)))
      all_goals rfl
  rw [if_pos d5] at heq
  obtain ⟨d5a, d5b⟩ := d5
  have hk2 : i + 2 < s.length := by
    refine Nat.lt_of_not_le fun h => ?_
    rw [List.drop_eq_nil_of_le h] at d5b
    cases d5b
  have hg2 : (s.getD (i + 2) 0).toNat = 123 := by
    rw [List.head?_drop, List.getElem?_eq_getElem hk2] at d5b
    rw [List.getD_eq_getElem?_getD, List.getElem?_eq_getElem hk2]
    exact congrArg UInt8.toNat (Option.some.inj d5b)
  have hg2b : (s.getD (i + 1 + 1) 0).toNat = 123 := hg2
  have hg2c : (s.getD ((i : Int) + 1 + 1).toNat 0).toNat = 123 := by rw [show ((i : Int) + 1 + 1).toNat = i + 2 by omega]; exact hg2
  rw [List.drop_drop, show i + 2 + 1 = i + 3 from rfl] at heq
  generalize hds : s.drop (i + 3) = ds at heq
  have hdl : ds.length = s.length - (i + 3) := by rw [← hds, List.length_drop]
  have hdg : ∀ m, ds.getD m 0 = s.getD (i + 3 + m) 0 := fun m => by rw [← hds, List.getD_eq_getElem?_getD, List.getElem?_drop, List.getD_eq_getElem?_getD]
  (repeat' (first | (refine And.intro (fun h => ?_) (fun h => ?_) <;> (try simp [-List.getD_eq_getElem?_getD, -Int.pred_toNat] at h) <;> (try (exfalso; first | omega | contradiction))) | (refine And.intro (rng64 (by omega) (by omega)) ?_) | (refine And.intro ⟨by omega, by omega⟩ ?_) | (refine And.intro ⟨by omega, by omega, by omega⟩ ?_) | (intro _)))
  refine Exists.intro [] (Exists.intro [] (Exists.intro [] (Exists.intro Nat (Exists.intro (fun m => m ≤ 7 ∧ m ≤ ds.length ∧ hexA (ds.take m)) (Exists.intro (fun m => ⟨[(0, .s s), (5, .s o), (6, .i .i64 ((i + 3 + m : Nat) : Int)), (9, .i .i64 (hexN 0 (ds.take m) : Int)), (10, .i .i64 m)], []⟩) (Exists.intro (fun m => 7 - m) (Exists.intro 0 (And.intro ⟨by omega, by omega, fun c hc => by cases hc⟩ (And.intro ?_ ?_)))))))))
  · (repeat' (first | exact trivial | exact Or.inl rfl | exact Or.inl ((congrArg (AV.i .i64) (by show (i : Int) + 1 + 1 + 1 = ((i + 3 + 0 : Nat) : Int); omega))) | refine And.intro ?_ ?_))
  rintro m ⟨hm7, hml, hmx⟩

  have hex := fun hend => uni_exit hm7 hml hmx hend
  have hcD : s.getD (((i + 3 + m : Nat) : Int).toNat) 0 = ds.getD m 0 := by rw [Int.toNat_natCast, hdg]
  have hexS := s_hexOf (s.getD (((i + 3 + m : Nat) : Int).toNat) 0)
  have hgc : (s.getD (((i + 3 + m : Nat) : Int).toNat) 0).toNat = (ds.getD m 0).toNat := congrArg UInt8.toNat hcD
  have hgd : (dgt (s.getD (((i + 3 + m : Nat) : Int).toNat) 0)) = (dgt (ds.getD m 0)) := congrArg dgt hcD
  have hc2 : s.getD ((i : Int) + 3 + (m : Int)).toNat 0 = ds.getD m 0 := by rw [show ((i : Int) + 3 + (m : Int)).toNat = i + 3 + m by omega, hdg]
  have hgc2 : (s.getD ((i : Int) + 3 + (m : Int)).toNat 0).toNat = (ds.getD m 0).toNat := congrArg UInt8.toNat hc2
  have hgd2 : dgt (s.getD ((i : Int) + 3 + (m : Int)).toNat 0) = dgt (ds.getD m 0) := congrArg dgt hc2
  have hN : hexN 0 (ds.take m) < 268435456 := by
    have h1 := hexN_lt hmx 0
    have h2 : 16 ^ (ds.take m).length ≤ 16 ^ 7 := Nat.pow_le_pow_right (by decide) (by rw [List.length_take]; omega)
    have h3 : (16 : Nat) ^ 7 = 268435456 := by decide
    omega
  have hmm2 : 100000000 ≤ maxLen := by decide
  have fin4 : uniP ds = (0, 0, 4) → ([], 0, 4) = R := fun h => by
    rw [h] at heq
    exact heq
  by_cases hb : m < ds.length
  rotate_left
  · rw [← fin4 ((hex (.inr (.inl (by omega)))).2 (by omega))]
    (repeat' (first | (refine And.intro (fun h => ?_) (fun h => ?_) <;> (try simp [-List.getD_eq_getElem?_getD, -Int.pred_toNat] at h) <;> (try (exfalso; first | omega | contradiction))) | (refine And.intro (rng64 (by omega) (by omega)) ?_) | (refine And.intro ⟨by omega, by omega⟩ ?_) | (refine And.intro ⟨by omega, by omega, by omega⟩ ?_) | (intro _)))
    all_goals rfl
  by_cases d16 : dgt (ds.getD m 0) < 16
  · by_cases h7 : m < 7
    · have htk : ds.take (m + 1) = ds.take m ++ [ds.getD m 0] := by
        rw [List.take_add_one, List.getElem?_eq_getElem hb, List.getD_eq_getElem?_getD, List.getElem?_eq_getElem hb]
        rfl
      (repeat' (first | (refine And.intro (fun h => ?_) (fun h => ?_) <;> (try simp [-List.getD_eq_getElem?_getD, -Int.pred_toNat] at h) <;> (try (exfalso; first | omega | contradiction))) | (refine And.intro (rng64 (by omega) (by omega)) ?_) | (refine And.intro ⟨by omega, by omega⟩ ?_) | (refine And.intro ⟨by omega, by omega, by omega⟩ ?_) | (intro _)))
      refine Or.inl (Exists.intro _ (And.intro (hexS) ?_))
      (repeat' (first | (refine And.intro (fun h => ?_) (fun h => ?_) <;> (try simp [-List.getD_eq_getElem?_getD, -Int.pred_toNat] at h) <;> (try (exfalso; first | omega | contradiction))) | (refine And.intro (rng64 (by omega) (by omega)) ?_) | (refine And.intro ⟨by omega, by omega⟩ ?_) | (refine And.intro ⟨by omega, by omega, by omega⟩ ?_) | (intro _)))
      refine Or.inl (Exists.intro _ (And.intro (hexS) ?_))
      (repeat' (first | (refine And.intro (fun h => ?_) (fun h => ?_) <;> (try simp [-List.getD_eq_getElem?_getD, -Int.pred_toNat] at h) <;> (try (exfalso; first | omega | contradiction))) | (refine And.intro (rng64 (by omega) (by omega)) ?_) | (refine And.intro ⟨by omega, by omega⟩ ?_) | (refine And.intro ⟨by omega, by omega, by omega⟩ ?_) | (intro _)))
      refine Exists.intro [] (Exists.intro (m + 1) (And.intro ⟨by omega, by omega, by rw [htk]; exact hexA_append hmx d16⟩ (And.intro ?_ ?_)))
      · (repeat' (first | exact trivial | exact Or.inl rfl | exact Or.inl ((congrArg (AV.i .i64) (by show ((i + 3 + m : Nat) : Int) + 1 = ((i + 3 + (m + 1) : Nat) : Int); omega))) | exact Or.inl ((congrArg (AV.i .i64) (by show (hexN 0 (ds.take m) : Int) * 16 + (dgt (s.getD (((i + 3 + m : Nat) : Int).toNat) 0) : Int) = ((hexN 0 (ds.take (m + 1)) : Nat) : Int); rw [htk, hexN_append, hgd]; omega))) | exact Or.inl ((congrArg (AV.i .i64) (by show (m : Int) + 1 = ((m + 1 : Nat) : Int); omega))) | refine And.intro ?_ ?_))
      · show 7 - (m + 1) < 7 - m
        omega
    · rw [← fin4 ((hex (.inl (by omega))).2 (by omega))]
      (repeat' (first | (refine And.intro (fun h => ?_) (fun h => ?_) <;> (try simp [-List.getD_eq_getElem?_getD, -Int.pred_toNat] at h) <;> (try (exfalso; first | omega | contradiction))) | (refine And.intro (rng64 (by omega) (by omega)) ?_) | (refine And.intro ⟨by omega, by omega⟩ ?_) | (refine And.intro ⟨by omega, by omega, by omega⟩ ?_) | (intro _)))
      refine Or.inl (Exists.intro _ (And.intro (hexS) ?_))
      (repeat' (first | (refine And.intro (fun h => ?_) (fun h => ?_) <;> (try simp [-List.getD_eq_getElem?_getD, -Int.pred_toNat] at h) <;> (try (exfalso; first | omega | contradiction))) | (refine And.intro (rng64 (by omega) (by omega)) ?_) | (refine And.intro ⟨by omega, by omega⟩ ?_) | (refine And.intro ⟨by omega, by omega, by omega⟩ ?_) | (intro _)))
      all_goals rfl
  · obtain ⟨hyes, hno⟩ := hex (.inr (.inr d16))
    by_cases ht : 1 ≤ m ∧ m ≤ 6 ∧ m < ds.length ∧ (ds.getD m 0).toNat = 125
    rotate_left
    · rw [← fin4 (hno ht)]
      (repeat' (first | (refine And.intro (fun h => ?_) (fun h => ?_) <;> (try simp [-List.getD_eq_getElem?_getD, -Int.pred_toNat] at h) <;> (try (exfalso; first | omega | contradiction))) | (refine And.intro (rng64 (by omega) (by omega)) ?_) | (refine And.intro ⟨by omega, by omega⟩ ?_) | (refine And.intro ⟨by omega, by omega, by omega⟩ ?_) | (intro _)))
      refine Or.inl (Exists.intro _ (And.intro (hexS) ?_))
      (repeat' (first | (refine And.intro (fun h => ?_) (fun h => ?_) <;> (try simp [-List.getD_eq_getElem?_getD, -Int.pred_toNat] at h) <;> (try (exfalso; first | omega | contradiction))) | (refine And.intro (rng64 (by omega) (by omega)) ?_) | (refine And.intro ⟨by omega, by omega⟩ ?_) | (refine And.intro ⟨by omega, by omega, by omega⟩ ?_) | (intro _)))
      all_goals rfl
    · rw [hyes ht] at heq
      (repeat' (first | (refine And.intro (fun h => ?_) (fun h => ?_) <;> (try simp [-List.getD_eq_getElem?_getD, -Int.pred_toNat] at h) <;> (try (exfalso; first | omega | contradiction))) | (refine And.intro (rng64 (by omega) (by omega)) ?_) | (refine And.intro ⟨by omega, by omega⟩ ?_) | (refine And.intro ⟨by omega, by omega, by omega⟩ ?_) | (intro _)))
      refine Or.inl (Exists.intro _ (And.intro (hexS) ?_))
      (repeat' (first | (refine And.intro (fun h => ?_) (fun h => ?_) <;> (try simp [-List.getD_eq_getElem?_getD, -Int.pred_toNat] at h) <;> (try (exfalso; first | omega | contradiction))) | (refine And.intro (rng64 (by omega) (by omega)) ?_) | (refine And.intro ⟨by omega, by omega⟩ ?_) | (refine And.intro ⟨by omega, by omega, by omega⟩ ?_) | (intro _)))
      refine Or.inl (Exists.intro _ (And.intro (s_Scalar (hexN 0 (ds.take m) : Int)) ?_))
      by_cases hsc : scalar (hexN 0 (ds.take m) : Int)
      · rw [if_pos hsc, if_neg (fun h => h rfl)] at heq
        have h4 := encS_le (hexN 0 (ds.take m) : Int)
        have hpos : i + (1 + (3 + (m : Int))).toNat = i + 3 + m + 1 := by omega
        have heq : unqFrom s (o ++ encS (hexN 0 (ds.take m) : Int)) (i + (1 + (3 + (m : Int))).toNat) = R := heq
        rw [hpos] at heq
        (repeat' (first | (refine And.intro (fun h => ?_) (fun h => ?_) <;> (try simp [-List.getD_eq_getElem?_getD, -Int.pred_toNat] at h) <;> (try (exfalso; first | omega | contradiction))) | (refine And.intro (rng64 (by omega) (by omega)) ?_) | (refine And.intro ⟨by omega, by omega⟩ ?_) | (refine And.intro ⟨by omega, by omega, by omega⟩ ?_) | (intro _)))
        refine Or.inl (Exists.intro _ (And.intro (s_CodeOf (hexN 0 (ds.take m) : Int) hsc) ?_))
        refine And.intro (by show o.length + (encS (hexN 0 (ds.take m) : Int)).length ≤ maxLen; omega) ?_
        refine Exists.intro [] (Exists.intro (o ++ encS (hexN 0 (ds.take m) : Int), i + 3 + m + 1) (And.intro ⟨by show 1 ≤ i + 3 + m + 1; omega, by show i + 3 + m + 1 ≤ _; omega, heq, by show (o ++ _).length ≤ 4 * (i + 3 + m + 1); rw [List.length_append]; omega⟩ (And.intro ?_ ?_)))
        · (repeat' (first | exact trivial | exact Or.inl rfl | exact Or.inr (Or.inl ⟨rfl, _, rfl⟩) | exact Or.inr (Or.inr (Or.inr ⟨_, _, _, rfl, rfl⟩)) | refine And.intro ?_ ?_))
        · show s.length - (i + 3 + m + 1) < s.length - i
          omega
      · rw [if_neg hsc, if_pos (by decide)] at heq
        rw [← heq]
        (repeat' (first | (refine And.intro (fun h => ?_) (fun h => ?_) <;> (try simp [-List.getD_eq_getElem?_getD, -Int.pred_toNat] at h) <;> (try (exfalso; first | omega | contradiction))) | (refine And.intro (rng64 (by omega) (by omega)) ?_) | (refine And.intro ⟨by omega, by omega⟩ ?_) | (refine And.intro ⟨by omega, by omega, by omega⟩ ?_) | (intro _)))
        all_goals rfl
theorem s_unqR (s : Str) (hs : s.length ≤ 1048576) : PSpec Tryd.prog 25 [.s s] (tupU (unq s)) :=
  pspec_of_vc Γ_good Tryd.func25 rfl Tryd.call25 Tryd.results25 Tryd.ntmps25 (Nat.le_of_ble_eq_true rfl) (w_unqR s hs)
end
end Go.Proofs.YtmfchbkdakmjhaaDoor
end
section
namespace Go.Proofs.YtmfchbkdakmjhaaDoor
set_option linter.unusedSectionVars false
set_option linter.unusedSimpArgs false
set_option linter.unusedVariables false
open Go Go.SX Go.Ut Go.Nm Go.Es
set_option maxRecDepth 100000
set_option maxHeartbeats 2000000
theorem bad_low {s : Str} (h : ∀ i, i < s.length → (s.getD i 0).toNat < 128) (n : Nat) : ∀ i, s.length ≤ n + i → badFrom s i < 0 := by
  induction n with
  | zero => intro i hi; rw [bad_end (by omega)]; decide
  | succ n ih =>
    intro i hi
    by_cases hk : i < s.length
    · have h5 : decAt s i = ((s.getD i 0).toNat, 1) := by
        show Lib.decodeN _ _ _ _ _ = _
        unfold Lib.decodeN
        rw [if_pos (h i hk)]
      rw [bad_step hk, h5, if_neg (fun h9 => by have := h i hk; have h10 : (s.getD i 0).toNat = 65533 := h9.1; omega)]
      exact ih _ (by show s.length ≤ n + (i + 1); omega)
    · rw [bad_end (by omega)]; decide
theorem bare_good {s : Str} (h : bare s = true) : bad s < 0 := by
  unfold bare at h
  rw [Bool.and_eq_true, decide_eq_true_eq] at h
  refine bad_low (fun i hi => ?_) s.length 0 (by omega)
  have h1 := (keyC_iff i _).1 (h.1.2.2 i hi)
  unfold keyP at h1
  omega
theorem unqF_err (s : Str) : ∀ (f : Nat) (o : Str) (i : Nat), (unqF s f o i).2.2 ≠ 0 → (unqF s f o i).1 = [] ∧ (unqF s f o i).2.1 = 0
  | 0, _, _, _ => ⟨rfl, rfl⟩
  | f + 1, o, i, h => by
    rw [unqF] at h ⊢
    by_cases c0 : i < s.length
    rotate_left
    · rw [if_neg c0]; exact ⟨rfl, rfl⟩
    rw [if_pos c0] at h ⊢
    by_cases c1 : (s.getD i 0).toNat = 34
    · rw [if_pos c1] at h; exact absurd rfl h
    rw [if_neg c1] at h ⊢
    by_cases c2 : (s.getD i 0).toNat = 10
    · rw [if_pos c2]; exact ⟨rfl, rfl⟩
    rw [if_neg c2] at h ⊢
    by_cases c3 : (s.getD i 0).toNat = 92
    · rw [if_pos c3] at h ⊢
      by_cases c4 : (escP (s.drop (i + 1))).2.2 ≠ 0
      · rw [if_pos c4]; exact ⟨rfl, rfl⟩
      · rw [if_neg c4] at h ⊢
        exact unqF_err s f _ _ h
    rw [if_neg c3] at h ⊢
    by_cases c5 : (decAt s i).1 = 65533 ∧ (decAt s i).2 = 1
    · rw [if_pos c5]; exact ⟨rfl, rfl⟩
    · rw [if_neg c5] at h ⊢
      exact unqF_err s f _ _ h
theorem unq_err {s : Str} (h : (unq s).2.2 ≠ 0) : (unq s).1 = [] ∧ (unq s).2.1 = 0 := by
  unfold unq at h ⊢
  split
  · rename_i c
    rw [if_pos c] at h
    exact unqF_err _ _ _ _ h
  · exact ⟨rfl, rfl⟩
section
variable [G : Globs]
theorem w_law (ht : HasNum) (he : HasErr) (hu : HasU8) (s q : Str) (hs : s.length ≤ 1048576) (hq : q.length ≤ 1048576) : vc Tryd.prog Γ 89 [0, 1, 4, 5, 6, 7, 8, 9, 10, 11, 12, 13, 14, 15, 16, 17, 30, 48] (Tryd.f6.body.getD .skip) (postK Γ [.tmp 4] (fun v => v = .b true)) ⟨argSlots 0 [.s s, .s q], []⟩ := by
  have h1 := s_quoteP ht hu s hs
  have h2 := s_keyP ht hu s hs
  have h3 := s_unqP he hu q hq
  have h4 := s_unqR q hq
  have he := @unq_err q
  unfold tupU at h3 h4
  generalize unq q = U at h3 h4 he
  obtain ⟨b, n, g⟩ := U
  simp only at h3 h4 he
  have hgn : g ≠ 0 → b = [] ∧ n = 0 := he
  rcases (show g = 0 ∨ (g ≠ 0 ∧ b = [] ∧ n = 0) by
    by_cases hg : g = 0
    · exact .inl hg
    · exact .inr ⟨hg, he hg⟩) with hg | ⟨hg, rfl, rfl⟩
  all_goals by_cases hb : 0 ≤ bad s
  all_goals try subst hg
  · have hbr : bare s = false := by
      cases hc : bare s with
      | false => rfl
      | true => have := bare_good hc; omega
    rw [if_pos hb] at h1 h2
    rw [hbr, if_neg (by decide)] at h2
    focus
      refine Or.inl (Exists.intro _ (And.intro (h1) ?_))
      refine Or.inl (Exists.intro _ (And.intro (h2) ?_))
      refine Or.inl (Exists.intro _ (And.intro (s_BadPlace s) ?_))
      (repeat' (first | (refine And.intro (fun h => ?_) (fun h => ?_) <;> (try simp [-List.getD_eq_getElem?_getD, -Int.pred_toNat] at h) <;> (try (exfalso; first | omega | contradiction))) | (refine And.intro (rng64 (by omega) (by omega)) ?_) | (refine And.intro ⟨by omega, by omega⟩ ?_) | (refine And.intro ⟨by omega, by omega, by omega⟩ ?_) | (intro _)))
      refine Or.inl (Exists.intro _ (And.intro (h3) ?_))
      refine Or.inl (Exists.intro _ (And.intro (h4) ?_))
      (repeat' (first | (refine And.intro (fun h => ?_) (fun h => ?_) <;> (try simp [-List.getD_eq_getElem?_getD, -Int.pred_toNat] at h) <;> (try (exfalso; first | omega | contradiction))) | (refine And.intro (rng64 (by omega) (by omega)) ?_) | (refine And.intro ⟨by omega, by omega⟩ ?_) | (refine And.intro ⟨by omega, by omega, by omega⟩ ?_) | (intro _)))
      all_goals refine Or.inl (Exists.intro _ (And.intro (s_bareP s) ?_))
      all_goals refine Or.inl (Exists.intro _ (And.intro (s_bareR s) ?_))
      all_goals (repeat' (first | (refine And.intro (fun h => ?_) (fun h => ?_) <;> (try simp [-List.getD_eq_getElem?_getD, -Int.pred_toNat] at h) <;> (try (exfalso; first | omega | contradiction))) | (refine And.intro (rng64 (by omega) (by omega)) ?_) | (refine And.intro ⟨by omega, by omega⟩ ?_) | (refine And.intro ⟨by omega, by omega, by omega⟩ ?_) | (intro _)))
      all_goals first
        | rfl
        | exact congrArg AV.b (by simp)
  · have h5 := s_quotedR s hs (by omega)
    have h6 := s_keyR s hs (by omega)
    rw [if_neg hb] at h1 h2
    by_cases hbr : bare s = true
    · rw [if_pos hbr] at h2 h6
      refine Or.inl (Exists.intro _ (And.intro (h1) ?_))
      refine Or.inl (Exists.intro _ (And.intro (h2) ?_))
      refine Or.inl (Exists.intro _ (And.intro (s_BadPlace s) ?_))
      (repeat' (first | (refine And.intro (fun h => ?_) (fun h => ?_) <;> (try simp [-List.getD_eq_getElem?_getD, -Int.pred_toNat] at h) <;> (try (exfalso; first | omega | contradiction))) | (refine And.intro (rng64 (by omega) (by omega)) ?_) | (refine And.intro ⟨by omega, by omega⟩ ?_) | (refine And.intro ⟨by omega, by omega, by omega⟩ ?_) | (intro _)))
      refine Or.inl (Exists.intro _ (And.intro (h5) ?_))
      refine Or.inl (Exists.intro _ (And.intro (h6) ?_))
      refine Or.inl (Exists.intro _ (And.intro (h3) ?_))
      refine Or.inl (Exists.intro _ (And.intro (h4) ?_))
      (repeat' (first | (refine And.intro (fun h => ?_) (fun h => ?_) <;> (try simp [-List.getD_eq_getElem?_getD, -Int.pred_toNat] at h) <;> (try (exfalso; first | omega | contradiction))) | (refine And.intro (rng64 (by omega) (by omega)) ?_) | (refine And.intro ⟨by omega, by omega⟩ ?_) | (refine And.intro ⟨by omega, by omega, by omega⟩ ?_) | (intro _)))
      all_goals refine Or.inl (Exists.intro _ (And.intro (s_bareP s) ?_))
      all_goals refine Or.inl (Exists.intro _ (And.intro (s_bareR s) ?_))
      all_goals (repeat' (first | (refine And.intro (fun h => ?_) (fun h => ?_) <;> (try simp [-List.getD_eq_getElem?_getD, -Int.pred_toNat] at h) <;> (try (exfalso; first | omega | contradiction))) | (refine And.intro (rng64 (by omega) (by omega)) ?_) | (refine And.intro ⟨by omega, by omega⟩ ?_) | (refine And.intro ⟨by omega, by omega, by omega⟩ ?_) | (intro _)))
      all_goals first
        | rfl
        | exact congrArg AV.b (by simp)
    · rw [if_neg hbr] at h2 h6
      refine Or.inl (Exists.intro _ (And.intro (h1) ?_))
      refine Or.inl (Exists.intro _ (And.intro (h2) ?_))
      refine Or.inl (Exists.intro _ (And.intro (s_BadPlace s) ?_))
      (repeat' (first | (refine And.intro (fun h => ?_) (fun h => ?_) <;> (try simp [-List.getD_eq_getElem?_getD, -Int.pred_toNat] at h) <;> (try (exfalso; first | omega | contradiction))) | (refine And.intro (rng64 (by omega) (by omega)) ?_) | (refine And.intro ⟨by omega, by omega⟩ ?_) | (refine And.intro ⟨by omega, by omega, by omega⟩ ?_) | (intro _)))
      refine Or.inl (Exists.intro _ (And.intro (h5) ?_))
      refine Or.inl (Exists.intro _ (And.intro (h6) ?_))
      refine Or.inl (Exists.intro _ (And.intro (h3) ?_))
      refine Or.inl (Exists.intro _ (And.intro (h4) ?_))
      (repeat' (first | (refine And.intro (fun h => ?_) (fun h => ?_) <;> (try simp [-List.getD_eq_getElem?_getD, -Int.pred_toNat] at h) <;> (try (exfalso; first | omega | contradiction))) | (refine And.intro (rng64 (by omega) (by omega)) ?_) | (refine And.intro ⟨by omega, by omega⟩ ?_) | (refine And.intro ⟨by omega, by omega, by omega⟩ ?_) | (intro _)))
      all_goals refine Or.inl (Exists.intro _ (And.intro (s_bareP s) ?_))
      all_goals refine Or.inl (Exists.intro _ (And.intro (s_bareR s) ?_))
      all_goals (repeat' (first | (refine And.intro (fun h => ?_) (fun h => ?_) <;> (try simp [-List.getD_eq_getElem?_getD, -Int.pred_toNat] at h) <;> (try (exfalso; first | omega | contradiction))) | (refine And.intro (rng64 (by omega) (by omega)) ?_) | (refine And.intro ⟨by omega, by omega⟩ ?_) | (refine And.intro ⟨by omega, by omega, by omega⟩ ?_) | (intro _)))
      all_goals first
        | rfl
        | exact congrArg AV.b (by simp)
  · have hbr : bare s = false := by
      cases hc : bare s with
      | false => rfl
      | true => have := bare_good hc; omega
    rw [if_pos hb] at h1 h2
    rw [hbr, if_neg (by decide)] at h2
    focus
      refine Or.inl (Exists.intro _ (And.intro (h1) ?_))
      refine Or.inl (Exists.intro _ (And.intro (h2) ?_))
      refine Or.inl (Exists.intro _ (And.intro (s_BadPlace s) ?_))
      (repeat' (first | (refine And.intro (fun h => ?_) (fun h => ?_) <;> (try simp [-List.getD_eq_getElem?_getD, -Int.pred_toNat] at h) <;> (try (exfalso; first | omega | contradiction))) | (refine And.intro (rng64 (by omega) (by omega)) ?_) | (refine And.intro ⟨by omega, by omega⟩ ?_) | (refine And.intro ⟨by omega, by omega, by omega⟩ ?_) | (intro _)))
      refine Or.inl (Exists.intro _ (And.intro (h3) ?_))
      refine Or.inl (Exists.intro _ (And.intro (h4) ?_))
      (repeat' (first | (refine And.intro (fun h => ?_) (fun h => ?_) <;> (try simp [-List.getD_eq_getElem?_getD, -Int.pred_toNat] at h) <;> (try (exfalso; first | omega | contradiction))) | (refine And.intro (rng64 (by omega) (by omega)) ?_) | (refine And.intro ⟨by omega, by omega⟩ ?_) | (refine And.intro ⟨by omega, by omega, by omega⟩ ?_) | (intro _)))
      all_goals refine Or.inl (Exists.intro _ (And.intro (s_bareP s) ?_))
      all_goals refine Or.inl (Exists.intro _ (And.intro (s_bareR s) ?_))
      all_goals (repeat' (first | (refine And.intro (fun h => ?_) (fun h => ?_) <;> (try simp [-List.getD_eq_getElem?_getD, -Int.pred_toNat] at h) <;> (try (exfalso; first | omega | contradiction))) | (refine And.intro (rng64 (by omega) (by omega)) ?_) | (refine And.intro ⟨by omega, by omega⟩ ?_) | (refine And.intro ⟨by omega, by omega, by omega⟩ ?_) | (intro _)))
      all_goals first
        | rfl
        | exact congrArg AV.b (by simp)
  · have h5 := s_quotedR s hs (by omega)
    have h6 := s_keyR s hs (by omega)
    rw [if_neg hb] at h1 h2
    by_cases hbr : bare s = true
    · rw [if_pos hbr] at h2 h6
      refine Or.inl (Exists.intro _ (And.intro (h1) ?_))
      refine Or.inl (Exists.intro _ (And.intro (h2) ?_))
      refine Or.inl (Exists.intro _ (And.intro (s_BadPlace s) ?_))
      (repeat' (first | (refine And.intro (fun h => ?_) (fun h => ?_) <;> (try simp [-List.getD_eq_getElem?_getD, -Int.pred_toNat] at h) <;> (try (exfalso; first | omega | contradiction))) | (refine And.intro (rng64 (by omega) (by omega)) ?_) | (refine And.intro ⟨by omega, by omega⟩ ?_) | (refine And.intro ⟨by omega, by omega, by omega⟩ ?_) | (intro _)))
      refine Or.inl (Exists.intro _ (And.intro (h5) ?_))
      refine Or.inl (Exists.intro _ (And.intro (h6) ?_))
      refine Or.inl (Exists.intro _ (And.intro (h3) ?_))
      refine Or.inl (Exists.intro _ (And.intro (h4) ?_))
      (repeat' (first | (refine And.intro (fun h => ?_) (fun h => ?_) <;> (try simp [-List.getD_eq_getElem?_getD, -Int.pred_toNat] at h) <;> (try (exfalso; first | omega | contradiction))) | (refine And.intro (rng64 (by omega) (by omega)) ?_) | (refine And.intro ⟨by omega, by omega⟩ ?_) | (refine And.intro ⟨by omega, by omega, by omega⟩ ?_) | (intro _)))
      all_goals refine Or.inl (Exists.intro _ (And.intro (s_bareP s) ?_))
      all_goals refine Or.inl (Exists.intro _ (And.intro (s_bareR s) ?_))
      all_goals (repeat' (first | (refine And.intro (fun h => ?_) (fun h => ?_) <;> (try simp [-List.getD_eq_getElem?_getD, -Int.pred_toNat] at h) <;> (try (exfalso; first | omega | contradiction))) | (refine And.intro (rng64 (by omega) (by omega)) ?_) | (refine And.intro ⟨by omega, by omega⟩ ?_) | (refine And.intro ⟨by omega, by omega, by omega⟩ ?_) | (intro _)))
      all_goals first
        | rfl
        | exact congrArg AV.b (by simp)
    · rw [if_neg hbr] at h2 h6
      refine Or.inl (Exists.intro _ (And.intro (h1) ?_))
      refine Or.inl (Exists.intro _ (And.intro (h2) ?_))
      refine Or.inl (Exists.intro _ (And.intro (s_BadPlace s) ?_))
      (repeat' (first | (refine And.intro (fun h => ?_) (fun h => ?_) <;> (try simp [-List.getD_eq_getElem?_getD, -Int.pred_toNat] at h) <;> (try (exfalso; first | omega | contradiction))) | (refine And.intro (rng64 (by omega) (by omega)) ?_) | (refine And.intro ⟨by omega, by omega⟩ ?_) | (refine And.intro ⟨by omega, by omega, by omega⟩ ?_) | (intro _)))
      refine Or.inl (Exists.intro _ (And.intro (h5) ?_))
      refine Or.inl (Exists.intro _ (And.intro (h6) ?_))
      refine Or.inl (Exists.intro _ (And.intro (h3) ?_))
      refine Or.inl (Exists.intro _ (And.intro (h4) ?_))
      (repeat' (first | (refine And.intro (fun h => ?_) (fun h => ?_) <;> (try simp [-List.getD_eq_getElem?_getD, -Int.pred_toNat] at h) <;> (try (exfalso; first | omega | contradiction))) | (refine And.intro (rng64 (by omega) (by omega)) ?_) | (refine And.intro ⟨by omega, by omega⟩ ?_) | (refine And.intro ⟨by omega, by omega, by omega⟩ ?_) | (intro _)))
      all_goals refine Or.inl (Exists.intro _ (And.intro (s_bareP s) ?_))
      all_goals refine Or.inl (Exists.intro _ (And.intro (s_bareR s) ?_))
      all_goals (repeat' (first | (refine And.intro (fun h => ?_) (fun h => ?_) <;> (try simp [-List.getD_eq_getElem?_getD, -Int.pred_toNat] at h) <;> (try (exfalso; first | omega | contradiction))) | (refine And.intro (rng64 (by omega) (by omega)) ?_) | (refine And.intro ⟨by omega, by omega⟩ ?_) | (refine And.intro ⟨by omega, by omega, by omega⟩ ?_) | (intro _)))
      all_goals first
        | rfl
        | exact congrArg AV.b (by simp)
theorem s_law (ht : HasNum) (he : HasErr) (hu : HasU8) (s q : Str) (hs : s.length ≤ 1048576) (hq : q.length ≤ 1048576) : PSpec Tryd.prog 6 [.s s, .s q] (.b true) :=
  pspec_of_vc Γ_good Tryd.func6 rfl Tryd.call6 Tryd.results6 Tryd.ntmps6 (Nat.le_of_ble_eq_true rfl) (w_law ht he hu s q hs hq)
end
end Go.Proofs.YtmfchbkdakmjhaaDoor
end
section
namespace Go.SX
set_option linter.unusedSectionVars false
variable [Globs]
open Go.RowKit Go.WideShapes Go.ChangeShapes Go.Deep
section
variable {H : Type} {encH : TypeId × Value → H} {P : Program} {W : World} {sp : Nat → Bool} {hd : Bool} {O : Nat → Prop}

end
end Go.SX
end
section
namespace Go.SX
set_option linter.unusedSectionVars false
variable [Globs]
open Go.RowKit Go.WideShapes Go.ChangeShapes Go.Deep
section
variable {H : Type} {encH : TypeId × Value → H} {P : Program} {W : World} {sp : Nat → Bool} {hd : Bool} {O : Nat → Prop}
end
end Go.SX
end
