/-
  A part of a proof: plain laws and walks, one after the other. No conditions.
-/
import Derived.Test.YtdcdmojbkmedpaaDoorFr3
import Derived.Shelf.Strings.Builder1
import Derived.Shelf.Strings.Trim
import Derived.Shelf.Small.Utf8
import Derived.Shelf.Small.Bits
import Derived.Shelf.Small.Strs
import Derived.Shelf.Strings.BuilderF
import Derived.Shelf.Strconv.Itoa0
import Derived.Shelf.Strconv.Itoa1
import Derived.Shelf.LaysM
import Derived.Shelf.Strconv.Itoa2
import Derived.Shelf.Strconv.Itoa3
import Derived.Shelf.Strconv.Itoa4
import Derived.Shelf.Strings.Search1
import Derived.Shelf.Strings.Prefix
import Derived.Shelf.Unicode.Decode
import Derived.Shelf.Strings.Runes
import Derived.Shelf.Strings.AsciiSet
import Derived.Shelf.Bits.Mul64
import Derived.Shelf.Unicode.DecodeSlow
import Derived.Shelf.Unicode.DecodeAny
import Derived.Shelf.Slices.Turned
import Derived.Shelf.Slices.Equal
import Derived.Ground.Names2Prog
import Derived.Shelf.Slices.Clone
import Derived.Shelf.Slices.SearchI
import Derived.Ground.SlgnProg
import Derived.Shelf.SlicesG.SearchI
import Derived.Shelf.SlicesE.Clone
import Derived.Test.YtdcdmojbkmedpaaDoorProg
import Derived.Lib.TrimByte
set_option linter.constructorNameAsVariable false
set_option linter.unusedVariables false
set_option linter.unusedSimpArgs false
set_option linter.unusedSectionVars false
section
namespace Go.Proofs
open Go.Shelf
def Tryd.lays161_ren:Go.Shelf.Ren:=⟨fun | 161=>112 | 231=>181 | 227=>182 | 233=>183 | 235=>184 | 228=>223 | 197=>224 | 151=>225 | 260=>250 | 152=>251 | 137=>262 | 119=>263 | 224=>264 | 225=>265 | 217=>271 | 266=>273 | n=>n,fun | 9=>9 | 4=>4 | 3=>3 | 5=>5 | 117=>248 | 116=>247 | 0=>0 | 124=>251 | 105=>240 | 21=>21 | 119=>320 | 46=>190 | 139=>323 | 138=>322 | n=>n,fun | 3=>1 | 4=>2 | n=>n⟩
theorem Tryd.lays161:Go.Proofs.Lays.n161 Tryd.prog Tryd.lays161_ren:={
 mixed:=by kernel_rfl
 f119:=Tryd.func263.trans (congrArg some (by kernel_rfl))
 f137:=Tryd.func262.trans (congrArg some (by kernel_rfl))
 f151:=Tryd.func225.trans (congrArg some (by kernel_rfl))
 f152:=Tryd.func251.trans (congrArg some (by kernel_rfl))
 f161:=Tryd.func112.trans (congrArg some (by kernel_rfl))
 f197:=Tryd.func224.trans (congrArg some (by kernel_rfl))
 f217:=Tryd.func271.trans (congrArg some (by kernel_rfl))
 f224:=Tryd.func264.trans (congrArg some (by kernel_rfl))
 f225:=Tryd.func265.trans (congrArg some (by kernel_rfl))
 f227:=Tryd.func182.trans (congrArg some (by kernel_rfl))
 f228:=Tryd.func223.trans (congrArg some (by kernel_rfl))
 f231:=Tryd.func181.trans (congrArg some (by kernel_rfl))
 f233:=Tryd.func183.trans (congrArg some (by kernel_rfl))
 f235:=Tryd.func184.trans (congrArg some (by kernel_rfl))
 f260:=Tryd.func250.trans (congrArg some (by kernel_rfl))
 f266:=Tryd.func273.trans (congrArg some (by kernel_rfl))
 t0:=Tryd.underlying0
 a0:=Tryd.isAgg0
 z0:=Tryd.sizeOf0
 v0:=Tryd.zeroValue0
 t3:=Tryd.underlying3
 a3:=Tryd.isAgg3
 z3:=Tryd.sizeOf3
 v3:=Tryd.zeroValue3
 t4:=Tryd.underlying4
 a4:=Tryd.isAgg4
 z4:=Tryd.sizeOf4
 v4:=Tryd.zeroValue4
 t5:=Tryd.underlying5
 a5:=Tryd.isAgg5
 z5:=Tryd.sizeOf5
 v5:=Tryd.zeroValue5
 t9:=Tryd.underlying9
 a9:=Tryd.isAgg9
 z9:=Tryd.sizeOf9
 v9:=Tryd.zeroValue9
 t21:=Tryd.underlying21
 a21:=Tryd.isAgg21
 z21:=Tryd.sizeOf21
 v21:=Tryd.zeroValue21
 t46:=Tryd.underlying190
 a46:=Tryd.isAgg190
 z46:=Tryd.sizeOf190
 v46:=Tryd.zeroValue190
 t105:=Tryd.underlying240
 a105:=Tryd.isAgg240
 z105:=Tryd.sizeOf240
 v105:=Tryd.zeroValue240
 t116:=Tryd.underlying247
 a116:=Tryd.isAgg247
 z116:=Tryd.sizeOf247
 t117:=Tryd.underlying248
 a117:=Tryd.isAgg248
 z117:=Tryd.sizeOf248
 v117:=Tryd.zeroValue248
 t119:=Tryd.underlying320
 a119:=Tryd.isAgg320
 z119:=Tryd.sizeOf320
 t124:=Tryd.underlying251
 a124:=Tryd.isAgg251
 z124:=Tryd.sizeOf251
 v124:=Tryd.zeroValue251
 t138:=Tryd.underlying322
 a138:=Tryd.isAgg322
 z138:=Tryd.sizeOf322
 v138:=Tryd.zeroValue322
 t139:=Tryd.underlying323
 a139:=Tryd.isAgg323
 z139:=Tryd.sizeOf323
 v139:=Tryd.zeroValue323
 g3:=by kernel_rfl
 g4:=by kernel_rfl }
open Go.RowKit in
theorem Tryd.strings_TrimLeft_one (s : ByteArray) (c : UInt8) (hc : c.toNat < 128) (w : World) :
  Calls Tryd.prog 112 #[.string s,.string ⟨#[c]⟩] w fun e w'=>e = .returned (.string ⟨(Lib.trimLeftB s.data.toList c).toArray⟩)∧w' = w:=Any.strings_TrimLeft_one Tryd.lays161 s c hc w
def Tryd.lays128_ren:Go.Shelf.Ren:=⟨fun | 128=>227 | n=>n,fun | 51=>252 | 3=>3 | 4=>4 | 46=>190 | 5=>5 | 9=>9 | n=>n,fun | n=>n⟩
theorem Tryd.lays128:Go.Proofs.Lays.n128 Tryd.prog Tryd.lays128_ren:={
 mixed:=by kernel_rfl
 f128:=Tryd.func227.trans (congrArg some (by kernel_rfl))
 t3:=Tryd.underlying3
 a3:=Tryd.isAgg3
 z3:=Tryd.sizeOf3
 v3:=Tryd.zeroValue3
 t4:=Tryd.underlying4
 a4:=Tryd.isAgg4
 z4:=Tryd.sizeOf4
 v4:=Tryd.zeroValue4
 t5:=Tryd.underlying5
 a5:=Tryd.isAgg5
 z5:=Tryd.sizeOf5
 v5:=Tryd.zeroValue5
 t9:=Tryd.underlying9
 a9:=Tryd.isAgg9
 z9:=Tryd.sizeOf9
 v9:=Tryd.zeroValue9
 t46:=Tryd.underlying190
 a46:=Tryd.isAgg190
 z46:=Tryd.sizeOf190
 v46:=Tryd.zeroValue190
 t51:=Tryd.underlying252
 a51:=Tryd.isAgg252
 z51:=Tryd.sizeOf252
 v51:=Tryd.zeroValue252 }
theorem Tryd.bits_Len32 (x : Int) (w : World) (h0 : 0 ≤ x) (h1 : x ≤ 4294967295) :
  Calls Tryd.prog 227 #[.int .u32 x] w fun e w'=>e = .returned (.int .i64 (Lib.bitLen x.toNat))∧w' = w:=Any.bits_Len32 Tryd.lays128 x w h0 h1
def Tryd.lays133_ren:Go.Shelf.Ren:=⟨fun | 133=>267 | 128=>227 | n=>n,fun | 51=>252 | 3=>3 | 4=>4 | 46=>190 | 5=>5 | 9=>9 | n=>n,fun | n=>n⟩
theorem Tryd.lays133:Go.Proofs.Lays.n133 Tryd.prog Tryd.lays133_ren:={
 mixed:=by kernel_rfl
 f128:=Tryd.func227.trans (congrArg some (by kernel_rfl))
 f133:=Tryd.func267.trans (congrArg some (by kernel_rfl))
 t3:=Tryd.underlying3
 a3:=Tryd.isAgg3
 z3:=Tryd.sizeOf3
 v3:=Tryd.zeroValue3
 t4:=Tryd.underlying4
 a4:=Tryd.isAgg4
 z4:=Tryd.sizeOf4
 v4:=Tryd.zeroValue4
 t5:=Tryd.underlying5
 a5:=Tryd.isAgg5
 z5:=Tryd.sizeOf5
 v5:=Tryd.zeroValue5
 t9:=Tryd.underlying9
 a9:=Tryd.isAgg9
 z9:=Tryd.sizeOf9
 v9:=Tryd.zeroValue9
 t46:=Tryd.underlying190
 a46:=Tryd.isAgg190
 z46:=Tryd.sizeOf190
 v46:=Tryd.zeroValue190
 t51:=Tryd.underlying252
 a51:=Tryd.isAgg252
 z51:=Tryd.sizeOf252
 v51:=Tryd.zeroValue252 }
theorem Tryd.bits_LeadingZeros32 (x : Int) (w : World) (h0 : 0 ≤ x) (h1 : x ≤ 4294967295) :
  Calls Tryd.prog 267 #[.int .u32 x] w fun e w'=>e = .returned (.int .i64 (32 - (Lib.bitLen x.toNat:Int)))∧w' = w:=Any.bits_LeadingZeros32 Tryd.lays133 x w h0 h1
def Tryd.lays260_ren:Go.Shelf.Ren:=⟨fun | 260=>250 | n=>n,fun | 9=>9 | 21=>21 | 3=>3 | 4=>4 | 5=>5 | 119=>320 | 0=>0 | 46=>190 | 139=>323 | 138=>322 | n=>n,fun | 3=>1 | 4=>2 | n=>n⟩
theorem Tryd.lays260:Go.Proofs.Lays.n260 Tryd.prog Tryd.lays260_ren:={
 mixed:=by kernel_rfl
 f260:=Tryd.func250.trans (congrArg some (by kernel_rfl))
 t0:=Tryd.underlying0
 a0:=Tryd.isAgg0
 z0:=Tryd.sizeOf0
 v0:=Tryd.zeroValue0
 t3:=Tryd.underlying3
 a3:=Tryd.isAgg3
 z3:=Tryd.sizeOf3
 v3:=Tryd.zeroValue3
 t4:=Tryd.underlying4
 a4:=Tryd.isAgg4
 z4:=Tryd.sizeOf4
 v4:=Tryd.zeroValue4
 t5:=Tryd.underlying5
 a5:=Tryd.isAgg5
 z5:=Tryd.sizeOf5
 v5:=Tryd.zeroValue5
 t9:=Tryd.underlying9
 a9:=Tryd.isAgg9
 z9:=Tryd.sizeOf9
 v9:=Tryd.zeroValue9
 t21:=Tryd.underlying21
 a21:=Tryd.isAgg21
 z21:=Tryd.sizeOf21
 v21:=Tryd.zeroValue21
 t46:=Tryd.underlying190
 a46:=Tryd.isAgg190
 z46:=Tryd.sizeOf190
 v46:=Tryd.zeroValue190
 t119:=Tryd.underlying320
 a119:=Tryd.isAgg320
 z119:=Tryd.sizeOf320
 t138:=Tryd.underlying322
 a138:=Tryd.isAgg322
 z138:=Tryd.sizeOf322
 v138:=Tryd.zeroValue322
 t139:=Tryd.underlying323
 a139:=Tryd.isAgg323
 z139:=Tryd.sizeOf323
 v139:=Tryd.zeroValue323
 g3:=by kernel_rfl
 g4:=by kernel_rfl }
end Go.Proofs
end
section
namespace Go.Proofs.YtdcdmojbkmedpaaDoor
open Go Go.SX Go.Bg
set_option maxRecDepth 100000
set_option maxHeartbeats 2000000
theorem tb31 {a:Nat} (h:a < 4294967296):a.testBit 31 = decide (2147483648≤a):=by
 rw [Nat.testBit_eq_decide_div_mod_eq]
 by_cases c:2147483648≤a
 ·rw [decide_eq_true c]; exact decide_eq_true (by rw [show 2 ^ 31 = 2147483648 from rfl]; omega)
 ·rw [decide_eq_false c]; exact decide_eq_false (by rw [show 2 ^ 31 = 2147483648 from rfl]; omega)
theorem shr31 {a:Nat} (h:a < 4294967296):a / 2147483648 = (a.testBit 31).toNat:=by
 rw [tb31 h]
 by_cases c:2147483648≤a
 ·rw [decide_eq_true c]; show _ = 1; omega
 ·rw [decide_eq_false c]; show _ = 0; omega
theorem borrow32 {x y b d : Nat} (hx : x < 4294967296) (hy : y < 4294967296) (hb : b ≤ 1) (hd : d = (x + 8589934592 - y - b) % 4294967296) :
  (((4294967295 ^^^ x) &&& y) ||| ((4294967295 ^^^ (x ^^^ y)) &&& d)) / 2147483648 = if x < y + b then 1 else 0:=by
 have hdl:d < 4294967296:=by omega
 have h1:(4294967295 ^^^ x) &&& y < 4294967296:=Nat.lt_of_le_of_lt Nat.and_le_right hy
 have h2:(4294967295 ^^^ (x ^^^ y)) &&& d < 4294967296:=Nat.lt_of_le_of_lt Nat.and_le_right hdl
 have h3:=Nat.or_lt_two_pow (n:=32) h1 h2
 rw [shr31 h3]
 simp only [Nat.testBit_or,Nat.testBit_and,Nat.testBit_xor,tb31 hx,tb31 hy,tb31 hdl,tb31 (show (4294967295:Nat) < 4294967296 by decide)]
 by_cases c1:2147483648≤x<;>by_cases c2:2147483648≤y<;>by_cases c3:2147483648≤d<;>simp only [c1,c2,c3,decide_true,decide_false]<;>(split<;>first | rfl | (exfalso; omega))
theorem w32 (t:Nat):IntKind.u32.wrap (t:Int) = ((t % 4294967296:Nat):Int):=by rw [IntKind.wrap_u32]; omega
theorem shr31' (t:Nat):((t:Nat):Int).fdiv (2 ^ (min (Int.toNat 31) IntKind.u32.bits)) = ((t / 2147483648:Nat):Int):=by
 rw [show min (Int.toNat 31) IntKind.u32.bits = 31 from rfl,Int.fdiv_eq_ediv_of_nonneg _ (by decide)]
 exact_mod_cast rfl
section
variable [G:Globs]
theorem w_add32 (x y c:Nat) (hx:x < 4294967296) (hy:y < 4294967296) (hc:c≤1):vc Tryd.prog Γ 22 [0,1,2,6,7,8] (Tryd.f256.body.getD .skip) (postK Γ [.tmp 6,.tmp 7] (fun v=>v = .tup [.i .u32 (((x + y + c) % 4294967296:Nat):Int),.i .u32 (((x + y + c) / 4294967296:Nat):Int)])) ⟨argSlots 0 [.i .u32 x,.i .u32 y,.i .u32 c],[]⟩:=by
 have e:IntKind.u64.wrap (IntKind.u64.wrap (IntKind.u64.wrap (x:Int) + IntKind.u64.wrap (y:Int)) + IntKind.u64.wrap (c:Int)) = ((x + y + c:Nat):Int):=by simp only [IntKind.wrap_u64]; omega
 refine aN (by decide) ?_
 (conv=>whnf)
 rw [e,shr32,w32,wrap32 (show (x + y + c) / 4294967296 < 4294967296 by omega)]
 rfl
theorem s_add32 (x y c:Nat) (hx:x < 4294967296) (hy:y < 4294967296) (hc:c≤1):PSpec Tryd.prog 256 [.i .u32 x,.i .u32 y,.i .u32 c] (.tup [.i .u32 (((x + y + c) % 4294967296:Nat):Int),.i .u32 (((x + y + c) / 4294967296:Nat):Int)]) :=
 pspec_of_vc Γ_good Tryd.func256 rfl Tryd.call256 Tryd.results256 Tryd.ntmps256 (Nat.le_of_ble_eq_true rfl) (w_add32 x y c hx hy hc)
theorem w_sub32 (x y b:Nat) (hx:x < 4294967296) (hy:y < 4294967296) (hb:b≤1):vc Tryd.prog Γ 25 [0,1,2,6,7] (Tryd.f272.body.getD .skip) (postK Γ [.tmp 6,.tmp 7] (fun v=>v = .tup [.i .u32 (((x + 8589934592 - y - b) % 4294967296:Nat):Int),.i .u32 ((if x < y + b then 1 else 0:Nat):Int)])) ⟨argSlots 0 [.i .u32 x,.i .u32 y,.i .u32 b],[]⟩:=by
 have e:IntKind.u32.wrap (IntKind.u32.wrap ((x:Int) - y) - b) = (((x + 8589934592 - y - b) % 4294967296:Nat):Int):=by simp only [IntKind.wrap_u32]; omega
 have hm:(if IntKind.u32.signed = true then (-1:Int) else IntKind.u32.max) = ((4294967295:Nat):Int):=rfl
 have hd:(x + 8589934592 - y - b) % 4294967296 < 4294967296:=Nat.mod_lt _ (by decide)
 have hb32:=borrow32 hx hy hb rfl
 have hxy:x ^^^ y < 4294967296:=Nat.xor_lt_two_pow (n:=32) hx hy
 have hnx:4294967295 ^^^ x < 4294967296:=Nat.xor_lt_two_pow (n:=32) (by decide) hx
 have hnxy:4294967295 ^^^ (x ^^^ y) < 4294967296:=Nat.xor_lt_two_pow (n:=32) (by decide) hxy
 have h1:(4294967295 ^^^ x) &&& y < 4294967296:=Nat.lt_of_le_of_lt Nat.and_le_right hy
 refine aN (by decide) ?_
 (conv=>whnf)
 rw [e,hm]
 generalize (x + 8589934592 - y - b) % 4294967296 = d at hd hb32
 have h2:(4294967295 ^^^ (x ^^^ y)) &&& d < 4294967296:=Nat.lt_of_le_of_lt Nat.and_le_right hd
 rw [u32_xor_nat _ _ (by decide) hx,u32_and_nat _ _ hnx hy,u32_xor_nat _ _ hx hy,u32_xor_nat _ _ (by decide) hxy,u32_and_nat _ _ hnxy hd,u32_or_nat _ _ h1 h2,shr31',hb32]
 rfl
theorem s_sub32 (x y b:Nat) (hx:x < 4294967296) (hy:y < 4294967296) (hb:b≤1):PSpec Tryd.prog 272 [.i .u32 x,.i .u32 y,.i .u32 b] (.tup [.i .u32 (((x + 8589934592 - y - b) % 4294967296:Nat):Int),.i .u32 ((if x < y + b then 1 else 0:Nat):Int)]) :=
 pspec_of_vc Γ_good Tryd.func272 rfl Tryd.call272 Tryd.results272 Tryd.ntmps272 (Nat.le_of_ble_eq_true rfl) (w_sub32 x y b hx hy hb)
theorem s_len32 (x:Nat) (hx:x < 4294967296):PSpec Tryd.prog 227 [.i .u32 x] (.i .i64 ((Lib.bitLen x:Nat):Int)):=by
 refine ⟨Tryd.call227,fun O w vs hO hG hargs=>?_⟩
 obtain ⟨v0,vs0,rfl,h0,h⟩:=hargs.cons_inv
 obtain rfl:=h.nil_inv
 cases h0
 refine (Tryd.bits_Len32 x w (by omega) (by omega)).mono fun e w' ⟨he,hw⟩=>?_
 subst he hw
 exact ⟨_,rfl,Stp.refl _ _,by rw [Int.toNat_natCast]; exact .i _ _⟩
theorem s_lead32 (x:Nat) (hx:x < 4294967296):PSpec Tryd.prog 267 [.i .u32 x] (.i .i64 (32 - (Lib.bitLen x:Int))):=by
 refine ⟨Tryd.call267,fun O w vs hO hG hargs=>?_⟩
 obtain ⟨v0,vs0,rfl,h0,h⟩:=hargs.cons_inv
 obtain rfl:=h.nil_inv
 cases h0
 refine (Tryd.bits_LeadingZeros32 x w (by omega) (by omega)).mono fun e w' ⟨he,hw⟩=>?_
 subst he hw
 exact ⟨_,rfl,Stp.refl _ _,by rw [Int.toNat_natCast]; exact .i _ _⟩
end
end Go.Proofs.YtdcdmojbkmedpaaDoor
end
section
namespace Go.Proofs.YtdcdmojbkmedpaaDoor
open Go Go.SX Go.Bg
set_option maxRecDepth 100000
set_option maxHeartbeats 2000000
theorem dig_sub {W P A R S c x t y c':Nat} (h:A + P * c = R + S) (hx:x + W * c' = t + y + c):(A + P * x) + P * W * c' = (R + P * t) + (S + P * y):=by
 have e:P * (x + W * c') = P * (t + y + c):=by rw [hx]
 simp only [Nat.mul_add,← Nat.mul_assoc] at e
 omega
theorem dig_add {W P A R S c x t y c':Nat} (h:R + P * c = A + S) (ht:t + W * c' = x + y + c):(R + P * t) + P * W * c' = (A + P * x) + (S + P * y):=by
 have e:P * (t + W * c') = P * (x + y + c):=by rw [ht]
 simp only [Nat.mul_add,← Nat.mul_assoc] at e
 omega
theorem get32' {l:List Int} (h:Dg 4294967296 l) (k:Nat) (hk:l.length≤k):∃ z:Nat,l.getD k 0 = z∧z = 0:=⟨0,by rw [List.getD_eq_getElem?_getD,List.getElem?_eq_none hk]; rfl,rfl⟩
theorem dg_len32 {l:List Int} (h:Dg 4294967296 l):(dg 4294967296 (vl 4294967296 l)).length≤l.length:=dg_len_le b32 _ _ (vl_lt h)
theorem less_len {m n:Nat} (h:(dg 4294967296 m).length < (dg 4294967296 n).length):m < n:=by
 have hn:0 < n:=by
  rcases Nat.eq_zero_or_pos n with h0 | h0
  ·subst h0; simp at h
  ·exact h0
 have h1:=dg_ge b32 hn
 have h2:=vl_lt (dg_Dg b32 m)
 rw [vl_dg b32] at h2
 exact Nat.lt_of_lt_of_le (Nat.lt_of_lt_of_le h2 (Nat.pow_le_pow_right (by decide) (by omega))) h1
section
variable [G:Globs]
theorem w_trim (a:List Int) (ha:Dg 4294967296 a) (hla:a.length≤1000000):vc Tryd.prog Γ 6 [0,2] (Tryd.f187.body.getD .skip) (postK Γ [.tmp 2] (fun v=>v = .rd .u32 (dg 4294967296 (vl 4294967296 a)))) ⟨argSlots 0 [.rd .u32 a],[]⟩:=by
 have:=dg_len32 ha
 refine Or.inl (eX _ (aN (s_trimmed a ha) ?_))
 refine aN (by show _ * 4≤_; omega) ?_
 rfl
theorem s_trim (a:List Int) (ha:Dg 4294967296 a) (hla:a.length≤1000000):PSpec Tryd.prog 187 [.rd .u32 a] (.rd .u32 (dg 4294967296 (vl 4294967296 a))) :=
 pspec_of_vc Γ_good Tryd.func187 rfl Tryd.call187 Tryd.results187 Tryd.ntmps187 (Nat.le_of_ble_eq_true rfl) (w_trim a ha hla)
theorem w_cmp (a b:List Int) (ha:Dg 4294967296 a) (hb:Dg 4294967296 b) (hla:a.length≤1000000) (hlb:b.length≤1000000):vc Tryd.prog Γ 47 [0,1,4,5,10,16,26,37,46] (Tryd.f232.body.getD .skip) (postK Γ [.tmp 4] (fun v=>v = .i .i64 (cmpN (vl 4294967296 a) (vl 4294967296 b)))) ⟨argSlots 0 [.rd .u32 a,.rd .u32 b],[]⟩:=by
 have ea:=vl_dg b32 (vl 4294967296 a)
 have eb:=vl_dg b32 (vl 4294967296 b)
 have hx:=dg_len32 ha
 have hy:=dg_len32 hb
 have hxy:=less_len (m:=vl 4294967296 a) (n:=vl 4294967296 b)
 have hyx:=less_len (m:=vl 4294967296 b) (n:=vl 4294967296 a)
 have gx:=dg_Dg b32 (vl 4294967296 a)
 have gy:=dg_Dg b32 (vl 4294967296 b)
 refine Or.inl (eX _ (aN (s_trimmed a ha) ?_))
 refine Or.inl (eX _ (aN (s_trimmed b hb) ?_))
 generalize vl 4294967296 a = m at ea hxy hyx hx gx
 generalize vl 4294967296 b = n at eb hxy hyx hy gy
 generalize dg 4294967296 m = x at ea hxy hyx hx gx
 generalize dg 4294967296 n = y at eb hxy hyx hy gy
 intro _
 intro _
 refine aN (fun hc=>?_) (fun hc=>?_)
 ·have hc:x.length < y.length:=by simpa using hc
  exact congrArg (AV.i .i64) (by unfold cmpN; rw [if_pos (hxy hc)])
 have hc:¬ x.length < y.length:=by simpa using hc
 intro _
 intro _
 refine aN (fun hd=>?_) (fun hd=>?_)
 ·have hd:y.length < x.length:=by simpa using hd
  exact congrArg (AV.i .i64) (by unfold cmpN; have:=hyx hd; rw [if_neg (by omega),if_pos this])
 have hd:¬ y.length < x.length:=by simpa using hd
 have hl:x.length = y.length:=by omega
 intro _
 (refine rNG ?_)
 refine eX [] (eX [] (eX [] (eX Int (eX (fun j=>-1≤j∧j < x.length∧∀ t:Nat,j < t→x.getD t 0 = y.getD t 0) (eX (fun j=>⟨[(0,.rd .u32 x),(1,.rd .u32 y),(5,.i .i64 j)],[]⟩) (eX (fun j=>(j + 1).toNat) (eX ((x.length:Int) - 1) (aN ⟨by omega,by omega,fun t ht=>against_start ⟨by omega,by omega⟩⟩ (aN ?_ ?_)))))))))
 ·(repeat' (first | exact trivial | exact Or.inl rfl | exact Or.inr (Or.inl ⟨rfl,_,rfl⟩) | exact Or.inr (Or.inr (Or.inr ⟨_,_,_,rfl,rfl⟩)) | refine aN ?_ ?_))
 ·rintro j ⟨h1,h2,h3⟩
  refine aN (fun hc=>?_) (fun hc=>?_)
  ·obtain ⟨k,rfl⟩:=nn_of hc
   have h3:∀ t,k < t→x.getD t 0 = y.getD t 0:=fun t ht=>h3 t (by omega)
   refine eX [.blk [0,1,2,3,4,5,6,7,8]] (aN (by kernel_rfl) ?_)
   refine bN2 ?_
   refine bN2 ?_
   refine aN (fun hd=>?_) (fun hd=>?_)
   ·have hd:x.getD k 0 < y.getD k 0:=of_decide_eq_true hd
    have:=vl_cmp b32 gx gy h3 hd
    exact congrArg (AV.i .i64) (by rw [← ea,← eb]; unfold cmpN; rw [if_pos this])
   have hd:¬ x.getD k 0 < y.getD k 0:=of_decide_eq_false hd
   refine eX [.blk [0,1,2,3,4,5,6,7,8]] (aN (by kernel_rfl) ?_)
   refine bN2 ?_
   refine bN2 ?_
   refine aN (fun he=>?_) (fun he=>?_)
   ·have he:y.getD k 0 < x.getD k 0:=of_decide_eq_true he
    have:=vl_cmp b32 gy gx (fun t ht=>(h3 t ht).symm) he
    exact congrArg (AV.i .i64) (by rw [← ea,← eb]; unfold cmpN; rw [if_neg (by omega),if_pos this])
   have he:¬ y.getD k 0 < x.getD k 0:=of_decide_eq_false he
   (refine rNG ?_)
   refine eX [] (eX ((k:Int) - 1) (aN ⟨by omega,by omega,fun t ht=>against_next h3 (by omega) (by omega)⟩ (aN ?_ ?_)))
   ·(repeat' (first | exact trivial | exact Or.inl rfl | exact Or.inr (Or.inl ⟨rfl,_,rfl⟩) | exact Or.inr (Or.inr (Or.inr ⟨_,_,_,rfl,rfl⟩)) | refine aN ?_ ?_))
   ·show ((k:Int) - 1 + 1).toNat < ((k:Int) + 1).toNat
    omega
  · have hj : j = -1 := by have : ¬ 0 ≤ j := of_decide_eq_false hc
                           omega
    have:=vl_ext (B:=4294967296) (l:=x) (m:=y) fun t=>h3 t (by omega)
    exact congrArg (AV.i .i64) (by rw [← ea,← eb]; unfold cmpN; rw [if_neg (by omega),if_neg (by omega)])
theorem s_cmp (a b:List Int) (ha:Dg 4294967296 a) (hb:Dg 4294967296 b) (hla:a.length≤1000000) (hlb:b.length≤1000000):PSpec Tryd.prog 232 [.rd .u32 a,.rd .u32 b] (.i .i64 (cmpN (vl 4294967296 a) (vl 4294967296 b))) :=
 pspec_of_vc Γ_good Tryd.func232 rfl Tryd.call232 Tryd.results232 Tryd.ntmps232 (Nat.le_of_ble_eq_true rfl) (w_cmp a b ha hb hla hlb)
theorem w_len (a:List Int) (ha:Dg 4294967296 a) (hla:a.length≤1000000):vc Tryd.prog Γ 20 [0,2,7] (Tryd.f185.body.getD .skip) (postK Γ [.tmp 2] (fun v=>v = .i .i64 ((bl (vl 4294967296 a):Nat):Int))) ⟨argSlots 0 [.rd .u32 a],[]⟩:=by
 have ea:=vl_dg b32 (vl 4294967296 a)
 have hx:=dg_len32 ha
 have gx:=dg_Dg b32 (vl 4294967296 a)
 have hge:0 < vl 4294967296 a→4294967296 ^ ((dg 4294967296 (vl 4294967296 a)).length - 1)≤vl 4294967296 a:=dg_ge b32
 have hz:vl 4294967296 a = 0→dg 4294967296 (vl 4294967296 a) = []:=fun e=>by rw [e]; rfl
 refine Or.inl (eX _ (aN (s_trimmed a ha) ?_))
 generalize vl 4294967296 a = m at ea hx gx hge hz
 generalize dg 4294967296 m = x at ea hx gx hge hz
 intro _
 refine aN (fun hc=>?_) (fun hc=>?_)
 ·have hc:x.length = 0:=by simpa using hc
  have:m = 0:=by rw [← ea,List.eq_nil_of_length_eq_zero hc]; rfl
  subst this
  rfl
 have hc:x.length≠0:=by simpa using hc
 obtain ⟨k,hk⟩:∃ k,x.length = k + 1:=⟨x.length - 1,by omega⟩
 have g:=gx.getD (by decide) k
 obtain ⟨t,ht,htn,htl⟩:∃ t:Nat,x.getD k 0 = t∧(x.getD k 0).toNat = t∧t < 4294967296:=⟨(x.getD k 0).toNat,by omega,rfl,by omega⟩
 have hv:=vl_take_succ 4294967296 x k
 rw [← hk,List.take_length,ea,htn] at hv
 have hlo:=vl_lt (gx.take k)
 rw [List.length_take,show min k x.length = k by omega] at hlo
 have hp:(4294967296:Nat) ^ k = 2 ^ (32 * k):=by rw [Nat.pow_mul]
 have ht0:0 < t:=by
  rcases Nat.eq_zero_or_pos t with h0 | h0
  ·subst h0
   rw [hk,Nat.add_sub_cancel] at hge
   rw [Nat.mul_zero,Nat.add_zero] at hv
   have hm:0 < m:=by
    rcases Nat.eq_zero_or_pos m with h1 | h1
    ·have:=hz h1
     subst this
     simp at hk
    ·exact h1
   have:=hge hm
   omega
  ·exact h0
 have hb:bl m = 32 * k + bl t:=by rw [hv,hp]; rw [hp] at hlo; exact bl_top ht0 hlo
 have q:=s_len32 t htl
 rw [bitLen_bl (by omega),← ht,← show ((x.length:Int) - 1).toNat = k by omega] at q
 intro _
 (refine rNG ?_)
 (refine rNG ?_)
 intro _
 (refine rNG ?_)
 refine bN2 ?_
 refine Or.inl (eX _ (aN (q) ?_))
 have hbt:bl t≤32:=by
  rcases Nat.lt_or_ge 32 (bl t) with h | h
  ·obtain ⟨j,j1,j2,_⟩:=bl_bounds ht0
   have:2 ^ 32≤2 ^ j:=Nat.pow_le_pow_right (by decide) (by omega)
   omega
  ·exact h
 (refine rNG ?_)
 exact congrArg (AV.i .i64) (by rw [hb]; omega)
theorem s_len (a:List Int) (ha:Dg 4294967296 a) (hla:a.length≤1000000):PSpec Tryd.prog 185 [.rd .u32 a] (.i .i64 ((bl (vl 4294967296 a):Nat):Int)) :=
 pspec_of_vc Γ_good Tryd.func185 rfl Tryd.call185 Tryd.results185 Tryd.ntmps185 (Nat.le_of_ble_eq_true rfl) (w_len a ha hla)
end
end Go.Proofs.YtdcdmojbkmedpaaDoor
end
section
namespace Go.SX
variable [Globs]
structure VCs (P:Program) (Γ:Ctx) (N:Nat) (L:List Nat) (c:Code) (Q:Exit→St→Prop) (s:St):Prop where
 ok:∀ (W0:World) (F:Fr) (X:Nat→Prop) (Q':Exit→Act→World→Prop) (a:Act) (w:World),(∀ e s a w,Q e s→Inv W0 F X N s a w→Q' e a w)→Inv W0 F X N s a w→c.wp P Q' a w
section
variable {P:Program} {N:Nat} {Γ:Ctx} {L:List Nat} {s:St}
theorem VCs.of_vc (hΓ:Γ.good P) {c:Code} {Q:Exit→St→Prop} (h:vc P Γ N L c Q s):VCs P Γ N L c Q s:=⟨fun _ _ _ Q' a w hQ hI=>vc_ok hΓ c Q Q' s a w hQ h hI⟩
theorem VCs.seq (hΓ : Γ.good P) {x y : Code} {Q : Exit → St → Prop} (h : vc P Γ N L x (fun e s' => match e with
  | .normal=>VCs P Γ N L y Q s'
  | e=>Q e s') s):VCs P Γ N L (.seq x y) Q s:=⟨fun W0 F X Q' a w hQ hI =>
 wp_seq (vc_ok hΓ x _ _ s a w (fun e s' a' w' hq hI'=>by
  cases e with
  | normal=>exact hq.ok W0 F X Q' a' w' hQ hI'
  | _=>exact hQ _ _ _ _ hq hI') h hI)⟩
theorem VCs.cut (hΓ : Γ.good P) {x y : Code} {Q : Exit → St → Prop} (σ : Type) (I : σ → Prop) (S : σ → St) (h : vc P Γ N L x (fun e s' => match e with
  | .normal=>∃ v,I v∧Wk s' (S v)
  | e=>Q e s') s) (h2:∀ v,I v→VCs P Γ N L y Q (S v)):VCs P Γ N L (.seq x y) Q s:=⟨fun W0 F X Q' a w hQ hI =>
 wp_seq (vc_ok hΓ x _ _ s a w (fun e s' a' w' hq hI'=>by
  cases e with
  | normal =>
   obtain ⟨v,hv,hw⟩:=hq
   obtain ⟨β,hI'⟩:=hI'
   exact (h2 v hv).ok W0 F X Q' a' w' hQ ⟨β,hI'.wk hw⟩
  | _=>exact hQ _ _ _ _ hq hI') h hI)⟩
theorem VCs.block {id : Nat} {c : Code} {Q : Exit → St → Prop} (h : VCs P Γ N L c (fun e s' => match e with
  | .exit id'=>bif Nat.beq id' id then Q .normal s' else Q (.exit id') s'
  | e=>Q e s') s):VCs P Γ N L (.block id c) Q s:=⟨fun W0 F X Q' a w hQ hI=>by
 refine wp_block (h.ok W0 F X _ a w (fun e s' a' w' hq hI'=>?_) hI)
 cases e with
 | exit id' =>
  have hq:bif Nat.beq id' id then Q .normal s' else Q (.exit id') s':=hq
  cases hb:Nat.beq id' id with
  | true =>
   rw [hb] at hq
   have hq1:Q .normal s':=hq
   have e:=Nat.eq_of_beq_eq_true hb
   subst e
   simp only [Exit.inBlock,if_true]
   exact hQ _ _ _ _ hq1 hI'
  | false =>
   rw [hb] at hq
   have hne:id'≠id:=fun e=>by subst e; rw [Nat.beq_refl] at hb; cases hb
   simp only [Exit.inBlock,hne,if_false]; exact hQ _ _ _ _ hq hI'
 | _=>exact hQ _ _ _ _ hq hI'⟩
theorem VCs.cond {c:Operand} {x y:Code} {Q:Exit→St→Prop} {t:Bool} (hc:ev s c = .b t) (h1:t = true→VCs P Γ N L x Q s) (h2:t = false→VCs P Γ N L y Q s):VCs P Γ N L (.cond c x y) Q s:=⟨fun W0 F X Q' a w hQ hI=>by
 obtain ⟨β,hI⟩:=hI
 have hr:=(ev_rel hI c).1
 rw [hc] at hr
 exact wp_cond_split hr.inv_b (fun ht=>(h1 ht).ok W0 F X Q' a w hQ ⟨β,hI⟩) (fun ht=>(h2 ht).ok W0 F X Q' a w hQ ⟨β,hI⟩)⟩
theorem VCs.seqS {x y : Code} {Q : Exit → St → Prop} (h : VCs P Γ N L x (fun e s' => match e with
  | .normal=>VCs P Γ N L y Q s'
  | e=>Q e s') s):VCs P Γ N L (.seq x y) Q s:=⟨fun W0 F X Q' a w hQ hI =>
 wp_seq (h.ok W0 F X _ a w (fun e s' a' w' hq hI'=>by
  cases e with
  | normal=>exact hq.ok W0 F X Q' a' w' hQ hI'
  | _=>exact hQ _ _ _ _ hq hI') hI)⟩
theorem VCs.cutS {x y : Code} {Q : Exit → St → Prop} (σ : Type) (I : σ → Prop) (S : σ → St) (h : VCs P Γ N L x (fun e s' => match e with
  | .normal=>∃ v,I v∧Wk s' (S v)
  | e=>Q e s') s) (h2:∀ v,I v→VCs P Γ N L y Q (S v)):VCs P Γ N L (.seq x y) Q s:=⟨fun W0 F X Q' a w hQ hI =>
 wp_seq (h.ok W0 F X _ a w (fun e s' a' w' hq hI'=>by
  cases e with
  | normal =>
   obtain ⟨v,hv,hw⟩:=hq
   obtain ⟨β,hI'⟩:=hI'
   exact (h2 v hv).ok W0 F X Q' a' w' hQ ⟨β,hI'.wk hw⟩
  | _=>exact hQ _ _ _ _ hq hI') hI)⟩
theorem pspec_of_VCs (_hΓ : Γ.good P) {f : FuncId} {fn : Func} {c : Code} (hf : P.funcs[f]? = some fn) (hb : fn.body = some c) (hcall : ∀ (vs : Array Value) (w : World), (callFunc f vs).run P w = .ok (.enter f vs) w)
  {rs:Array ResultVar} (hrs:fn.results = rs) (hN:fn.ntmps = N) {args:List AV} {r:AV} (hlen:args.length≤N)
  (hvc:VCs P Γ N L c (postK Γ rs.toList (fun v=>v = r)) ⟨argSlots 0 args,[]⟩) (hΓ:Γ.good P):PSpec P f args r:=by
 refine ⟨hcall,fun O w vs hO hG hargs=>?_⟩
 refine calls_of_wp hf hb ?_
 have hsz:vs.length = args.length:=hargs.1.symm
 have hI:InvB w Fr.none O N ⟨argSlots 0 args,[]⟩ (fun _=>none) { tmps:=vs.toArray++Array.replicate (fn.ntmps - vs.toArray.size) undef,defers:=[] } w:=by
  have hNm:∀ n,¬ Nm ⟨argSlots 0 args,[]⟩ n:=by
   rintro n (⟨cs,h⟩ | ⟨m,h⟩ | ⟨b,cs,h,_⟩)
   ·cases h
   ·have:=look_args args 0 m
    rw [Nat.zero_add] at this
    simp only [this] at h
    by_cases hm:m < args.length
    ·rw [List.getD_eq_getElem?_getD,List.getElem?_eq_getElem hm] at h
     have:=(hargs.2 m _ _ (List.getElem?_eq_getElem hm) (List.getElem?_eq_getElem (by rw [hsz]; exact hm))).ids_nil
     rw [show (some args[m]).getD AV.x = args[m] from rfl,this] at h
     cases h
    ·rw [List.getD_eq_getElem?_getD,List.getElem?_eq_none (by omega)] at h
     simp [ids,ids0] at h
   ·cases h
  refine ⟨Stp.refl _ _,fun n=>?_,?_,fun n cs h=>(by cases h),fun n m g hn=>absurd hn (hNm n),fun n g hn=>absurd hn (hNm n),rfl,fun k hk=>⟨hO k hk,id⟩,fun n cs g h=>(by cases h),fun _ _=>rfl,hG.step (Stp.refl (fun _=>False) w) (fun _ _ h=>h.elim) fun k _ hk=>hk.elim id fun h=>h.elim⟩
  ·have h1:=look_args args 0 n
   rw [Nat.zero_add] at h1
   show Rel _ _ _ (look (argSlots 0 args) n) _
   rw [h1]
   by_cases hm:n < args.length
   ·have hmv:n < vs.length:=by rw [hsz]; exact hm
    have h2:=hargs.2 n _ _ (List.getElem?_eq_getElem hm) (List.getElem?_eq_getElem hmv)
    rw [List.getD_eq_getElem?_getD,List.getElem?_eq_getElem hm]
    have h3:(vs.toArray++Array.replicate (fn.ntmps - vs.toArray.size) undef).getD n undef = vs[n]:=by
     rw [Array.getD_eq_getD_getElem?,Array.getElem?_append_left (by simpa using hmv)]
     simp [hmv]
    rw [h3]
    refine Rel.im (h2.mono fun k hk=>?_)
    rcases hk with hk | ⟨m,hm',_⟩
    ·exact hk
    ·exact absurd hm' (hNm m)
   ·rw [List.getD_eq_getElem?_getD,List.getElem?_eq_none (by omega)]
    exact Rel.x
  ·show (vs.toArray++Array.replicate (fn.ntmps - vs.toArray.size) undef).size = N
   simp only [Array.size_append,List.size_toArray,Array.size_replicate,hN,hsz]
   omega
 refine hvc.ok w Fr.none O _ _ _ (fun e s a w' hq ⟨β,hI'⟩=>?_) ⟨_,hI⟩
 have key:retK Γ s rs.toList (fun v=>v = r)→a.defers = []∧∃ v,(results fn a.tmps).run P w' = .ok v w'∧∃ v',Ending.returned v = .returned v'∧Stp (fun _=>False) w w'∧Im O w' r v':=by
  intro h
  rw [← hrs] at h
  obtain ⟨v,u,rfl,h1,h2⟩:=ret_ok hΓ hI' h
  exact ⟨hI'.defers,u,h2,u,rfl,hI'.ext,h1⟩
 cases e with
 | normal=>exact key hq
 | ret=>exact key hq
 | _=>exact hq.elim
end
end Go.SX
end
section
namespace Go.Proofs.YtdcdmojbkmedpaaDoor
open Go Go.SX Go.Bg
set_option maxRecDepth 100000
set_option maxHeartbeats 2000000
section
variable [G:Globs]
theorem w_add (a b:List Int) (ha:Dg 4294967296 a) (hb:Dg 4294967296 b) (hla:a.length≤1000000) (hlb:b.length≤1000000):VCs Tryd.prog Γ 53 [0,1,4,5,6,7,8,9,14,21,22,23,24,31] (Tryd.f233.body.getD .skip) (postK Γ [.tmp 4] (fun v=>v = .rd .u32 (dg 4294967296 (vl 4294967296 a + vl 4294967296 b)))) ⟨argSlots 0 [.rd .u32 a,.rd .u32 b],[]⟩:=by
 refine VCs.seq (by first | exact Γ_good | exact Ctx.good_kp Γ_good _) ?_
 refine VCs.cut (by first | exact Γ_good | exact Ctx.good_kp Γ_good _) (List Int × List Int) (fun x=>Dg 4294967296 x.1∧Dg 4294967296 x.2∧x.1.length≤1000000∧x.2.length≤x.1.length∧vl 4294967296 x.1 + vl 4294967296 x.2 = vl 4294967296 a + vl 4294967296 b) (fun ⟨x,y⟩=>⟨[(0,.rd .u32 x),(1,.rd .u32 y)],[]⟩) ?_ ?_
 ·intro _
  intro _
  refine aN (fun hc=>?_) (fun hc=>?_)
  ·have hc:a.length < b.length:=by simpa using hc
   refine eX (b,a) (aN ⟨hb,ha,hlb,by dsimp only; omega,Nat.add_comm _ _⟩ ?_)
   (repeat' (first | exact trivial | exact Or.inl rfl | exact Or.inr (Or.inl ⟨rfl,_,rfl⟩) | exact Or.inr (Or.inr (Or.inr ⟨_,_,_,rfl,rfl⟩)) | refine aN ?_ ?_))
  ·have hc:b.length≤a.length:=by simpa using hc
   refine eX (a,b) (aN ⟨ha,hb,hla,hc,rfl⟩ ?_)
   (repeat' (first | exact trivial | exact Or.inl rfl | exact Or.inr (Or.inl ⟨rfl,_,rfl⟩) | exact Or.inr (Or.inr (Or.inr ⟨_,_,_,rfl,rfl⟩)) | refine aN ?_ ?_))
 rintro ⟨x,y⟩ ⟨hx,hy,hl,hyl,hv⟩
 dsimp only at hx hy hl hyl hv
 refine VCs.of_vc (by first | exact Γ_good | exact Ctx.good_kp Γ_good _) ?_
 intro _
 (refine rNG ?_)
 refine aN ⟨by omega,by omega,by omega,by show (x.length + 1) * 4≤_; omega⟩ ?_
 intro _
 refine eX [] (eX [] (eX [] (eX (List Int × Nat) (eX (fun s=>Dg 4294967296 s.1∧s.1.length≤x.length∧s.2≤1∧vl 4294967296 s.1 + 4294967296 ^ s.1.length * s.2 = vl 4294967296 (x.take s.1.length) + vl 4294967296 (y.take s.1.length)) (eX (fun ⟨o,c⟩=>⟨[(1,.rd .u32 y),(5,.vec 20 .u32 o),(6,.i .u32 c),(21,.rd .u32 x),(22,.i .i64 x.length),(23,.i .i64 o.length)],[]⟩) (eX (fun s=>x.length - s.1.length) (eX ([],0) (aN ⟨Dg.nil _,Nat.zero_le _,Nat.zero_le _,by simp [vl]⟩ (aN ?_ ?_)))))))))
 ·(repeat' (first | exact trivial | exact Or.inl rfl | exact Or.inr (Or.inl ⟨rfl,_,rfl⟩) | exact Or.inr (Or.inr (Or.inr ⟨_,_,_,rfl,rfl⟩)) | refine aN ?_ ?_))
 ·rintro ⟨o,c⟩ ⟨h1,h2,h3,h4⟩
  dsimp only at h1 h2 h3 h4
  refine aN (fun hc=>?_) (fun hc=>?_)
  ·have hk:o.length < x.length:=by simpa using hc
   obtain ⟨u,hu,hul,hun⟩:=get32 hx o.length
   have e13:∀ t:Int,(o.length:Int) + 1 = ((o++[t]).length:Int):=fun t=>by simp
   have nx:∀ w:Nat,w < 4294967296→y.getD o.length 0 = w→Dg 4294967296 (o++[(((u + w + c) % 4294967296:Nat):Int)])∧(u + w + c) / 4294967296≤1∧vl 4294967296 (o++[(((u + w + c) % 4294967296:Nat):Int)]) + 4294967296 ^ (o++[(((u + w + c) % 4294967296:Nat):Int)]).length * ((u + w + c) / 4294967296) = vl 4294967296 (x.take (o++[(((u + w + c) % 4294967296:Nat):Int)]).length) + vl 4294967296 (y.take (o++[(((u + w + c) % 4294967296:Nat):Int)]).length):=fun w hwl hw=>by
    refine ⟨h1.snoc ⟨by omega,by omega⟩,by omega,?_⟩
    rw [List.length_append,List.length_singleton,vl_take_succ,vl_take_succ,vl_snoc,hun,hw,Int.toNat_natCast,Int.toNat_natCast,Nat.pow_succ]
    exact dig_add h4 (by omega)
   refine bN2 ?_
   intro _
   refine aN (fun hd=>?_) (fun hd=>?_)
   ·have hd:o.length < y.length:=by simpa using hd
    obtain ⟨w,hw,hwl,_⟩:=get32 hy o.length
    have nx:=nx w hwl hw
    have q:=s_add32 u w c hul hwl h3
    rw [← hu,← hw] at q
    refine bN2 ?_
    refine Or.inl (eX _ (aN (q) ?_))
    refine aN (by show (o.length + 1) * 4≤_; omega) ?_
    (refine rNG ?_)
    refine eX [(46,20)] (eX (o++[(((u + w + c) % 4294967296:Nat):Int)],(u + w + c) / 4294967296) (aN ⟨nx.1,by simp; omega,nx.2.1,nx.2.2⟩ (aN ?_ ?_)))
    ·(repeat' (first | exact trivial | exact Or.inl rfl | exact Or.inl ((by first | exact congrArg (AV.i .i64) (e13 _))) | refine aN ?_ ?_))
    ·show x.length - (o++[_]).length < x.length - o.length
     simp; omega
   ·have hd:y.length≤o.length:=by simpa using hd
    obtain ⟨w,hw,hwl⟩:=get32' hy o.length hd
    subst hwl
    have nx:=nx 0 (by decide) hw
    have q:=s_add32 u 0 c hul (by decide) h3
    rw [← hu] at q
    refine Or.inl (eX _ (aN (q) ?_))
    refine aN (by show (o.length + 1) * 4≤_; omega) ?_
    (refine rNG ?_)
    refine eX [(46,20)] (eX (o++[(((u + 0 + c) % 4294967296:Nat):Int)],(u + 0 + c) / 4294967296) (aN ⟨nx.1,by simp; omega,nx.2.1,nx.2.2⟩ (aN ?_ ?_)))
    ·(repeat' (first | exact trivial | exact Or.inl rfl | exact Or.inl ((by first | exact congrArg (AV.i .i64) (e13 _))) | refine aN ?_ ?_))
    ·show x.length - (o++[_]).length < x.length - o.length
     simp; omega
  · have hk : o.length = x.length := by have : ¬ (o.length : Int) < (x.length : Int) := of_decide_eq_false hc
                                        omega
    rw [hk,List.take_length,List.take_of_length_le hyl,hv] at h4
    refine aN (by show (o.length + 1) * 4≤_; omega) ?_
    have h5:Dg 4294967296 (o++[(c:Int)]):=h1.snoc ⟨by omega,by omega⟩
    have h6:vl 4294967296 (o++[(c:Int)]) = vl 4294967296 a + vl 4294967296 b:=by rw [vl_snoc,Int.toNat_natCast,hk,h4]
    refine Or.inl (eX _ (aN (s_trimmed _ h5) ?_))
    exact congrArg (fun n=>AV.rd .u32 (dg 4294967296 n)) h6
theorem s_add (a b:List Int) (ha:Dg 4294967296 a) (hb:Dg 4294967296 b) (hla:a.length≤1000000) (hlb:b.length≤1000000):PSpec Tryd.prog 233 [.rd .u32 a,.rd .u32 b] (.rd .u32 (dg 4294967296 (vl 4294967296 a + vl 4294967296 b))) :=
 pspec_of_VCs Γ_good Tryd.func233 rfl Tryd.call233 Tryd.results233 Tryd.ntmps233 (Nat.le_of_ble_eq_true rfl) (w_add a b ha hb hla hlb) Γ_good
end
end Go.Proofs.YtdcdmojbkmedpaaDoor
end
section
namespace Go.SX
variable [Globs]
def Kept (A:Nat) (a a':Act):Prop:=∀ j,j < A→a'.tmps.getD j undef = a.tmps.getD j undef
theorem Kept.refl (A:Nat) (a:Act):Kept A a a:=fun _ _=>rfl
theorem Kept.trans {A:Nat} {a b c:Act} (h:Kept A a b) (h2:Kept A b c):Kept A a c:=fun j hj=>(h2 j hj).trans (h j hj)
def dstOK (A:Nat) (o:Oper):Bool:=match o.dst with
 | none=>true
 | some d=>Nat.ble A d
theorem kept_put {A:Nat} {o:Oper} (h:dstOK A o = true) (a:Act) (v:Value):Kept A a (a.put o.dst v):=by
 intro j hj
 unfold dstOK at h
 cases hd:o.dst with
 | none=>rfl
 | some d =>
  rw [hd] at h
  have h2:A≤d:=Nat.le_of_ble_eq_true (show Nat.ble A d = true from h)
  have hne:¬ d = j:=fun e=>absurd (e ▸ h2:A≤j) (Nat.not_le_of_lt hj)
  simp only [Act.put,Array.getD_eq_getD_getElem?,Array.getElem?_setIfInBounds]
  rw [if_neg hne]
def keepsB (A:Nat):Code→Bool
 | .skip=>true
 | .region _ ops _=>ops.toList.all (dstOK A)
 | .seq x y=>keepsB A x && keepsB A y
 | .cond _ x y=>keepsB A x && keepsB A y
 | .block _ c=>keepsB A c
 | .loop c=>keepsB A c
 | .exit _=>true
 | .ret=>true
 | .label _=>true
 | _=>false
section
variable {P:Program} {N:Nat} {Γ:Ctx} {W0:World} {F:Fr} {X:Nat→Prop} {s:St} {β:Nat→Option Nat} {a:Act} {w:World} {A:Nat} {a0:Act}
def QK (A:Nat) (a0:Act) (Q:Exit→Act→World→Prop) (e:Exit) (a':Act) (w':World):Prop:=Q e a' w'∧(e = .normal→Kept A a0 a')
theorem letsOut_qk {Q:Exit→Act→World→Prop} (h:LetsOut Q):LetsOut (QK A a0 Q):=by
 obtain ⟨a,w,h⟩:=h
 exact ⟨a,w,h,fun h=>by cases h⟩
theorem wp_keep {o:Oper} {K:Act→World→Prop} {Q:Exit→Act→World→Prop} (hk:Kept A a0 a) (hd:dstOK A o = true) (hh:o.wp P a w K Q):o.wp P a w (fun a' w'=>K a' w'∧Kept A a0 a') (QK A a0 Q):=by
 unfold Oper.wp at *
 generalize (execOp a.eval o).run P w = r at *
 have hp:∀ v,Kept A a0 (a.put o.dst v):=fun v=>hk.trans (kept_put hd a v)
 cases r with
 | ok n w' =>
  cases n<;>simp only [Oper.upon] at hh ⊢
  all_goals first
   | exact ⟨hh,hp _⟩
   | exact ⟨hh,hk.trans (fun j hj=>(kept_put hd { a with defers:=_ } _ j hj))⟩
   | exact Calls.mono hh (fun e w'' he=>by cases e<;>first | exact ⟨he,hp _⟩ | exact ⟨he,fun h=>by cases h⟩ | exact letsOut_qk he)
   | exact Rows.mono hh (fun _ _ he=>⟨he,hp _⟩)
 | halt x w'=>cases x<;>simp only [Oper.upon] at hh ⊢ <;> first | exact ⟨hh,fun h=>by cases h⟩ | exact hh
theorem wpList_keep {ops:Array Oper} {Q:Exit→Act→World→Prop}:∀ (l:List Oper),(∀ o ∈ l,dstOK A o = true)→∀ (a:Act) (w:World),Kept A a0 a→wpList P ops Q l a w→wpList P ops (QK A a0 Q) l a w
 | [],_,a,w,hk,h=>⟨h,fun _=>hk⟩
 | o::r,hl,a,w,hk,h=>by
  have hd:=hl o (List.mem_cons_self ..)
  have ih:=wpList_keep (ops:=ops) (Q:=Q) r (fun o ho=>hl o (List.mem_cons_of_mem _ ho))
  unfold wpList at h ⊢
  split
  ·rename_i hw
   rw [if_pos hw] at h
   rcases h with h | ⟨h1,h2⟩
   ·exact .inl (Oper.wp_mono (fun a' w' h=>ih a' w' h.2 h.1) (wp_keep hk hd h))
   ·exact .inr ⟨h1,letsOut_qk h2⟩
  ·rename_i hw
   rw [if_neg hw] at h
   exact ih _ _ (hk.trans (kept_put hd a undef)) h
theorem wpAny_keep {ops:Array Oper} {md:Region.Mode} {Q:Exit→Act→World→Prop} (hl:∀ (i:Nat) o,ops[i]? = some o→dstOK A o = true):∀ (fuel:Nat) (listed:Array Bool) (a:Act) (w:World),Kept A a0 a→wpAny P md ops Q fuel listed a w→wpAny P md ops (QK A a0 Q) fuel listed a w
 | 0,listed,a,w,hk,h=>⟨h.1,h.2,fun _=>hk⟩
 | fuel + 1,listed,a,w,hk,h=>by
  refine ⟨fun hr=>⟨h.1 hr,fun _=>hk⟩,fun i hi=>?_⟩
  have h:=h.2 i hi
  unfold wpOp at h ⊢
  cases ho:ops[i]? with
  | none =>
   rw [ho] at h
   exact wpAny_keep hl fuel _ a w hk h
  | some o =>
   rw [ho] at h
   have hd:=hl i o ho
   simp only at h ⊢
   split
   ·rename_i hw
    rw [if_pos hw] at h
    rcases h with h | ⟨h1,h2⟩
    ·exact .inl (Oper.wp_mono (fun a' w' h=>wpAny_keep hl fuel _ a' w' h.2 h.1) (wp_keep hk hd h))
    ·exact .inr ⟨h1,letsOut_qk h2⟩
   ·rename_i hw
    rw [if_neg hw] at h
    exact wpAny_keep hl fuel _ _ w (hk.trans (kept_put hd a undef)) h
theorem vc_ok_keep (hΓ:Γ.good P) {L:List Nat} (c:Code):∀ (Q:Exit→St→Prop) (Q':Exit→Act→World→Prop) (s:St) (a:Act) (w:World),keepsB A c = true→(∀ e s a w,Q e s→Inv W0 F X N s a w→Kept A a0 a→Q' e a w)→vc P Γ N L c Q s→Inv W0 F X N s a w→Kept A a0 a→c.wp P Q' a w:=by
 induction c with
 | skip=>intro Q Q' s a w hc hQ h hI hk; exact wp_skip (hQ _ _ _ _ h hI hk)
 | region id ops draw =>
  intro Q Q' s a w hc hQ h hI hk
  have hl:∀ o ∈ ops.toList,dstOK A o = true:=List.all_eq_true.1 hc
  let Q2:Exit→Act→World→Prop:=fun e a w=>e = .normal∧∃ s',Q .normal s'∧Inv W0 F X N s' a w
  have hend:∀ e a' w',QK A a0 Q2 e a' w'→Q' e a' w':=fun e a' w' ⟨⟨he,s',h1,h2⟩,h3⟩=>by
   subst he
   exact hQ _ _ _ _ h1 h2 (h3 rfl)
  cases draw with
  | true =>
   obtain ⟨pl,hpl,h⟩:=(show ∃ pl,planOK ops pl = true∧vcPlan P Γ N ops.toList pl [] s fun s=>stKeepK L s (Q .normal) from h)
   simp only [planOK,Bool.and_eq_true,decide_eq_true_eq] at hpl
   obtain ⟨⟨h1,h2⟩,h3⟩:=hpl
   obtain ⟨β,hI⟩:=hI
   have hdr:Inv W0 F X N s a { w with drawn:=w.drawn + 1 }:=⟨β,hI.grow ⟨rfl,rfl,rfl,Nat.le_refl _,fun _ _ _=>rfl⟩⟩
   refine wp_mono (Q:=QK A a0 Q2) (wp_region_any hΓ.mixed (wpAny_keep (fun i o ho=>hl o (by rw [← Array.getElem?_toList] at ho; exact List.mem_of_getElem? ho)) _ _ _ _ hk (plan_ok hΓ (fun s a w hk ⟨β,hI⟩=>by
    obtain ⟨s',h1,h2⟩:=keep_ok hI hk
    exact ⟨rfl,s',h1,β,h2⟩) (fun c a a' w h=>by cases h.1) h1 pl _ [] s ops.size a _ (by simp) h2 h3 h hdr))) hend
  | false =>
   refine wp_mono (Q:=QK A a0 Q2) (wp_region_list (wpList_keep ops.toList hl a w hk ?_)) hend
   have:=vcOps_ok hΓ (Q':=Q2) (fun s a w hk ⟨β,hI⟩=>by
    obtain ⟨s',h1,h2⟩:=keep_ok hI hk
    exact ⟨rfl,s',h1,β,h2⟩) ops.toList [] s a w h hI
   simpa using this
 | seq x y ihx ihy =>
  intro Q Q' s a w hc hQ h hI hk
  simp only [keepsB,Bool.and_eq_true] at hc
  refine wp_seq (ihx _ _ s a w hc.1 (fun e s' a' w' hq hI' hk'=>?_) h hI hk)
  cases e with
  | normal=>exact ihy Q Q' s' a' w' hc.2 hQ hq hI' hk'
  | _=>exact hQ _ _ _ _ hq hI' hk'
 | cond c x y ihx ihy =>
  intro Q Q' s a w hc hQ h hI hk
  simp only [keepsB,Bool.and_eq_true] at hc
  have h:evK s c fun v=>match v with
   | .b t=>(t = true→vc P Γ N L x Q s)∧(t = false→vc P Γ N L y Q s)
   | _=>False:=h
  rw [evK_eq] at h
  obtain ⟨β,hI⟩:=hI
  have hr:=(ev_rel hI c).1
  cases hv:ev s c with
  | b t =>
   rw [hv] at h hr
   exact wp_cond_split hr.inv_b (fun ht=>ihx Q Q' s a w hc.1 hQ (h.1 ht) ⟨β,hI⟩ hk) (fun ht=>ihy Q Q' s a w hc.2 hQ (h.2 ht) ⟨β,hI⟩ hk)
  | _=>rw [hv] at h; exact h.elim
 | block id c ih =>
  intro Q Q' s a w hc hQ h hI hk
  refine wp_block (ih _ _ s a w hc (fun e s' a' w' hq hI' hk'=>?_) h hI hk)
  cases e with
  | exit id' =>
   have hq:bif Nat.beq id' id then Q .normal s' else Q (.exit id') s':=hq
   cases hb:Nat.beq id' id with
   | true =>
    rw [hb] at hq
    have hq1:Q .normal s':=hq
    have e:=Nat.eq_of_beq_eq_true hb
    subst e
    simp only [Exit.inBlock,if_true]
    exact hQ _ _ _ _ hq1 hI' hk'
   | false =>
    rw [hb] at hq
    have hne:id'≠id:=fun e=>by subst e; rw [Nat.beq_refl] at hb; cases hb
    simp only [Exit.inBlock,hne,if_false]; exact hQ _ _ _ _ hq hI' hk'
  | _=>exact hQ _ _ _ _ hq hI' hk'
 | loop c ih =>
  intro Q Q' s a w hc hQ h ⟨β,hI⟩ hk
  obtain ⟨cv,cb,rn,h⟩:=(show LoopVC N (vc P Γ N L c) Q s from h)
  obtain ⟨s00,β00,h,hI00⟩:=nlVec_ok cv hI h
  obtain ⟨s0,β0,h,hI0⟩:=nlBox_ok cb hI00 h
  obtain ⟨s1,β1,⟨σ,I,S,μ,x,hix,hwk,hround⟩,hI1⟩:=renSt_ok rn hI0 h
  refine wp_loop' (fun x a w=>(I x∧Inv W0 F X N (S x) a w)∧Kept A a0 a) μ (fun x a w hIx=>?_) (x:=x) ⟨⟨hix,β1,hI1.wk hwk⟩,hk⟩
  refine ih _ _ (S x) a w hc (fun e s' a' w' hq hI' hk'=>?_) (hround x hIx.1.1) hIx.1.2 hIx.2
  cases e with
  | normal =>
   obtain ⟨rn,hq⟩:=hq
   obtain ⟨β',hI'⟩:=hI'
   obtain ⟨s2,β2,⟨x',h0,h1,h2⟩,hI2⟩:=renSt_ok rn hI' hq
   exact ⟨x',⟨⟨h0,β2,hI2.wk h1⟩,hk'⟩,h2⟩
  | _=>exact hQ _ _ _ _ hq hI' hk'
 | exit id=>intro Q Q' s a w _ hQ h hI hk; exact wp_exit (hQ _ _ _ _ h hI hk)
 | ret=>intro Q Q' s a w _ hQ h hI hk; exact wp_ret (hQ _ _ _ _ h hI hk)
 | label l=>intro Q Q' s a w _ hQ h hI hk; exact wp_label (hQ _ _ _ _ h hI hk)
 | _=>intro Q Q' s a w hc; exact absurd hc (by simp [keepsB])
def endMK (Γ:Ctx) (rs:List ResultVar) (r:AV) (j:Nat) (g:AV) (boxes':List (Nat × List AV)) (s:St):Prop :=
 retK Γ s rs (fun v=>chkK (grB v) (v = r))∧∃ rn,renStK rn s fun s=>lookK s.slots j (fun v=>v = g)∧wkB s boxes'
def postMK (Γ:Ctx) (rs:List ResultVar) (r:AV) (j:Nat) (g:AV) (boxes':List (Nat × List AV)) (e:Exit) (s:St):Prop :=
 match e with
 | .normal=>endMK Γ rs r j g boxes' s
 | .ret=>endMK Γ rs r j g boxes' s
 | _=>False
theorem cspecM_of_vc (hΓ : Γ.good P) {f : FuncId} {fn : Func} {c : Code} (hf : P.funcs[f]? = some fn) (hb : fn.body = some c) (hcall : ∀ (vs : Array Value) (w : World), (callFunc f vs).run P w = .ok (.enter f vs) w)
  {rs:Array ResultVar} (hrs:fn.results = rs) (hN:fn.ntmps = N) {args:List AV} {boxes:List (Nat × List AV)} {r:AV} {j:Nat} {g:AV} {boxes':List (Nat × List AV)} {L:List Nat} (hlen:args.length≤N) (hN1:1≤N)
  (hlow:(boxNames boxes).all (fun n=>Nat.ble N n) = true) (hj:j < args.length) (hkeep:keepsB args.length c = true) (hvc:vc P Γ N L c (postMK Γ rs.toList r j g boxes') ⟨argSlots 0 args,boxes⟩):CSpecM P f args boxes r j g boxes':=by
 refine ⟨hcall,fun F X β w vs hvs hpin hI0=>?_⟩
 refine calls_of_wp hf hb ?_
 have hget:∀ n,n < vs.length→(vs.toArray++Array.replicate (fn.ntmps - vs.toArray.size) undef).getD n undef = vs.toArray.getD n undef:=fun n hm=>by
  simp only [Array.getD_eq_getD_getElem?]
  rw [Array.getElem?_append_left (by simpa using hm)]
 have hpad:∀ n,(vs.toArray++Array.replicate (fn.ntmps - vs.toArray.size) undef).getD n undef = vs.toArray.getD n undef∨look (argSlots 0 args) n = .x:=fun n=>by
  by_cases hm:n < vs.length
  ·exact .inl (hget n hm)
  ·right
   have h1:=look_args args 0 n
   rw [Nat.zero_add] at h1
   rw [h1,List.getD_eq_getElem?_getD,List.getElem?_eq_none (by omega)]
   rfl
 have hI:InvB w F X N ⟨argSlots 0 args,boxes⟩ β { tmps:=vs.toArray++Array.replicate (fn.ntmps - vs.toArray.size) undef,defers:=[] } w:=by
  refine ⟨hI0.ext,fun n=>?_,?_,hI0.boxes,hI0.inj,hI0.own,hI0.defers,hI0.ext2,hI0.pin,fun n hn=>?_,hI0.gl⟩
  ·rcases hpad n with h1 | h1
   ·show Rel _ _ _ _ ((vs.toArray++Array.replicate (fn.ntmps - vs.toArray.size) undef).getD n undef)
    rw [h1]; exact hI0.slots n
   ·show Rel _ _ _ (look (argSlots 0 args) n) _
    rw [h1]; exact Rel.x
  ·simp only [Array.size_append,List.size_toArray,Array.size_replicate,hN,hvs]
   omega
  ·cases hp:F.pin n with
   | none=>rfl
   | some g =>
    have h1:=boxNames_mem.2 (hpin n g hp)
    have:=Nat.le_of_ble_eq_true (List.all_eq_true.1 hlow n h1)
    omega
 refine vc_ok_keep (W0:=w) (F:=F) (X:=X) (A:=args.length) (a0:={ tmps:=vs.toArray++Array.replicate (fn.ntmps - vs.toArray.size) undef,defers:=[] }) hΓ c _ _ _ _ _ hkeep (fun e s a w' hq ⟨β',hI'⟩ hk=>?_) hvc ⟨_,hI⟩ (Kept.refl _ _)
 have key:endMK Γ rs.toList r j g boxes' s→a.defers = []∧∃ v,(results fn a.tmps).run P w' = .ok v w'∧∃ v' u β'',Ending.returned v = .returned v'∧vs[j]? = some u∧grB r = true∧Im (fun _=>False) w' r v'∧InvB w F X 1 ⟨[(0,g)],boxes'⟩ β'' ⟨#[u],[]⟩ w':=by
  rintro ⟨h,rn,h2⟩
  rw [← hrs] at h
  obtain ⟨v,u,hv,k1,k2⟩:=ret_ok hΓ hI' h
  obtain ⟨hg,rfl⟩:=(chkK_iff _ _).1 hv
  obtain ⟨s1,β1,⟨h3,hwk⟩,hI1⟩:=renSt_ok rn hI' h2
  rw [lookK_eq] at h3
  have hju:a.tmps.getD j undef = vs[j]'(by omega):=by
   rw [hk j hj]
   show (vs.toArray++Array.replicate (fn.ntmps - vs.toArray.size) undef).getD j undef = _
   rw [hget j (by omega)]
   have hm:j < vs.length:=by omega
   simp [hm]
  have hd:F.dfr = []:=hI0.defers.symm
  refine ⟨hI'.defers.trans hd,u,k2,u,_,β1,rfl,List.getElem?_eq_getElem (by omega),hg,gr_im hg k1,?_⟩
  have hr:=hI1.slots j
  rw [h3,hju] at hr
  have hrn:∀ n ∈ ids g,Nm s1 n:=fun n hn=>.inr (.inl ⟨j,by rw [h3]; exact hn⟩)
  have hNm:∀ n,Nm ⟨[(0,g)],boxes'⟩ n→Nm s1 n:=by
   rintro n (⟨cs,hc⟩ | ⟨q,hq⟩ | ⟨b,cs,hb,c,hc,hn⟩)
   ·obtain ⟨us',hu',_⟩:=wkB_look hwk n cs hc
    exact .inl ⟨us',hu'⟩
   ·simp only [look] at hq
    cases hb:Nat.beq 0 q with
    | true=>rw [hb] at hq; exact hrn n hq
    | false=>rw [hb] at hq; cases hq
   ·obtain ⟨us',hu',hw⟩:=wkB_look hwk b cs hb
    obtain ⟨g,us2,e,k1,k2,k3⟩:=hI1.boxes b us' hu'
    obtain ⟨u',hu2,hn'⟩:=(wkC_rel hw k3).2 c hc n hn
    exact .inr (.inr ⟨b,us',hu',u',hu2,hn'⟩)
  have hO:∀ k,Own X ⟨[(0,g)],boxes'⟩ β1 k→Own X s1 β1 k:=fun k hk=>hk.imp id fun ⟨n,hn,hb⟩=>⟨n,hNm n hn,hb⟩
  refine ⟨hI1.ext,fun n=>?_,rfl,fun n cs hc=>?_,fun n m g hn hm=>hI1.inj n m g (hNm n hn) (hNm m hm),fun n g hn hg=>hI1.own n g (hNm n hn) hg,hd.symm,hI1.ext2,fun n cs g hc hp=>?_,fun n hn=>hI1.pinN n (by omega),hI1.gl⟩
  ·simp only [look]
   cases hb:Nat.beq 0 n with
   | true=>have:=Nat.eq_of_beq_eq_true hb; subst this; exact hr.mono hO
   | false=>exact Rel.x
  ·obtain ⟨us',hu',hw⟩:=wkB_look hwk n cs hc
   obtain ⟨g,us2,e,k1,k2,k3⟩:=hI1.boxes n us' hu'
   exact ⟨g,us2,e,k1,k2,(wkC_rel hw k3).1.mono fun _ _ _ _ hr=>⟨hr.1.mono hO,hr.2⟩⟩
  ·obtain ⟨us',hu',_⟩:=wkB_look hwk n cs hc
   exact hI1.pin n us' g hu' hp
 cases e with
 | normal=>exact key hq
 | ret=>exact key hq
 | _=>exact hq.elim
end
end Go.SX
end
section
namespace Go.Proofs.YtdcdmojbkmedpaaDoor
open Go Go.SX Go.Bg
set_option maxRecDepth 100000
set_option maxHeartbeats 2000000
def win (l:List Int) (a n:Nat):List Int:=(l.drop a).take n
theorem take_val {q y c : Nat} (hq : q < 4294967296) (hy : y < 4294967296) (hc : c < 4294967296) :
  IntKind.u64.wrap ((c:Int) + IntKind.u64.wrap ((q:Int) * IntKind.u64.wrap (y:Int))) = ((c + q * y:Nat):Int)∧(c + q * y) / 4294967296 < 4294967296:=by
 have hqy:q * y≤4294967295 * 4294967295:=Nat.mul_le_mul (by omega) (by omega)
 have e1:IntKind.u64.wrap (y:Int) = y:=by rw [IntKind.wrap_u64]; omega
 rw [e1,show (q:Int) * (y:Int) = ((q * y:Nat):Int) from rfl]
 generalize q * y = p at hqy
 constructor
 ·simp only [IntKind.wrap_u64]; omega
 ·omega
theorem win_get (l:List Int) (a k:Nat):(l.drop a).getD k 0 = l.getD (a + k) 0:=by
 rw [List.getD_eq_getElem?_getD,List.getElem?_drop,← List.getD_eq_getElem?_getD]
section
variable [G:Globs]
theorem w_takes (l v:List Int) (a b q:Nat) (hl:Dg 4294967296 l) (hv:Dg 4294967296 v) (hab:a + (v.length + 1) = b) (hb:b≤l.length) (hll:l.length≤1000000) (hq:q < 4294967296):vc Tryd.prog Γ 47 [0,1,2,6,7,8,9,11,12,13,18,1000] (Tryd.f268.body.getD .skip) (postMK Γ [.tmp 6] (.b (decide (vl 4294967296 (win l a (v.length + 1)) < q * vl 4294967296 v))) 0 (.ob 1000 1000 (.vw .u32 (wn l a (fx 4294967296 (v.length + 1) (vl 4294967296 (win l a (v.length + 1)) + 4294967296 ^ (v.length + 1) - q * vl 4294967296 v))) a b)) []) ⟨argSlots 0 [.ob 1000 1000 (.vw .u32 l a b),.rd .u32 v,.i .u64 q],[]⟩:=by
 intro _
 refine eX [] (eX [] (eX [] (eX (List Int × Nat × Nat) (eX (fun s=>Dg 4294967296 s.1∧s.1.length≤v.length + 1∧s.2.1≤1∧s.2.2 < 4294967296∧(v.length < s.1.length→s.2.2 = 0)∧vl 4294967296 ((l.drop a).take s.1.length) + 4294967296 ^ s.1.length * (s.2.1 + s.2.2) = vl 4294967296 s.1 + q * vl 4294967296 (v.take s.1.length)) (eX (fun ⟨d,r,c⟩=>⟨[(0,.ob 1000 1000 (.vw .u32 (wn l a d) a b)),(1,.rd .u32 v),(2,.i .u64 q),(7,.i .u64 c),(8,.i .u32 r),(11,.i .i64 ((b - a:Nat):Int)),(12,.i .i64 d.length)],[]⟩) (eX (fun s=>v.length + 1 - s.1.length) (eX ([],0,0) (aN ⟨Dg.nil _,Nat.zero_le _,Nat.zero_le _,by decide,by simp,by simp [vl]⟩ (aN ?_ ?_)))))))))
 ·(repeat' (first | exact trivial | exact Or.inl rfl | exact Or.inl ((by rw [wn_nil])) | refine aN ?_ ?_))
 ·rintro ⟨d,r,c⟩ ⟨h1,h2,h3,h4,h5,h6⟩
  dsimp only at h1 h2 h3 h4 h5 h6
  refine aN (fun hc=>?_) (fun hc=>?_)
  · have hk : d.length < v.length + 1 := by have : (d.length : Int) < ((b - a : Nat) : Int) := of_decide_eq_true hc
                                            omega
    have hwl:(wn l a d).length = l.length:=wn_len (by omega)
    have e5:∀ t:Int,(wn l a d).set (a + d.length) t = wn l a (d++[t]):=wn_set (by omega)
    have e13:∀ t:Int,(d.length:Int) + 1 = ((d++[t]).length:Int):=fun t=>by simp
    obtain ⟨x,hx,hxl,hxn⟩:=get32 hl (a + d.length)
    have hwg:(wn l a d).getD (a + d.length) 0 = x:=by rw [wn_get (by omega),hx]
    have nx:∀ p y:Nat,q * (v.getD d.length 0).toNat = y→p = c + y→p / 4294967296 < 4294967296→(v.length≤d.length→p / 4294967296 = 0)→Dg 4294967296 (d++[(((x + 8589934592 - p % 4294967296 - r) % 4294967296:Nat):Int)])∧(if x < p % 4294967296 + r then 1 else 0)≤1∧(v.length < (d++[(((x + 8589934592 - p % 4294967296 - r) % 4294967296:Nat):Int)]).length→p / 4294967296 = 0)∧vl 4294967296 ((l.drop a).take (d++[(((x + 8589934592 - p % 4294967296 - r) % 4294967296:Nat):Int)]).length) + 4294967296 ^ (d++[(((x + 8589934592 - p % 4294967296 - r) % 4294967296:Nat):Int)]).length * ((if x < p % 4294967296 + r then 1 else 0) + p / 4294967296) = vl 4294967296 (d++[(((x + 8589934592 - p % 4294967296 - r) % 4294967296:Nat):Int)]) + q * vl 4294967296 (v.take (d++[(((x + 8589934592 - p % 4294967296 - r) % 4294967296:Nat):Int)]).length):=fun p y hy hp hpl hpz=>by
     refine ⟨h1.snoc ⟨by omega,by omega⟩,by split<;>omega,fun h=>hpz (by simpa using Nat.le_of_lt_succ (by simpa using h)),?_⟩
     rw [List.length_append,List.length_singleton,vl_take_succ,vl_take_succ,vl_snoc,win_get,hxn,Int.toNat_natCast,Nat.pow_succ,Nat.mul_add q,Nat.mul_left_comm q,hy]
     exact dig_sub h6 (by split<;>omega)
    intro _
    refine aN (fun hd=>?_) (fun hd=>?_)
    ·have hd:d.length < v.length:=by simpa using hd
     obtain ⟨y,hy,hyl,hyn⟩:=get32 hv d.length
     obtain ⟨tv,tl⟩:=take_val hq hyl h4
     obtain ⟨p,hp⟩:∃ p,p = c + q * y:=⟨_,rfl⟩
     rw [← hp] at tv tl
     have nx:=nx p (q * y) (by rw [hyn]) hp tl (fun h=>by omega)
     have qs:=s_sub32 x (p % 4294967296) r hxl (Nat.mod_lt _ (by decide)) h3
     rw [← hy] at tv
     rw [← w32 p,← tv,← hwg] at qs
     refine bN2 ?_
     refine bN2 ?_
     refine Or.inl (eX _ (aN (qs) ?_))
     refine bN2 ?_
     refine aN (by decide) ?_
     (refine rNG ?_)
     refine eX [] (eX (d++[(((x + 8589934592 - p % 4294967296 - r) % 4294967296:Nat):Int)],(if x < p % 4294967296 + r then 1 else 0),p / 4294967296) (aN ⟨nx.1,by simp; omega,nx.2.1,tl,nx.2.2.1,nx.2.2.2⟩ (aN ?_ ?_)))
     ·(repeat' (first | exact trivial | exact Or.inl rfl | exact Or.inl ((by first | exact congrArg (fun z=>AV.ob 1000 1000 (.vw .u32 z a b)) (e5 _) | exact congrArg (AV.i .i64) (e13 _) | exact congrArg (AV.i .u64) (by rw [← shr32,← tv]; rfl))) | refine aN ?_ ?_))
     ·show v.length + 1 - (d++[_]).length < v.length + 1 - d.length
      simp; omega
    ·have hd:v.length≤d.length:=by simpa using hd
     have nx:=nx c 0 (by obtain ⟨y,hy,hyl⟩:=get32' hv d.length hd; rw [hy,hyl]; rfl) rfl (by omega) (fun h=>by omega)
     have qs:=s_sub32 x (c % 4294967296) r hxl (Nat.mod_lt _ (by decide)) h3
     rw [← w32 c,← hwg] at qs
     refine bN2 ?_
     refine Or.inl (eX _ (aN (qs) ?_))
     refine bN2 ?_
     refine aN (by decide) ?_
     (refine rNG ?_)
     refine eX [] (eX (d++[(((x + 8589934592 - c % 4294967296 - r) % 4294967296:Nat):Int)],(if x < c % 4294967296 + r then 1 else 0),c / 4294967296) (aN ⟨nx.1,by simp; omega,nx.2.1,by dsimp only; omega,nx.2.2.1,nx.2.2.2⟩ (aN ?_ ?_)))
     ·(repeat' (first | exact trivial | exact Or.inl rfl | exact Or.inl ((by first | exact congrArg (fun z=>AV.ob 1000 1000 (.vw .u32 z a b)) (e5 _) | exact congrArg (AV.i .i64) (e13 _) | exact congrArg (AV.i .u64) (shr32 c))) | refine aN ?_ ?_))
     ·show v.length + 1 - (d++[_]).length < v.length + 1 - d.length
      simp; omega
  · have hk : d.length = v.length + 1 := by have : ¬ (d.length : Int) < ((b - a : Nat) : Int) := of_decide_eq_false hc
                                            omega
    obtain rfl:=h5 (by omega)
    rw [hk,List.take_of_length_le (show v.length≤v.length + 1 by omega),Nat.add_zero] at h6
    have hdl:=vl_lt h1
    rw [hk] at hdl
    have hw:=vl_lt ((hl.drop a).take (v.length + 1))
    rw [List.length_take,List.length_drop,show min (v.length + 1) (l.length - a) = v.length + 1 by omega] at hw
    rw [show (l.drop a).take (v.length + 1) = win l a (v.length + 1) from rfl] at h6 hw
    generalize vl 4294967296 (win l a (v.length + 1)) = U at h6 hw
    generalize q * vl 4294967296 v = M at h6
    have hd:d = fx 4294967296 (v.length + 1) (U + 4294967296 ^ (v.length + 1) - M):=by
     rw [← fx_mod (by decide)]
     refine fx_eq (by decide) h1 hk ?_
     generalize 4294967296 ^ (v.length + 1) = P at h6 hw hdl
     rcases (show r = 0∨r = 1 by omega) with rfl | rfl
     ·rw [show U + P - M = vl 4294967296 d + P by omega,Nat.add_mod_right,Nat.mod_eq_of_lt hdl]
     ·rw [show U + P - M = vl 4294967296 d by omega,Nat.mod_eq_of_lt hdl]
    have hb:((r:Int) == 1) = decide (U < M):=by
     generalize 4294967296 ^ (v.length + 1) = P at h6 hw hdl
     rcases (show r = 0∨r = 1 by omega) with rfl | rfl
     ·rw [decide_eq_false (by omega)]; rfl
     ·rw [decide_eq_true (by omega)]; rfl
    exact aN (congrArg AV.b hb) (eX [] (aN (congrArg (fun z=>AV.ob 1000 1000 (.vw .u32 (wn l a z) a b)) hd) (by (repeat' (first | exact trivial | exact Or.inl rfl | exact Or.inr (Or.inl ⟨rfl,_,rfl⟩) | exact Or.inr (Or.inr (Or.inr ⟨_,_,_,rfl,rfl⟩)) | refine aN ?_ ?_)))))
theorem s_takes (l v:List Int) (a b q:Nat) (hl:Dg 4294967296 l) (hv:Dg 4294967296 v) (hab:a + (v.length + 1) = b) (hb:b≤l.length) (hll:l.length≤1000000) (hq:q < 4294967296):CSpecM Tryd.prog 268 [.ob 1000 1000 (.vw .u32 l a b),.rd .u32 v,.i .u64 q] [] (.b (decide (vl 4294967296 (win l a (v.length + 1)) < q * vl 4294967296 v))) 0 (.ob 1000 1000 (.vw .u32 (wn l a (fx 4294967296 (v.length + 1) (vl 4294967296 (win l a (v.length + 1)) + 4294967296 ^ (v.length + 1) - q * vl 4294967296 v))) a b)) [] :=
 cspecM_of_vc Γ_good Tryd.func268 rfl Tryd.call268 Tryd.results268 Tryd.ntmps268 (Nat.le_of_ble_eq_true rfl) (Nat.le_of_ble_eq_true rfl) (by rfl) (Nat.lt_of_lt_of_le (Nat.lt_succ_self _) (Nat.le_of_ble_eq_true rfl)) (by kernel_rfl) (w_takes l v a b q hl hv hab hb hll hq)
theorem w_gives (l v:List Int) (a b:Nat) (hl:Dg 4294967296 l) (hv:Dg 4294967296 v) (hab:a + (v.length + 1) = b) (hb:b≤l.length) (hll:l.length≤1000000):vc Tryd.prog Γ 34 [0,1,4,5,6,8,9,10,15,1000] (Tryd.f269.body.getD .skip) (postMK Γ [] (.tup []) 0 (.ob 1000 1000 (.vw .u32 (wn l a (fx 4294967296 (v.length + 1) (vl 4294967296 (win l a (v.length + 1)) + vl 4294967296 v))) a b)) []) ⟨argSlots 0 [.ob 1000 1000 (.vw .u32 l a b),.rd .u32 v],[]⟩:=by
 intro _
 refine eX [] (eX [] (eX [] (eX (List Int × Nat) (eX (fun s=>Dg 4294967296 s.1∧s.1.length≤v.length + 1∧s.2≤1∧vl 4294967296 s.1 + 4294967296 ^ s.1.length * s.2 = vl 4294967296 ((l.drop a).take s.1.length) + vl 4294967296 (v.take s.1.length)) (eX (fun ⟨d,c⟩=>⟨[(0,.ob 1000 1000 (.vw .u32 (wn l a d) a b)),(1,.rd .u32 v),(4,.i .u32 c),(8,.i .i64 ((b - a:Nat):Int)),(9,.i .i64 d.length)],[]⟩) (eX (fun s=>v.length + 1 - s.1.length) (eX ([],0) (aN ⟨Dg.nil _,Nat.zero_le _,Nat.zero_le _,by simp [vl]⟩ (aN ?_ ?_)))))))))
 ·(repeat' (first | exact trivial | exact Or.inl rfl | exact Or.inl ((by rw [wn_nil])) | refine aN ?_ ?_))
 ·rintro ⟨d,c⟩ ⟨h1,h2,h3,h4⟩
  dsimp only at h1 h2 h3 h4
  refine aN (fun hc=>?_) (fun hc=>?_)
  · have hk : d.length < v.length + 1 := by have : (d.length : Int) < ((b - a : Nat) : Int) := of_decide_eq_true hc
                                            omega
    have hwl:(wn l a d).length = l.length:=wn_len (by omega)
    have e5:∀ t:Int,(wn l a d).set (a + d.length) t = wn l a (d++[t]):=wn_set (by omega)
    have e13:∀ t:Int,(d.length:Int) + 1 = ((d++[t]).length:Int):=fun t=>by simp
    obtain ⟨x,hx,hxl,hxn⟩:=get32 hl (a + d.length)
    have hwg:(wn l a d).getD (a + d.length) 0 = x:=by rw [wn_get (by omega),hx]
    have nx:∀ y:Nat,y < 4294967296→v.getD d.length 0 = y→Dg 4294967296 (d++[(((x + y + c) % 4294967296:Nat):Int)])∧(x + y + c) / 4294967296≤1∧vl 4294967296 (d++[(((x + y + c) % 4294967296:Nat):Int)]) + 4294967296 ^ (d++[(((x + y + c) % 4294967296:Nat):Int)]).length * ((x + y + c) / 4294967296) = vl 4294967296 ((l.drop a).take (d++[(((x + y + c) % 4294967296:Nat):Int)]).length) + vl 4294967296 (v.take (d++[(((x + y + c) % 4294967296:Nat):Int)]).length):=fun y hyl hy=>by
     refine ⟨h1.snoc ⟨by omega,by omega⟩,by omega,?_⟩
     rw [List.length_append,List.length_singleton,vl_take_succ,vl_take_succ,vl_snoc,win_get,hxn,hy,Int.toNat_natCast,Int.toNat_natCast,Nat.pow_succ]
     exact dig_add h4 (by omega)
    intro _
    refine aN (fun hd=>?_) (fun hd=>?_)
    ·have hd:d.length < v.length:=by simpa using hd
     obtain ⟨y,hy,hyl,_⟩:=get32 hv d.length
     have nx:=nx y hyl hy
     have qs:=s_add32 x y c hxl hyl h3
     rw [← hy,← hwg] at qs
     refine bN2 ?_
     refine bN2 ?_
     refine Or.inl (eX _ (aN (qs) ?_))
     refine bN2 ?_
     (refine rNG ?_)
     refine eX [] (eX (d++[(((x + y + c) % 4294967296:Nat):Int)],(x + y + c) / 4294967296) (aN ⟨nx.1,by simp; omega,nx.2.1,nx.2.2⟩ (aN ?_ ?_)))
     ·(repeat' (first | exact trivial | exact Or.inl rfl | exact Or.inl ((by first | exact congrArg (fun z=>AV.ob 1000 1000 (.vw .u32 z a b)) (e5 _) | exact congrArg (AV.i .i64) (e13 _))) | refine aN ?_ ?_))
     ·show v.length + 1 - (d++[_]).length < v.length + 1 - d.length
      simp; omega
    ·have hd:v.length≤d.length:=by simpa using hd
     obtain ⟨y,hy,hyl⟩:=get32' hv d.length hd
     subst hyl
     have nx:=nx 0 (by decide) hy
     have qs:=s_add32 x 0 c hxl (by decide) h3
     rw [← hwg] at qs
     refine bN2 ?_
     refine Or.inl (eX _ (aN (qs) ?_))
     refine bN2 ?_
     (refine rNG ?_)
     refine eX [] (eX (d++[(((x + 0 + c) % 4294967296:Nat):Int)],(x + 0 + c) / 4294967296) (aN ⟨nx.1,by simp; omega,nx.2.1,nx.2.2⟩ (aN ?_ ?_)))
     ·(repeat' (first | exact trivial | exact Or.inl rfl | exact Or.inl ((by first | exact congrArg (fun z=>AV.ob 1000 1000 (.vw .u32 z a b)) (e5 _) | exact congrArg (AV.i .i64) (e13 _))) | refine aN ?_ ?_))
     ·show v.length + 1 - (d++[_]).length < v.length + 1 - d.length
      simp; omega
  · have hk : d.length = v.length + 1 := by have : ¬ (d.length : Int) < ((b - a : Nat) : Int) := of_decide_eq_false hc
                                            omega
    rw [hk,List.take_of_length_le (show v.length≤v.length + 1 by omega)] at h4
    have hdl:=vl_lt h1
    rw [hk] at hdl
    have hd:d = fx 4294967296 (v.length + 1) (vl 4294967296 (win l a (v.length + 1)) + vl 4294967296 v):=by
     rw [← fx_mod (by decide)]
     refine fx_eq (by decide) h1 hk ?_
     rw [show win l a (v.length + 1) = (l.drop a).take (v.length + 1) from rfl,← h4,Nat.add_mul_mod_self_left,Nat.mod_eq_of_lt hdl]
    exact aN rfl (eX [] (aN (congrArg (fun z=>AV.ob 1000 1000 (.vw .u32 (wn l a z) a b)) hd) (by (repeat' (first | exact trivial | exact Or.inl rfl | exact Or.inr (Or.inl ⟨rfl,_,rfl⟩) | exact Or.inr (Or.inr (Or.inr ⟨_,_,_,rfl,rfl⟩)) | refine aN ?_ ?_)))))
theorem s_gives (l v:List Int) (a b:Nat) (hl:Dg 4294967296 l) (hv:Dg 4294967296 v) (hab:a + (v.length + 1) = b) (hb:b≤l.length) (hll:l.length≤1000000):CSpecM Tryd.prog 269 [.ob 1000 1000 (.vw .u32 l a b),.rd .u32 v] [] (.tup []) 0 (.ob 1000 1000 (.vw .u32 (wn l a (fx 4294967296 (v.length + 1) (vl 4294967296 (win l a (v.length + 1)) + vl 4294967296 v))) a b)) [] :=
 cspecM_of_vc Γ_good Tryd.func269 rfl Tryd.call269 Tryd.results269 Tryd.ntmps269 (Nat.le_of_ble_eq_true rfl) (Nat.le_of_ble_eq_true rfl) (by rfl) (Nat.lt_of_lt_of_le (Nat.lt_succ_self _) (Nat.le_of_ble_eq_true rfl)) (by kernel_rfl) (w_gives l v a b hl hv hab hb hll)
end
end Go.Proofs.YtdcdmojbkmedpaaDoor
end
section
namespace Go.Proofs.YtdcdmojbkmedpaaDoor
open Go Go.SX Go.Bg
set_option maxRecDepth 100000
set_option maxHeartbeats 4000000
section
variable [G:Globs]
theorem w_leftO (m n:Nat) (hn:n < 32) (hll:(dg 4294967296 m).length≤1000000):vc Tryd.prog Γ 43 [0,1,4,5,6,8,13,14,15,16,37,1000] (Tryd.f252.body.getD .skip) (postBK Γ [.tmp 4] (.vec 1000 .u32 (dg 4294967296 (2 ^ n * m))) []) ⟨argSlots 0 [.rd .u32 (dg 4294967296 m),.i .i64 n],[]⟩:=by
 have hl:=dg_Dg b32 m
 have hv:=vl_dg b32 m
 have hge:0 < m→4294967296 ^ ((dg 4294967296 m).length - 1)≤m:=dg_ge b32
 have hm0:m = 0→(dg 4294967296 m).length = 0:=fun e=>by rw [e]; rfl
 generalize dg 4294967296 m = l at hl hv hge hll hm0
 intro _
 (refine rNG ?_)
 refine aN ⟨by omega,by omega,by omega,by show (l.length + 2) * 4≤_; omega⟩ ?_
 intro _
 refine eX [] (eX [] (eX [] (eX (Nat × Nat × List Int) (eX (fun x=>x.1≤l.length∧x.2.2.length = x.1∧Dg 4294967296 x.2.2∧x.2.1 < 2 ^ n∧vl 4294967296 x.2.2 + 4294967296 ^ x.1 * x.2.1 = 2 ^ n * vl 4294967296 (l.take x.1)) (eX (fun ⟨k,c,o⟩=>⟨[(1,.i .i64 n),(5,.vec 12 .u32 o),(6,.i .u32 c),(13,.rd .u32 l),(14,.i .i64 l.length),(15,.i .i64 k)],[]⟩) (eX (fun x=>l.length - x.1) (eX (0,0,[]) (aN ⟨Nat.zero_le _,rfl,Dg.nil _,Nat.pow_pos (by decide),by simp [vl]⟩ (aN ?_ ?_)))))))))
 ·(repeat' (first | exact trivial | exact Or.inl rfl | exact Or.inr (Or.inl ⟨rfl,_,rfl⟩) | exact Or.inr (Or.inr (Or.inr ⟨_,_,_,rfl,rfl⟩)) | refine aN ?_ ?_))
 ·rintro ⟨k,c,o⟩ ⟨h1,h2,h3,h4,h5⟩
  dsimp only at h1 h2 h3 h4 h5
  refine aN (fun hc=>?_) (fun hc=>?_)
  · have hk : k < l.length := by have : (k : Int) < (l.length : Int) := of_decide_eq_true hc
                                 omega
    have g:=hl.getD (by decide) k
    obtain ⟨x,hx,hxn,hxl⟩:∃ x:Nat,l.getD k 0 = x∧(l.getD k 0).toNat = x∧x < 4294967296:=⟨(l.getD k 0).toNat,by omega,rfl,by omega⟩
    have nx:=left_next hn hxn hxl h2 h3 h4 h5
    refine bN2 ?_
    refine aN (by rw [IntKind.wrap_u64]; omega) ?_
    refine aN (by show (o.length + 1) * 4≤_; omega) ?_
    (refine rNG ?_)
    refine aN (by rw [IntKind.wrap_u64]; omega) ?_
    (refine rNG ?_)
    have e1:=left_or (x:=x) hn h4
    have e2:=left_low hn hxl
    rw [← hx] at e1 e2
    refine eX [(27,12)] (eX (k + 1,x / 2 ^ (32 - n),o++[((2 ^ n * (x % 2 ^ (32 - n)) + c:Nat):Int)]) (aN ⟨hk,nx.1,nx.2.1,nx.2.2.1,nx.2.2.2⟩ (aN ?_ ?_)))
    ·(repeat' (first | exact trivial | exact Or.inl rfl | exact Or.inl ((by first | exact congrArg (fun x:Int=>AV.vec 12 .u32 (o++[x])) e1 | exact congrArg (AV.i .u32) e2)) | refine aN ?_ ?_))
    ·show l.length - (k + 1) < l.length - k
     omega
  · have hk : k = l.length := by have : ¬ (k : Int) < (l.length : Int) := of_decide_eq_false hc
                                 omega
    subst hk
    rw [List.take_length,hv] at h5
    refine aN (fun hd=>?_) (fun hd=>?_)
    · have hd : 0 < c := by have : (0 : Int) < (c : Int) := of_decide_eq_true hd
                            omega
      refine aN (by show (o.length + 1) * 4≤_; omega) ?_
      have hcw:c < 4294967296:=Nat.lt_of_lt_of_le h4 (Nat.pow_le_pow_right (i:=n) (j:=32) (by decide) (by omega))
      have hcan:=canon b32 (l:=o++[(c:Int)]) (h3.snoc ⟨by omega,by omega⟩) (by simp; omega)
      rw [vl_snoc,h2,Int.toNat_natCast,h5] at hcan
      exact eX [(41,1000)] (aN (congrArg (AV.vec 1000 .u32) hcan.symm) (by (repeat' (first | exact trivial | exact Or.inl rfl | exact Or.inr (Or.inl ⟨rfl,_,rfl⟩) | exact Or.inr (Or.inr (Or.inr ⟨_,_,_,rfl,rfl⟩)) | refine aN ?_ ?_))))
    · have hd : c = 0 := by have : ¬ (0 : Int) < (c : Int) := of_decide_eq_false hd
                            omega
      subst hd
      rw [Nat.mul_zero,Nat.add_zero] at h5
      have hcan:=canonLen b32 h3 (by
       rcases Nat.eq_zero_or_pos m with h | h
       ·exact .inl (List.eq_nil_of_length_eq_zero (by rw [h2]; exact hm0 h))
       ·refine .inr ?_
        rw [h5,h2]
        have h6:=hge h
        have h7:1 * m≤2 ^ n * m:=Nat.mul_le_mul_right _ (Nat.pow_pos (by decide))
        omega)
      rw [h5] at hcan
      exact eX [(12,1000)] (aN (congrArg (AV.vec 1000 .u32) hcan.symm) (by (repeat' (first | exact trivial | exact Or.inl rfl | exact Or.inr (Or.inl ⟨rfl,_,rfl⟩) | exact Or.inr (Or.inr (Or.inr ⟨_,_,_,rfl,rfl⟩)) | refine aN ?_ ?_))))
theorem s_leftO (m n:Nat) (hn:n < 32) (hll:(dg 4294967296 m).length≤1000000):CSpec Tryd.prog 252 [.rd .u32 (dg 4294967296 m),.i .i64 n] [] (.vec 1000 .u32 (dg 4294967296 (2 ^ n * m))) [] :=
 cspec_of_vc Γ_good Tryd.func252 rfl Tryd.call252 Tryd.results252 Tryd.ntmps252 (Nat.le_of_ble_eq_true rfl) (Nat.le_of_ble_eq_true rfl) (by rfl) (w_leftO m n hn hll)
end
end Go.Proofs.YtdcdmojbkmedpaaDoor
end
section
namespace Go.SX
variable [Globs]
def subC:List Nat→Code→Code
 | 0::r,.seq x _=>subC r x
 | 1::r,.seq _ y=>subC r y
 | 0::r,.cond _ x _=>subC r x
 | 1::r,.cond _ _ y=>subC r y
 | _::r,.block _ c=>subC r c
 | _::r,.loop c=>subC r c
 | _,c=>c
section
variable {P:Program} {N:Nat} {Γ:Ctx} {L:List Nat} {s:St}
theorem VCs.loop {c:Code} {Q:Exit→St→Prop} (h:LoopVC N (fun Q s=>VCs P Γ N L c Q s) Q s):VCs P Γ N L (.loop c) Q s:=⟨fun W0 F X Q' a w hQ ⟨β,hI⟩=>by
 obtain ⟨cv,cb,rn,h⟩:=h
 obtain ⟨s00,β00,h,hI00⟩:=nlVec_ok cv hI h
 obtain ⟨s0,β0,h,hI0⟩:=nlBox_ok cb hI00 h
 obtain ⟨s1,β1,⟨σ,I,S,μ,x,hix,hwk,hround⟩,hI1⟩:=renSt_ok rn hI0 h
 refine wp_loop' (fun x a w=>I x∧Inv W0 F X N (S x) a w) μ (fun x a w hIx=>?_) (x:=x) ⟨hix,β1,hI1.wk hwk⟩
 refine (hround x hIx.1).ok W0 F X _ a w (fun e s' a' w' hq hI'=>?_) hIx.2
 cases e with
 | normal =>
  obtain ⟨rn,hq⟩:=hq
  obtain ⟨β',hI'⟩:=hI'
  obtain ⟨s2,β2,⟨x',h0,h1,h2⟩,hI2⟩:=renSt_ok rn hI' hq
  exact ⟨x',⟨h0,β2,hI2.wk h1⟩,h2⟩
 | _=>exact hQ _ _ _ _ hq hI'⟩
end
end Go.SX
end
section
namespace Go.Proofs.YtdcdmojbkmedpaaDoor
open Go Go.SX Go.Bg
set_option maxRecDepth 100000
set_option maxHeartbeats 4000000
theorem or64 {r u:Nat} (h1:r < 4294967296) (h2:u < 4294967296):bits .or .u64 (IntKind.u64.wrap ((r:Int) * 2 ^ (min (Int.toNat 32) IntKind.u64.bits))) (IntKind.u64.wrap (u:Int)) = ((r * 4294967296 + u:Nat):Int):=by
 have h:=div32_or h1 h2
 rwa [show IntKind.u64.wrap (r:Int) = r by rw [IntKind.wrap_u64]; omega] at h
theorem mul64 {g n:Nat} (h1:g < 4294967296) (h2:n < 4294967296):IntKind.u64.wrap ((g:Int) * n) = ((g * n:Nat):Int):=by
 have h:g * n≤4294967295 * 4294967295:=Nat.mul_le_mul (by omega) (by omega)
 rw [show (g:Int) * (n:Int) = ((g * n:Nat):Int) from rfl]
 generalize g * n = p at h
 rw [IntKind.wrap_u64]
 omega
theorem dlt_true {a b:Nat} (h:decide ((a:Int) < (b:Int)) = true):a < b:=Int.ofNat_lt.1 (of_decide_eq_true h)
theorem dlt_false {a b:Nat} (h:decide ((a:Int) < (b:Int)) = false):b≤a:=Nat.le_of_not_lt fun h2=>of_decide_eq_false h (Int.ofNat_lt.2 h2)
theorem shr_true {t:Nat} (h:decide ((0:Int) < ((t / 4294967296:Nat):Int)) = true):4294967296≤t:=by have:=dlt_true (a:=0) h; omega
theorem shr_false {t:Nat} (h:decide ((0:Int) < ((t / 4294967296:Nat):Int)) = false):t < 4294967296:=by have:=dlt_false (a:=0) h; omega
theorem dec64 {g:Nat} (h0:0 < g) (h:g < 18446744073709551616):IntKind.u64.wrap ((g:Int) - 1) = ((g - 1:Nat):Int):=by rw [IntKind.wrap_u64]; omega
theorem sum64 {r t:Nat} (h0:r < 4294967296) (h:t < 4294967296):IntKind.u64.wrap ((r:Int) + t) = ((r + t:Nat):Int):=by rw [IntKind.wrap_u64]; omega
theorem inner_next {g r t two:Nat} (h:g * t + r = two) (hg:0 < g):(g - 1) * t + (r + t) = two:=by
 obtain ⟨g,rfl⟩:∃ g',g = g' + 1:=⟨g - 1,by omega⟩
 rw [Nat.add_mul] at h
 rw [Nat.add_sub_cancel]
 omega
theorem mul_one_le {g t two r:Nat} (h:g * t + r = two) (ht:0 < t):g≤two:=by
 have:=Nat.mul_le_mul_left g (show 1≤t from ht)
 omega
section
variable [G:Globs]
theorem long_in {x v q : List Int} {s p k tp nx u0 u1 u2 two U V P ul vl0 : Nat} (hxl : p + k + 3 ≤ x.length) (hxm : x.length ≤ 1000000) (hvl : v.length = k + 2) (hu0 : x.getD (p + k) 0 = u0) (hu0l : u0 < 4294967296) (hu1l : u1 < 4294967296) (hu2t : u2 ≤ tp) (hnxl : nx < 4294967296) (htpl : tp < 4294967296) (htp0 : 0 < tp)
  (hw3:U = ul + P * (u0 + 4294967296 * (u1 + 4294967296 * u2))) (hwlo:ul < P) (hVd:V = vl0 + P * (nx + 4294967296 * tp)) (hlo:vl0 < P) (hU:U < 4294967296 * V) (hV0:0 < V) (hTW:u1 + 4294967296 * u2 = two) (htw:two < 18446744073709551616) (hq0:U / V≤two / tp) (Q:Exit→St→Prop) :
  VCs Tryd.prog Γ 147 [0,1,4,5,6,7,8,9,10,11,12,13,14,15,56,104,112,123] (subC [1,1,1,1,1,1,0,1,0,0,1,0,0,1,1,0] (Tryd.f255.body.getD .skip)) (fun e s'=>match e with
   | .normal=>∃ g:Nat,(g < 4294967296∧U / V≤g∧g≤U / V + 1)∧Wk s' ⟨[(6,.i .i64 s),(7,.rd .u32 v),(8,.vec 31 .u32 x),(9,.vec 37 .u32 q),(10,.i .u64 tp),(11,.i .u64 nx),(12,.i .i64 p),(14,.i .u64 (g:Nat))],[]⟩
   | e=>Q e s') ⟨[(6,.i .i64 s),(7,.rd .u32 v),(8,.vec 31 .u32 x),(9,.vec 37 .u32 q),(10,.i .u64 tp),(11,.i .u64 nx),(12,.i .i64 p),(14,.i .u64 ((two / tp:Nat):Int)),(15,.i .u64 ((two % tp:Nat):Int))],[]⟩:=by
 have hdm:=Nat.div_add_mod two tp
 have hml:=Nat.mod_lt two (show tp > 0 by omega)
 refine VCs.of_vc (by first | exact Γ_good | exact Ctx.good_kp Γ_good _) ?_
 refine eX [] (eX [] (eX [] (eX (Nat × Nat) (eX (fun y=>y.1 * tp + y.2 = two∧y.2 < 4294967296∧U / V≤y.1) (eX (fun ⟨g,r⟩=>⟨[(6,.i .i64 s),(7,.rd .u32 v),(8,.vec 31 .u32 x),(9,.vec 37 .u32 q),(10,.i .u64 tp),(11,.i .u64 nx),(12,.i .i64 p),(14,.i .u64 (g:Nat)),(15,.i .u64 (r:Nat))],[]⟩) (eX (fun y=>y.1) (eX (two / tp,two % tp) (aN ⟨by dsimp only; rw [Nat.mul_comm]; exact hdm,by dsimp only; omega,hq0⟩ (aN ?_ ?_)))))))))
 ·(repeat' (first | exact trivial | exact Or.inl rfl | exact Or.inr (Or.inl ⟨rfl,_,rfl⟩) | exact Or.inr (Or.inr (Or.inr ⟨_,_,_,rfl,rfl⟩)) | refine aN ?_ ?_))
 rintro ⟨g,r⟩ ⟨j1,j2,j3⟩
 dsimp only at j1 j2 j3
 have hg1:g≤two:=mul_one_le j1 htp0
 have ex0:x.getD ((p:Int) + v.length - 2).toNat (dflt .u32) = u0:=by rw [show ((p:Int) + v.length - 2).toNat = p + k by omega]; exact hu0
 refine aN (by decide) ?_
 refine aN (fun hh=>?_) (fun hh=>?_)
 ·have hh:g < 4294967296:=by rw [shr32] at hh; exact shr_false hh
  have em:=mul64 hh hnxl
  have eo:=or64 j2 hu0l
  rw [← ex0] at eo
  generalize hz:r * 4294967296 + u0 = z at eo
  generalize hy:g * nx = y at em
  refine aN (by decide) ?_
  intro _
  (refine rNG ?_)
  (refine rNG ?_)
  refine bN2 ?_
  refine aN (fun hd=>?_) (fun hd=>?_)
  rotate_left
  ·rw [em,eo,cond_false] at hd
   have hd:=dlt_false hd
   have b3:=guess_end hw3 hwlo hVd hlo htp0 hh (j1.trans hTW.symm) (by rw [hz,hy]; exact hd)
   refine eX g (aN ⟨hh,j3,b3⟩ ?_)
   (repeat' (first | exact trivial | exact Or.inl rfl | exact Or.inr (Or.inl ⟨rfl,_,rfl⟩) | exact Or.inr (Or.inr (Or.inr ⟨_,_,_,rfl,rfl⟩)) | refine aN ?_ ?_))
  rw [em,eo,cond_false] at hd
  have hd:=dlt_true hd
  have hlt:=guess_more hw3 hwlo hVd hlo (j1.trans hTW.symm) (by rw [hz,hy]; exact hd)
  have hg0:0 < g:=Nat.lt_of_le_of_lt (Nat.zero_le _) hlt
  have eg:=dec64 hg0 (Nat.lt_of_le_of_lt hg1 htw)
  have er:=sum64 j2 htpl
  have jj:=inner_next j1 hg0
  have hlt1:U / V≤g - 1:=Nat.le_sub_one_of_lt hlt
  refine aN (by decide) ?_
  refine aN (fun he=>?_) (fun he=>?_)
  ·rw [er,shr32] at he
   have he:=shr_true he
   obtain ⟨b1,b2⟩:=guess_break (u0:=u0) hu1l hu2t hnxl (jj.trans hTW.symm) he
   have b3:=guess_end hw3 hwlo hVd hlo htp0 b1 (jj.trans hTW.symm) b2
   refine eX (g - 1) (aN ⟨b1,hlt1,b3⟩ ?_)
   (repeat' (first | exact trivial | exact Or.inl rfl | exact Or.inl ((congrArg (AV.i .u64) eg)) | refine aN ?_ ?_))
  ·rw [er,shr32] at he
   have he:=shr_false he
   refine eX [] (eX (g - 1,r + tp) (aN ⟨jj,he,hlt1⟩ (aN ?_ ?_)))
   ·(repeat' (first | exact trivial | exact Or.inl rfl | exact Or.inl ((by first | exact congrArg (AV.i .u64) eg | exact congrArg (AV.i .u64) er)) | refine aN ?_ ?_))
   ·exact Nat.sub_lt hg0 (by decide)
 ·have hh:4294967296≤g:=by rw [shr32] at hh; exact shr_true hh
  have hlt:U / V < g:=Nat.lt_of_lt_of_le ((Nat.div_lt_iff_lt_mul hV0).2 hU) hh
  refine aN (fun _=>?_) (fun h9=>absurd h9 (by decide))
  have hg0:0 < g:=Nat.lt_of_le_of_lt (Nat.zero_le _) hlt
  have eg:=dec64 hg0 (Nat.lt_of_le_of_lt hg1 htw)
  have er:=sum64 j2 htpl
  have jj:=inner_next j1 hg0
  have hlt1:U / V≤g - 1:=Nat.le_sub_one_of_lt hlt
  refine aN (by decide) ?_
  refine aN (fun he=>?_) (fun he=>?_)
  ·rw [er,shr32] at he
   have he:=shr_true he
   obtain ⟨b1,b2⟩:=guess_break (u0:=u0) hu1l hu2t hnxl (jj.trans hTW.symm) he
   have b3:=guess_end hw3 hwlo hVd hlo htp0 b1 (jj.trans hTW.symm) b2
   refine eX (g - 1) (aN ⟨b1,hlt1,b3⟩ ?_)
   (repeat' (first | exact trivial | exact Or.inl rfl | exact Or.inl ((congrArg (AV.i .u64) eg)) | refine aN ?_ ?_))
  ·rw [er,shr32] at he
   have he:=shr_false he
   refine eX [] (eX (g - 1,r + tp) (aN ⟨jj,he,hlt1⟩ (aN ?_ ?_)))
   ·(repeat' (first | exact trivial | exact Or.inl rfl | exact Or.inl ((by first | exact congrArg (AV.i .u64) eg | exact congrArg (AV.i .u64) er)) | refine aN ?_ ?_))
   ·exact Nat.sub_lt hg0 (by decide)
end
end Go.Proofs.YtdcdmojbkmedpaaDoor
end
section
namespace Go.Proofs.YtdcdmojbkmedpaaDoor
open Go Go.SX Go.Bg
set_option maxRecDepth 100000
set_option maxHeartbeats 4000000
theorem wrap32_lt {n:Nat} (h:n < 4294967296):IntKind.u32.wrap (n:Int) = n:=by rw [IntKind.wrap_u32]; omega
theorem sub_dist {U P M D R:Nat} (h1:M = D) (h2:D + R = U):U + P - M = R + P:=by omega
section
variable [G:Globs]
theorem w_long (m n k:Nat) (hk:(dg 4294967296 n).length = k + 2) (hm:(dg 4294967296 m).length≤100000) (hmn:n≤m):VCs Tryd.prog Γ 147 [0,1,4,5,6,7,8,9,10,11,12,13,14,15,56,104,112,123] (Tryd.f255.body.getD .skip) (postK Γ [.tmp 4,.tmp 5] (fun v=>v = .tup [.rd .u32 (dg 4294967296 (m / n)),.rd .u32 (dg 4294967296 (m % n))])) ⟨argSlots 0 [.rd .u32 (dg 4294967296 m),.rd .u32 (dg 4294967296 n)],[]⟩:=by
 obtain ⟨t,ht0,htl,ht,hbl⟩:=dg_top hk
 have hbt:=bl_le htl
 have hn:0 < n:=by
  rcases Nat.eq_zero_or_pos n with h | h
  ·subst h; simp at hk
  ·exact h
 have hnm:(dg 4294967296 n).length≤(dg 4294967296 m).length:=by
  rcases Nat.lt_or_ge (dg 4294967296 m).length (dg 4294967296 n).length with h | h
  ·have:=less_len h; omega
  ·exact h
 have hbt1:0 < bl t:=by obtain ⟨j,j1,_⟩:=bl_bounds ht0; omega
 obtain ⟨s,hs⟩:∃ s,bl t + s = 32:=⟨32 - bl t,by omega⟩
 obtain ⟨hV1,hV2,hVl⟩:=norm_len (n:=n) (k:=k) (s:=s) hn (by omega)
 have hUV:2 ^ s * n≤2 ^ s * m:=Nat.mul_le_mul_left _ hmn
 have hUl:(dg 4294967296 (2 ^ s * m)).length≤(dg 4294967296 m).length + 1:=dg_len_le b32 _ _ (by
  rw [Nat.pow_succ,Nat.mul_comm]
  have h1:m < 4294967296 ^ (dg 4294967296 m).length:=dg_lt_pow b32 m
  have h2:2 ^ s≤4294967296:=Nat.pow_le_pow_right (n:=2) (i:=s) (j:=32) (by decide) (by omega)
  exact Nat.lt_of_le_of_lt (Nat.mul_le_mul_left m h2) (Nat.mul_lt_mul_of_pos_right h1 (by decide)))
 have hUl2:(dg 4294967296 (2 ^ s * n)).length≤(dg 4294967296 (2 ^ s * m)).length:=by
  rcases Nat.lt_or_ge (dg 4294967296 (2 ^ s * m)).length (dg 4294967296 (2 ^ s * n)).length with h | h
  ·have:=less_len h; omega
  ·exact h
 have qv:=s_left n s (by omega) (by omega)
 have qu:=s_leftO m s (by omega) (by omega)
 have ql:=s_lead32 t htl
 rw [bitLen_bl (by omega),← ht,show (32:Int) - (bl t:Int) = (s:Int) by omega,← show ((dg 4294967296 n).length - 1:Int).toNat = k + 1 by omega] at ql
 refine VCs.seq (by first | exact Γ_good | exact Ctx.good_kp Γ_good _) ?_
 refine VCs.seq (by first | exact Γ_good | exact Ctx.good_kp Γ_good _) ?_
 intro _
 (refine rNG ?_)
 refine bN2 ?_
 refine Or.inl (eX _ (aN (ql) ?_))
 refine VCs.seq (by first | exact Γ_good | exact Ctx.good_kp Γ_good _) ?_
 refine Or.inl (eX _ (aN (qv) ?_))
 refine Or.inr (Or.inl (eX [] (eX _ (eX _ (eX _ (eX _ (eX _ (eX [(1000,28)] (aN (qu) ?_)))))))))
 refine (aN rfl (aN rfl (aN rfl (aN rfl ?_))))
 have gv:=dg_Dg b32 (2 ^ s * n)
 have ev:=vl_dg b32 (2 ^ s * n)
 have gu:=dg_Dg b32 (2 ^ s * m)
 have eu:=vl_dg b32 (2 ^ s * m)
 generalize dg 4294967296 (2 ^ s * n) = v at gv ev hVl hUl2
 generalize dg 4294967296 (2 ^ s * m) = u at gu eu hUl hUl2
 refine VCs.cut (by first | exact Γ_good | exact Ctx.good_kp Γ_good _) (List Int) (fun x=>x = u++[(0:Int)]) (fun x=>⟨[(6,.i .i64 s),(7,.rd .u32 v),(8,.vec 31 .u32 x)],[]⟩) ?_ ?_
 ·refine aN (by show (u.length + 1) * 4≤_; omega) ?_
  refine eX (u++[(0:Int)]) (aN rfl ?_)
  (repeat' (first | exact trivial | exact Or.inl rfl | exact Or.inr (Or.inl ⟨rfl,_,rfl⟩) | exact Or.inr (Or.inr (Or.inr ⟨_,_,_,rfl,rfl⟩)) | refine aN ?_ ?_))
 have hul:(u++[(0:Int)]).length = u.length + 1:=by simp
 have gu0:Dg 4294967296 (u++[(0:Int)]):=gu.snoc ⟨by decide,by decide⟩
 have eu0:vl 4294967296 (u++[(0:Int)]) = 2 ^ s * m:=by rw [vl_snoc,eu]; simp
 have hdl:(u++[(0:Int)]).drop u.length = [0]:=by simp
 rintro x rfl
 refine VCs.seq (by first | exact Γ_good | exact Ctx.good_kp Γ_good _) ?_
 intro _
 intro _
 (refine rNG ?_)
 refine aN ⟨by omega,Int.le_refl _,by omega,by show (((u++[(0:Int)]).length:Int) - v.length).toNat * 4≤_; omega⟩ ?_
 obtain ⟨tp,htp,htpl,htpn⟩:=get32 gv (k + 1)
 obtain ⟨nx,hnx,hnxl,hnxn⟩:=get32 gv k
 have hVd:=vl_two (B:=4294967296) hVl
 rw [hnxn,htpn,ev] at hVd
 have hlo:=vl_lt (gv.take k)
 rw [List.length_take,show min k v.length = k by omega] at hlo
 have htop:2147483648≤tp:=by
  rcases Nat.lt_or_ge tp 2147483648 with h | h
  ·exfalso
   have h3:4294967296 ^ k * (nx + 4294967296 * tp) + 4294967296 ^ k≤4294967296 ^ k * (4294967296 * 2147483648):=by
    rw [← Nat.mul_succ]
    exact Nat.mul_le_mul_left _ (by omega)
   rw [Nat.pow_succ,Nat.mul_assoc] at hV2
   omega
  ·exact h
 refine VCs.seq (by first | exact Γ_good | exact Ctx.good_kp Γ_good _) ?_
 refine eX [.take 0,.take 1,.take 2,.take 3,.take 4,.take 7,.take 8,.take 9,.blk [5,6,10,11,12,13,14,15]] (aN (by kernel_rfl) ?_)
 (repeat' (first | (refine aN (fun h=>?_) (fun h=>?_)<;>(try simp [-List.getD_eq_getElem?_getD,-Int.pred_toNat] at h)<;>(try (exfalso; first | omega | contradiction))) | (refine rNG ?_) | (refine bN2 ?_) | (refine bN3 ?_) | (intro _)))
 generalize hVe:2 ^ s * n = V at *
 generalize hUe:2 ^ s * m = U0 at *
 have hrl:(List.replicate (((u++[(0:Int)]).length:Int) - v.length).toNat (0:Int)).length = u.length + 1 - (k + 2):=by rw [List.length_replicate]; omega
 refine VCs.seqS ?_
 refine VCs.seq (by first | exact Γ_good | exact Ctx.good_kp Γ_good _) ?_
 intro _
 (refine rNG ?_)
 refine VCs.block ?_
 have hr0:vl 4294967296 ((u++[(0:Int)]).drop (u.length + 1 - (k + 2))) < V:=by
  rw [List.drop_append_of_le_length (by omega),vl_snoc,Int.toNat_zero,Nat.mul_zero,Nat.add_zero]
  have h1:=vl_lt (gu.drop (u.length + 1 - (k + 2)))
  rw [List.length_drop,show u.length - (u.length + 1 - (k + 2)) = k + 1 by omega] at h1
  refine Nat.lt_of_lt_of_le h1 (Nat.le_trans ?_ hV2)
  omega
 refine VCs.loop ?_
 refine eX [] (eX [] (eX [] (eX (Int × List Int × List Int) (eX (fun x=>-1≤x.1∧x.1 < x.2.2.length∧x.2.1.length = u.length + 1∧x.2.2.length = u.length + 1 - (k + 2)∧Dg 4294967296 x.2.1∧Dg 4294967296 x.2.2∧vl 4294967296 (x.2.1.drop (x.1 + 1).toNat) < V∧4294967296 ^ (x.1 + 1).toNat * vl 4294967296 (x.2.2.drop (x.1 + 1).toNat) * V + vl 4294967296 x.2.1 = U0) (eX (fun ⟨j,x,q⟩=>⟨[(6,.i .i64 s),(7,.rd .u32 v),(8,.vec 31 .u32 x),(9,.vec 37 .u32 q),(10,.i .u64 tp),(11,.i .u64 nx),(12,.i .i64 j)],[]⟩) (eX (fun x=>(x.1 + 1).toNat) (eX (((List.replicate (((u++[(0:Int)]).length:Int) - v.length).toNat (0:Int)).length:Int) - 1,u++[(0:Int)],List.replicate (((u++[(0:Int)]).length:Int) - v.length).toNat (0:Int)) (aN ⟨by dsimp only; omega,by dsimp only; omega,hul,hrl,gu0,Dg.replicate (by decide) _,by dsimp only; rw [hrl,show (((u.length + 1 - (k + 2):Nat):Int) - 1 + 1).toNat = u.length + 1 - (k + 2) by omega]; exact hr0,by dsimp only; rw [hrl,show (((u.length + 1 - (k + 2):Nat):Int) - 1 + 1).toNat = u.length + 1 - (k + 2) by omega,List.drop_of_length_le (by omega),eu0]; simp [vl]⟩ (aN ?_ ?_)))))))))
 ·have eg1:IntKind.u64.wrap (v.getD (((v.length:Int) - 1).toNat) (dflt .u32)) = tp:=by rw [show ((v.length:Int) - 1).toNat = k + 1 by omega,show v.getD (k + 1) (dflt .u32) = tp from htp,IntKind.wrap_u64]; omega
  have eg2:IntKind.u64.wrap (v.getD (((v.length:Int) - 2).toNat) (dflt .u32)) = nx:=by rw [show ((v.length:Int) - 2).toNat = k by omega,show v.getD k (dflt .u32) = nx from hnx,IntKind.wrap_u64]; omega
  (repeat' (first | exact trivial | exact Or.inl rfl | exact Or.inl ((by first | exact congrArg (AV.i .u64) eg1 | exact congrArg (AV.i .u64) eg2)) | refine aN ?_ ?_))
 rintro ⟨j,x,q⟩ ⟨i1,i2,i3,i4,i5,i6,i7,i8⟩
 dsimp only at i1 i2 i3 i4 i5 i6 i7 i8
 refine VCs.seq (by first | exact Γ_good | exact Ctx.good_kp Γ_good _) ?_
 refine aN (fun hc=>?_) (fun hc=>?_)
 ·obtain ⟨p,rfl⟩:=nn_of hc
  clear hc
  rw [show ((p:Int) + 1).toNat = p + 1 by omega] at i7 i8
  obtain ⟨hU,hstep⟩:=long_step (k:=k) (by decide) i5 (by omega) (by omega) hV1 i7 i8
  obtain ⟨u0,hu0,hu0l,hu0n⟩:=get32 i5 (p + k)
  obtain ⟨u1,hu1,hu1l,hu1n⟩:=get32 i5 (p + (k + 1))
  obtain ⟨u2,hu2,hu2l,hu2n⟩:=get32 i5 (p + (k + 2))
  have gw:=(i5.drop p).take (k + 3)
  have hwl:((x.drop p).take (k + 3)).length = k + 3:=by rw [List.length_take,List.length_drop]; omega
  have hw3:=vl_three (B:=4294967296) hwl
  have hwlo:=vl_lt (gw.take k)
  rw [List.length_take,hwl,show min k (k + 3) = k by omega] at hwlo
  have hg:∀ t,t < k + 3→((x.drop p).take (k + 3)).getD t 0 = x.getD (p + t) 0:=fun t ht=>by
   rw [List.getD_eq_getElem?_getD,List.getElem?_take,if_pos ht,List.getElem?_drop,← List.getD_eq_getElem?_getD]
  rw [hg k (by omega),hg (k + 1) (by omega),hg (k + 2) (by omega),hu0n,hu1n,hu2n] at hw3
  generalize hUw:vl 4294967296 ((x.drop p).take (k + 3)) = U at hU hstep hw3
  have hV0:0 < V:=Nat.lt_of_le_of_lt (Nat.zero_le _) i7
  have htp0:0 < tp:=Nat.lt_of_lt_of_le (by decide) htop
  have hu2t:=guess_top hw3 hwlo hVd hlo hnxl hU
  have hq0:=guess_init hw3 hwlo hVd hlo hu0l (by omega)
  have e9:=div32_or hu2l hu1l
  refine VCs.seqS ?_
  refine VCs.block ?_
  refine VCs.cut (by first | exact Γ_good | exact Ctx.good_kp Γ_good _) Unit (fun _=>True) (fun _=>⟨[(6,.i .i64 s),(7,.rd .u32 v),(8,.vec 31 .u32 x),(9,.vec 37 .u32 q),(10,.i .u64 tp),(11,.i .u64 nx),(12,.i .i64 p),(13,.i .u64 ((u1 + 4294967296 * u2:Nat):Int))],[]⟩) ?_ ?_
  ·refine eX [.take 0,.take 1,.take 2,.take 3,.take 4,.take 5,.take 9,.take 10,.take 11,.take 12,.blk [6,7,8,13,14,15,16,17,18,19]] (aN (by kernel_rfl) ?_)
   (repeat' (first | (refine aN (fun h=>?_) (fun h=>?_)<;>(try simp [-List.getD_eq_getElem?_getD,-Int.pred_toNat] at h)<;>(try (exfalso; first | omega | contradiction))) | (refine rNG ?_) | (refine bN2 ?_) | (refine bN3 ?_) | (intro _)))
   refine aN (by decide) ?_
   (repeat' (first | (refine aN (fun h=>?_) (fun h=>?_)<;>(try simp [-List.getD_eq_getElem?_getD,-Int.pred_toNat] at h)<;>(try (exfalso; first | omega | contradiction))) | (refine rNG ?_) | (refine bN2 ?_) | (refine bN3 ?_) | (intro _)))
   have ex2:x.getD ((p:Int) + v.length).toNat (dflt .u32) = u2:=by rw [show ((p:Int) + v.length).toNat = p + (k + 2) by omega]; exact hu2
   have ex1:x.getD ((p:Int) + v.length - 1).toNat (dflt .u32) = u1:=by rw [show ((p:Int) + v.length - 1).toNat = p + (k + 1) by omega]; exact hu1
   refine eX () (aN trivial ?_)
   (repeat' (first | exact trivial | exact Or.inl rfl | exact Or.inl ((congrArg (AV.i .u64) (by rw [ex2,ex1]; exact e9.trans (congrArg Int.ofNat (by omega))))) | refine aN ?_ ?_))
  rintro _ _
  have htw:u1 + 4294967296 * u2 < 18446744073709551616:=by omega
  generalize hTW:u1 + 4294967296 * u2 = two at hq0 htw
  refine VCs.cut (by first | exact Γ_good | exact Ctx.good_kp Γ_good _) Unit (fun _=>True) (fun _=>⟨[(6,.i .i64 s),(7,.rd .u32 v),(8,.vec 31 .u32 x),(9,.vec 37 .u32 q),(10,.i .u64 tp),(11,.i .u64 nx),(12,.i .i64 p),(14,.i .u64 ((two / tp:Nat):Int)),(15,.i .u64 ((two % tp:Nat):Int))],[]⟩) ?_ ?_
  ·refine eX [.blk [0,1,2,3,4,5,6,7]] (aN (by kernel_rfl) ?_)
   have hdt:two / tp≤two:=Nat.div_le_self _ _
   refine aN (by omega) ?_
   refine aN ⟨by rw [tdivN]; exact Int.natCast_nonneg _,by rw [tdivN]; exact Int.ofNat_le.2 (show two / tp≤18446744073709551615 by omega)⟩ ?_
   (conv=>whnf)
   refine aN (by omega) ?_
   refine eX () (aN trivial ?_)
   (repeat' (first | exact trivial | exact Or.inl rfl | exact Or.inl ((congrArg (AV.i .u64) tdivN)) | exact Or.inl ((congrArg (AV.i .u64) tmodN)) | refine aN ?_ ?_))
  rintro _ _
  have hdm:=Nat.div_add_mod two tp
  have hml:=Nat.mod_lt two (show tp > 0 by omega)
  refine VCs.cutS Nat (fun g=>g < 4294967296∧U / V≤g∧g≤U / V + 1) (fun g=>⟨[(6,.i .i64 s),(7,.rd .u32 v),(8,.vec 31 .u32 x),(9,.vec 37 .u32 q),(10,.i .u64 tp),(11,.i .u64 nx),(12,.i .i64 p),(14,.i .u64 (g:Nat))],[]⟩) ?_ ?_
  ·exact long_in (by omega) (by omega) hVl hu0 hu0l hu1l hu2t hnxl htpl htp0 hw3 hwlo hVd hlo hU hV0 hTW htw hq0 _
  rintro g ⟨g1,g2,g3⟩
  have hab:p + (v.length + 1) = ((p:Int) + v.length + 1).toNat:=by omega
  have qt:=s_takes x v p ((p:Int) + v.length + 1).toNat g i5 gv hab (by omega) (by omega) g1
  rw [show v.length + 1 = k + 3 by omega,show win x p (k + 3) = (x.drop p).take (k + 3) from rfl,hUw,ev] at qt
  have hQV:=Nat.div_add_mod U V
  have hRV:=Nat.mod_lt U hV0
  obtain ⟨n1,n2⟩:=hstep (U / V) (U % V) hQV.symm hRV
  refine VCs.cut (by first | exact Γ_good | exact Ctx.good_kp Γ_good _) Unit (fun _=>True) (fun _=>⟨[(6,.i .i64 s),(7,.rd .u32 v),(8,.vec 31 .u32 (wn x p (fx 4294967296 (k + 3) (U % V)))),(9,.vec 37 .u32 q),(10,.i .u64 tp),(11,.i .u64 nx),(12,.i .i64 p),(14,.i .u64 ((U / V:Nat):Int))],[]⟩) ?_ ?_
  ·intro _
   (repeat' (first | (refine aN (fun h=>?_) (fun h=>?_)<;>(try simp [-List.getD_eq_getElem?_getD,-Int.pred_toNat] at h)<;>(try (exfalso; first | omega | contradiction))) | (refine rNG ?_) | (refine bN2 ?_) | (refine bN3 ?_) | (intro _)))
   refine Or.inr (Or.inr (Or.inr (Or.inr (Or.inr (eX [] (eX _ (eX _ (eX _ (eX _ (eX _ (eX _ (eX _ (eX [(1000,31)] (eX [] (eX [8] (aN (qt) ?_))))))))))))))))
   refine (aN rfl (aN rfl (aN rfl (aN rfl (aN rfl (aN trivial ?_))))))
   refine (chkK_iff _ _).2 (aN (Nat.beq_refl p) ?_)
   refine aN (wn_len (by rw [fx_len]; omega)) ?_
   refine aN (aN rfl trivial) ?_
   refine aN (fun hd=>?_) (fun hd=>?_)
   ·have hd:U < g * V:=of_decide_eq_true hd
    have hgq:g = U / V + 1:=by
     rcases (show g = U / V∨g = U / V + 1 by omega) with h | h
     ·rw [h,Nat.mul_comm] at hd; omega
     ·exact h
    have hx1l:(wn x p (fx 4294967296 (k + 3) (U + 4294967296 ^ (k + 3) - g * V))).length = x.length:=wn_len (by rw [fx_len]; omega)
    have hw1:win (wn x p (fx 4294967296 (k + 3) (U + 4294967296 ^ (k + 3) - g * V))) p (k + 3) = fx 4294967296 (k + 3) (U + 4294967296 ^ (k + 3) - g * V):=by
     rw [win,wn_drop (by omega),List.take_append_of_le_length (by rw [fx_len]; omega),List.take_of_length_le (by rw [fx_len]; omega)]
    have qg:=s_gives (wn x p (fx 4294967296 (k + 3) (U + 4294967296 ^ (k + 3) - g * V))) v p ((p:Int) + v.length + 1).toNat (wn_Dg i5 (fx_Dg (by decide) _ _)) gv hab (by rw [hx1l]; omega) (by rw [hx1l]; omega)
    rw [show v.length + 1 = k + 3 by omega,hw1,vl_fx,ev,wn_wn (by omega) (by rw [fx_len,fx_len])] at qg
    have e1:fx 4294967296 (k + 3) ((U + 4294967296 ^ (k + 3) - g * V) % 4294967296 ^ (k + 3) + V) = fx 4294967296 (k + 3) (U % V):=by
     have hgV:g * V = V * (U / V) + V:=by rw [hgq,Nat.add_mul,Nat.one_mul,Nat.mul_comm]
     have hgP:V < 4294967296 ^ (k + 3):=Nat.lt_of_lt_of_le hV1 (Nat.pow_le_pow_right (by decide) (by omega))
     rw [← fx_mod (by decide),Nat.mod_add_mod,show U + 4294967296 ^ (k + 3) - g * V + V = U % V + 4294967296 ^ (k + 3) by omega,Nat.add_mod_right,fx_mod (by decide)]
    rw [e1] at qg
    (repeat' (first | (refine aN (fun h=>?_) (fun h=>?_)<;>(try simp [-List.getD_eq_getElem?_getD,-Int.pred_toNat] at h)<;>(try (exfalso; first | omega | contradiction))) | (refine rNG ?_) | (refine bN2 ?_) | (refine bN3 ?_) | (intro _)))
    refine aN ⟨by omega,by omega,by show (p:Int) + v.length + 1≤((wn x p (fx 4294967296 (k + 3) (U + 4294967296 ^ (k + 3) - g * V))).length:Int); rw [hx1l]; omega⟩ ?_
    (repeat' (first | (refine aN (fun h=>?_) (fun h=>?_)<;>(try simp [-List.getD_eq_getElem?_getD,-Int.pred_toNat] at h)<;>(try (exfalso; first | omega | contradiction))) | (refine rNG ?_) | (refine bN2 ?_) | (refine bN3 ?_) | (intro _)))
    refine Or.inr (Or.inr (Or.inr (Or.inr (Or.inr (eX [] (eX _ (eX _ (eX _ (eX _ (eX _ (eX _ (eX _ (eX [(1000,31)] (eX [] (eX [8] (aN (qg) ?_))))))))))))))))
    refine (aN rfl (aN rfl (aN rfl (aN rfl (aN rfl (aN trivial ?_))))))
    refine (chkK_iff _ _).2 (aN (Nat.beq_refl p) ?_)
    refine aN (by rw [hx1l]; exact wn_len (by rw [fx_len]; omega)) ?_
    refine aN (aN rfl trivial) ?_
    refine eX () (aN trivial ?_)
    have e8:IntKind.u64.wrap ((g:Int) - 1) = ((U / V:Nat):Int):=by rw [dec64 (by rw [hgq]; exact Nat.succ_pos _) (Nat.lt_trans g1 (by decide)),Nat.sub_eq_of_eq_add hgq]
    (repeat' (first | exact trivial | exact Or.inl rfl | exact Or.inl ((congrArg (AV.i .u64) e8)) | refine aN ?_ ?_))
   ·have hd:¬ U < g * V:=of_decide_eq_false hd
    have hgq:g = U / V:=by
     rcases (show g = U / V∨g = U / V + 1 by omega) with h | h
     ·exact h
     ·rw [h,Nat.add_mul,Nat.one_mul,Nat.mul_comm] at hd; omega
    have e1:fx 4294967296 (k + 3) (U + 4294967296 ^ (k + 3) - g * V) = fx 4294967296 (k + 3) (U % V):=by
     have hgV:g * V = V * (U / V):=by rw [hgq,Nat.mul_comm]
     rw [← fx_mod (by decide),sub_dist hgV hQV,Nat.add_mod_right,fx_mod (by decide)]
    refine eX () (aN trivial ?_)
    (repeat' (first | exact trivial | exact Or.inl rfl | exact Or.inl ((congrArg (fun z=>AV.vec 31 .u32 (wn x p z)) e1)) | exact Or.inl ((congrArg (fun z:Nat=>AV.i .u64 z) hgq)) | refine aN ?_ ?_))
  rintro _ _
  refine VCs.of_vc (by first | exact Γ_good | exact Ctx.good_kp Γ_good _) ?_
  refine bN2 ?_
  (conv=>whnf)
  refine VCs.of_vc (by first | exact Γ_good | exact Ctx.good_kp Γ_good _) ?_
  (refine rNG ?_)
  have hQl:U / V < 4294967296:=Nat.lt_of_le_of_lt g2 g1
  have e7:=wrap32_lt hQl
  refine eX [] (eX ((p:Int) - 1,wn x p (fx 4294967296 (k + 3) (U % V)),q.set p ((U / V:Nat):Int)) (aN ⟨by dsimp only; omega,by dsimp only; rw [List.length_set]; omega,by dsimp only; rw [wn_len (by rw [fx_len]; omega)]; exact i3,by dsimp only; rw [List.length_set]; exact i4,wn_Dg i5 (fx_Dg (by decide) _ _),i6.set p ⟨Int.natCast_nonneg _,Int.ofNat_lt.2 hQl⟩,by dsimp only; rw [show ((p:Int) - 1 + 1).toNat = p by omega]; exact n1,by dsimp only; rw [show ((p:Int) - 1 + 1).toNat = p by omega]; exact n2⟩ (aN ?_ ?_)))
  ·(repeat' (first | exact trivial | exact Or.inl rfl | exact Or.inl ((congrArg (fun z=>AV.vec 37 .u32 (q.set p z)) e7)) | refine aN ?_ ?_))
  ·show ((p:Int) - 1 + 1).toNat < ((p:Int) + 1).toNat
   omega
 · have hj : j = -1 := by have : ¬ 0 ≤ j := of_decide_eq_false hc
                          omega
   subst hj
   rw [show ((-1:Int) + 1).toNat = 0 from rfl,List.drop_zero] at i7 i8
   rw [Nat.pow_zero,Nat.one_mul] at i8
   have hq:vl 4294967296 q = m / n:=by
    rw [← Nat.mul_div_mul_left m n (show 0 < 2 ^ s from Nat.pow_pos (by decide)),hVe,hUe,← i8,Nat.add_comm,Nat.add_mul_div_right _ _ (by omega),Nat.div_eq_of_lt i7,Nat.zero_add]
   have hx:vl 4294967296 x = 2 ^ s * (m % n):=by
    rw [← Nat.mul_mod_mul_left,hVe,hUe,← i8,Nat.add_comm,Nat.add_mul_mod_self_right,Nat.mod_eq_of_lt i7]
   have qt:=s_trimmed q i6
   rw [hq] at qt
   have qx:=s_trimmed x i5
   rw [hx] at qx
   have qr:=s_right (dg 4294967296 (2 ^ s * (m % n))) s (dg_Dg b32 _) (by omega) (by rw [← hx]; have:=dg_len32 i5; omega)
   rw [vl_dg b32,Nat.mul_div_cancel_left _ (Nat.pow_pos (by decide))] at qr
   (conv=>whnf)
   refine VCs.of_vc (by first | exact Γ_good | exact Ctx.good_kp Γ_good _) ?_
   refine Or.inl (eX _ (aN (qt) ?_))
   refine Or.inl (eX _ (aN (qx) ?_))
   refine Or.inl (eX _ (aN (qr) ?_))
   rfl
theorem s_long (m n k:Nat) (hk:(dg 4294967296 n).length = k + 2) (hm:(dg 4294967296 m).length≤100000) (hmn:n≤m):PSpec Tryd.prog 255 [.rd .u32 (dg 4294967296 m),.rd .u32 (dg 4294967296 n)] (.tup [.rd .u32 (dg 4294967296 (m / n)),.rd .u32 (dg 4294967296 (m % n))]) :=
 pspec_of_VCs Γ_good Tryd.func255 rfl Tryd.call255 Tryd.results255 Tryd.ntmps255 (Nat.le_of_ble_eq_true rfl) (w_long m n k hk hm hmn) Γ_good
end
end Go.Proofs.YtdcdmojbkmedpaaDoor
end
section
namespace Go.SX
variable [Globs]
section
variable {P:Program} {N:Nat} {Γ:Ctx} {L:List Nat} {W0:World} {F:Fr} {X:Nat→Prop} {s:St} {β:Nat→Option Nat} {a:Act} {w:World}
def RL1:AV→AV→Prop
 | .agg cs,.agg ds=>AVles cs ds
 | c,d=>AVle c d
def RLs:List AV→List AV→Prop
 | [],[]=>True
 | a::r,b::t=>RL1 a b∧RLs r t
 | _,_=>False
def RL:AV→AV→Prop
 | .tup cs,.tup ds=>RLs cs ds
 | c,d=>RL1 c d
theorem im_RL1 {O:Nat→Prop} {c d:AV} {u:Value} (h:Im O w c u) (hle:RL1 c d):Im O w d u:=by
 unfold RL1 at hle
 split at hle
 ·cases h with
  | agg _ vs h1 h2 h3 =>
   have:=all_le (show All2 (Im O w) _ vs from ⟨h1,h3⟩) hle
   exact .agg _ vs this.1 h2 this.2
 ·exact im_le h hle
theorem im_RLs {O:Nat→Prop}:∀ {cs ds:List AV} {us:List Value},All2 (Im O w) cs us→RLs cs ds→All2 (Im O w) ds us
 | [],[],us,h,_=>h
 | [],_::_,_,_,hle=>hle.elim
 | _::_,[],_,_,hle=>hle.elim
 | c::r,d::t,us,h,hle=>by
  obtain ⟨u,us',rfl,h1,h2⟩:=h.cons_inv
  exact All2.cons (im_RL1 h1 hle.1) (im_RLs h2 hle.2)
theorem im_RL {O:Nat→Prop} {c d:AV} {u:Value} (h:Im O w c u) (hle:RL c d):Im O w d u:=by
 unfold RL at hle
 split at hle
 ·cases h with
  | tup _ vs h1 h2 =>
   have:=im_RLs (show All2 (Im O w) _ vs from ⟨h1,h2⟩) hle
   exact .tup _ vs this.1 this.2
 ·exact im_RL1 h hle
theorem pspec_of_vcL (hΓ : Γ.good P) {f : FuncId} {fn : Func} {c : Code} (hf : P.funcs[f]? = some fn) (hb : fn.body = some c) (hcall : ∀ (vs : Array Value) (w : World), (callFunc f vs).run P w = .ok (.enter f vs) w)
  {rs:Array ResultVar} (hrs:fn.results = rs) (hN:fn.ntmps = N) {args:List AV} {r:AV} {L:List Nat} (hlen:args.length≤N)
  (hvc:vc P Γ N L c (postK Γ rs.toList (fun v=>RL v r)) ⟨argSlots 0 args,[]⟩):PSpec P f args r:=by
 refine ⟨hcall,fun O w vs hO hG hargs=>?_⟩
 refine calls_of_wp hf hb ?_
 have hsz:vs.length = args.length:=hargs.1.symm
 have hI:InvB w Fr.none O N ⟨argSlots 0 args,[]⟩ (fun _=>none) { tmps:=vs.toArray++Array.replicate (fn.ntmps - vs.toArray.size) undef,defers:=[] } w:=by
  have hNm:∀ n,¬ Nm ⟨argSlots 0 args,[]⟩ n:=by
   rintro n (⟨cs,h⟩ | ⟨m,h⟩ | ⟨b,cs,h,_⟩)
   ·cases h
   ·have:=look_args args 0 m
    rw [Nat.zero_add] at this
    simp only [this] at h
    by_cases hm:m < args.length
    ·rw [List.getD_eq_getElem?_getD,List.getElem?_eq_getElem hm] at h
     have:=(hargs.2 m _ _ (List.getElem?_eq_getElem hm) (List.getElem?_eq_getElem (by rw [hsz]; exact hm))).ids_nil
     rw [show (some args[m]).getD AV.x = args[m] from rfl,this] at h
     cases h
    ·rw [List.getD_eq_getElem?_getD,List.getElem?_eq_none (by omega)] at h
     simp [ids,ids0] at h
   ·cases h
  refine ⟨Stp.refl _ _,fun n=>?_,?_,fun n cs h=>(by cases h),fun n m g hn=>absurd hn (hNm n),fun n g hn=>absurd hn (hNm n),rfl,fun k hk=>⟨hO k hk,id⟩,fun n cs g h=>(by cases h),fun _ _=>rfl,hG.step (Stp.refl (fun _=>False) w) (fun _ _ h=>h.elim) fun k _ hk=>hk.elim id fun h=>h.elim⟩
  ·have h1:=look_args args 0 n
   rw [Nat.zero_add] at h1
   show Rel _ _ _ (look (argSlots 0 args) n) _
   rw [h1]
   by_cases hm:n < args.length
   ·have hmv:n < vs.length:=by rw [hsz]; exact hm
    have h2:=hargs.2 n _ _ (List.getElem?_eq_getElem hm) (List.getElem?_eq_getElem hmv)
    rw [List.getD_eq_getElem?_getD,List.getElem?_eq_getElem hm]
    have h3:(vs.toArray++Array.replicate (fn.ntmps - vs.toArray.size) undef).getD n undef = vs[n]:=by
     rw [Array.getD_eq_getD_getElem?,Array.getElem?_append_left (by simpa using hmv)]
     simp [hmv]
    rw [h3]
    refine Rel.im (h2.mono fun k hk=>?_)
    rcases hk with hk | ⟨m,hm',_⟩
    ·exact hk
    ·exact absurd hm' (hNm m)
   ·rw [List.getD_eq_getElem?_getD,List.getElem?_eq_none (by omega)]
    exact Rel.x
  ·show (vs.toArray++Array.replicate (fn.ntmps - vs.toArray.size) undef).size = N
   simp only [Array.size_append,List.size_toArray,Array.size_replicate,hN,hsz]
   omega
 refine vc_ok (W0:=w) (F:=Fr.none) (X:=O) hΓ c _ _ _ _ _ (fun e s a w' hq ⟨β,hI'⟩=>?_) hvc ⟨_,hI⟩
 have key:retK Γ s rs.toList (fun v=>RL v r)→a.defers = []∧∃ v,(results fn a.tmps).run P w' = .ok v w'∧∃ v',Ending.returned v = .returned v'∧Stp (fun _=>False) w w'∧Im O w' r v':=by
  intro h
  rw [← hrs] at h
  obtain ⟨v,u,hv,h1,h2⟩:=ret_ok hΓ hI' h
  exact ⟨hI'.defers,u,h2,u,rfl,hI'.ext,im_RL h1 hv⟩
 cases e with
 | normal=>exact key hq
 | ret=>exact key hq
 | _=>exact hq.elim

end
end Go.SX
end
section
namespace Go.Proofs.YtdcdmojbkmedpaaDoor
open Go Go.SX Go.Bg
set_option maxRecDepth 100000
set_option maxHeartbeats 4000000
def divR (m n:Nat):AV:=if n = 0 then .tup [.rd .u32 [],.rd .u32 [],.i .i64 1] else .tup [.rd .u32 (dg 4294967296 (m / n)),.rd .u32 (dg 4294967296 (m % n)),.i .i64 0]
theorem cmpN_lt {m n:Nat} (h:cmpN m n < 0):m < n:=by
 unfold cmpN at h
 split at h
 ·assumption
 ·split at h<;>omega
theorem cmpN_nlt {m n:Nat} (h:¬ cmpN m n < 0):n≤m:=by
 rcases Nat.lt_or_ge m n with h1 | h1
 ·exact absurd (show cmpN m n < 0 by unfold cmpN; rw [if_pos h1]; decide) h
 ·exact h1
theorem dg_one {n:Nat} (h:n < 4294967296) (h0:0 < n):dg 4294967296 n = [(n:Int)]:=by
 have:=canonLen b32 (l:=[(n:Int)]) (Dg.cons ⟨by omega,by omega⟩ (Dg.nil _)) (.inr (by simp [vl]; omega))
 rw [← this]
 simp [vl]
theorem dg_word {n:Nat} (h:(dg 4294967296 n).length = 1):∃ x:Nat,dg 4294967296 n = [(x:Int)]∧n = x∧x < 4294967296:=by
 have h1:=vl_dg b32 n
 have h2:=dg_Dg b32 n
 generalize dg 4294967296 n = l at h h1 h2
 match l,h with
 | [x],_ =>
  have:=h2 x (List.mem_cons_self ..)
  refine ⟨x.toNat,by rw [Int.toNat_of_nonneg this.1],?_,by omega⟩
  simp [vl] at h1
  omega
theorem vl_word {n:Nat}:vl 4294967296 [(n:Int)] = n:=by simp [vl]
section
variable [G:Globs]
theorem w_divMod (a b:List Int) (ha:Dg 4294967296 a) (hb:Dg 4294967296 b) (hla:a.length≤100000) (hlb:b.length≤100000):vc Tryd.prog Γ 49 [0,1,4,5,6,7,8,9,10,13,17,24] (Tryd.f231.body.getD .skip) (postK Γ [.tmp 4,.tmp 5,.tmp 6] (fun v=>RL v (divR (vl 4294967296 a) (vl 4294967296 b)))) ⟨argSlots 0 [.rd .u32 a,.rd .u32 b],[]⟩:=by
 have hx:=dg_len32 ha
 have hy:=dg_len32 hb
 have gy:=dg_Dg b32 (vl 4294967296 b)
 have ey:=vl_dg b32 (vl 4294967296 b)
 refine Or.inl (eX _ (aN (s_trimmed b hb) ?_))
 have q1:=s_cmp a (dg 4294967296 (vl 4294967296 b)) ha gy (by omega) (by omega)
 rw [ey] at q1
 have q2:=s_trim a ha (by omega)
 have q3:=s_trimmed a ha
 have q4:=fun (w:Nat) (h0:0 < w) (hw:w < 4294967296)=>s_byWord a w ha (by omega) h0 hw
 generalize vl 4294967296 a = m at *
 generalize vl 4294967296 b = n at *
 intro _
 refine aN (fun hc=>?_) (fun hc=>?_)
 ·have hc:(dg 4294967296 n).length = 0:=by have:=eq_of_beq hc; omega
  have hn:n = 0:=(dg_nil_iff b32 n).1 (List.eq_nil_of_length_eq_zero hc)
  rw [divR,if_pos hn]
  (repeat' (first | exact trivial | exact Or.inl rfl | exact Or.inr ⟨rfl,_,rfl⟩ | refine aN ?_ ?_))
 have hc:(dg 4294967296 n).length≠0:=by have:=ne_of_beq_false hc; omega
 have hn:n≠0:=fun h=>hc (by rw [(dg_nil_iff b32 n).2 h]; rfl)
 refine Or.inl (eX _ (aN (q1) ?_))
 rw [divR,if_neg hn]
 refine aN (fun hd=>?_) (fun hd=>?_)
 ·have hd:=cmpN_lt (of_decide_eq_true hd)
  rw [Nat.div_eq_of_lt hd,Nat.mod_eq_of_lt hd,(dg_nil_iff b32 0).2 rfl]
  refine Or.inl (eX _ (aN (q2) ?_))
  (repeat' (first | exact trivial | exact Or.inl rfl | exact Or.inr ⟨rfl,_,rfl⟩ | refine aN ?_ ?_))
 have hd:=cmpN_nlt (of_decide_eq_false hd)
 intro _
 refine aN (fun he=>?_) (fun he=>?_)
 ·have he:(dg 4294967296 n).length = 1:=by have:=eq_of_beq he; omega
  obtain ⟨x,hx1,hx2,hx3⟩:=dg_word he
  have e0:(dg 4294967296 n).getD (Int.toNat 0) (dflt .u32) = (n:Int):=by rw [hx1,hx2]; rfl
  have q5:=q4 n (by omega) (by omega)
  rw [← e0] at q5
  have hr:m % n < 4294967296:=by have:=Nat.mod_lt m (show 0 < n by omega); omega
  refine bN2 ?_
  refine Or.inl (eX _ (aN (q5) ?_))
  refine Or.inl (eX _ (aN (s_trimmed [((m % n:Nat):Int)] (Dg.cons ⟨Int.natCast_nonneg _,Int.ofNat_lt.2 hr⟩ (Dg.nil _))) ?_))
  rw [vl_word]
  (repeat' (first | exact trivial | exact Or.inl rfl | exact Or.inr ⟨rfl,_,rfl⟩ | refine aN ?_ ?_))
 ·have he:(dg 4294967296 n).length≠1:=by have:=ne_of_beq_false he; omega
  refine Or.inl (eX _ (aN (q3) ?_))
  refine Or.inl (eX _ (aN (s_long m n ((dg 4294967296 n).length - 2) (by omega) (by omega) hd) ?_))
  (repeat' (first | exact trivial | exact Or.inl rfl | exact Or.inr ⟨rfl,_,rfl⟩ | refine aN ?_ ?_))
theorem s_divMod (a b:List Int) (ha:Dg 4294967296 a) (hb:Dg 4294967296 b) (hla:a.length≤100000) (hlb:b.length≤100000):PSpec Tryd.prog 231 [.rd .u32 a,.rd .u32 b] (divR (vl 4294967296 a) (vl 4294967296 b)) :=
 pspec_of_vcL Γ_good Tryd.func231 rfl Tryd.call231 Tryd.results231 Tryd.ntmps231 (Nat.le_of_ble_eq_true rfl) (w_divMod a b ha hb hla hlb)
end
end Go.Proofs.YtdcdmojbkmedpaaDoor
end
section
namespace Go.Proofs.YtdcdmojbkmedpaaDoor
open Go Go.SX Go.Bg
set_option maxRecDepth 100000
set_option maxHeartbeats 0
def wnil (m:Nat):AV:=if m = 0 then .nl else .rd .u32 (dg 4294967296 m)
theorem shift_left {m p:Nat} (hm:0 < m) (k:Nat) (hp:2 ^ k * m = p) (j:Nat):List.replicate j (0:Int)++dg 4294967296 p = dg 4294967296 (4294967296 ^ j * p):=by
 have hp0:0 < p:=by rw [← hp]; exact Nat.mul_pos (Nat.pow_pos (by decide)) hm
 have hne:dg 4294967296 p≠[]:=fun e=>by have:=(dg_nil_iff b32 p).1 e; omega
 have:=canon b32 (l:=List.replicate j (0:Int)++dg 4294967296 p) ((Dg.replicate (by decide) _).append (dg_Dg b32 p)) (by
  rw [List.getLast?_append,List.getLast?_eq_some_getLast hne]
  have:=dg_last_ne b32 p
  rw [List.getLast?_eq_some_getLast hne] at this
  simpa using this)
 rw [vl_append,vl_replicate,vl_dg b32,Nat.zero_add,List.length_replicate] at this
 exact this.symm
theorem pow_words (n:Nat):4294967296 ^ (n / 32) * 2 ^ (n % 32) = 2 ^ n:=by
 rw [show (4294967296:Nat) = 2 ^ 32 from rfl,← Nat.pow_mul,← Nat.pow_add,Nat.div_add_mod]
def shiftR (m:Nat) (n:Int):AV :=
 if n > 4000 then .tup [.nl,.i .i64 2] else if 0≤n then .tup [wnil (2 ^ n.toNat * m),.i .i64 0] else
  if m = 0∨n≤-32 * ((dg 4294967296 m).length:Int) then .tup [.nl,.i .i64 0] else .tup [.rd .u32 (dg 4294967296 (m / 2 ^ (-n).toNat)),.i .i64 0]
theorem tdiv32 (m:Nat):(m:Int).tdiv 32 = ((m / 32:Nat):Int):=rfl
theorem tmod32 (m:Nat):(m:Int).tmod 32 = ((m % 32:Nat):Int):=rfl
theorem left_len {m p k:Nat} (h:(dg 4294967296 m).length≤k):(dg 4294967296 (2 ^ (p % 32) * m)).length≤k + 1:=dg_len_le b32 _ _ (by
 rw [Nat.pow_succ,Nat.mul_comm]
 have h1:m < 4294967296 ^ k:=Nat.lt_of_lt_of_le (dg_lt_pow b32 m) (Nat.pow_le_pow_right (by decide) h)
 have h2:2 ^ (p % 32)≤2 ^ 32:=Nat.pow_le_pow_right (by decide) (by omega)
 exact Nat.mul_lt_mul_of_lt_of_le h1 h2 (by decide))
section
variable [G:Globs]
theorem w_shift (a:List Int) (n:Int) (ha:Dg 4294967296 a) (hla:a.length≤100000) (hn : -9223372036854775808≤n):vc Tryd.prog Γ 41 [0,1,4,5,8,11,15,26] (Tryd.f230.body.getD .skip) (postK Γ [.tmp 4,.tmp 5] (fun v=>v = shiftR (vl 4294967296 a) n)) ⟨argSlots 0 [.rd .u32 a,.i .i64 n],[]⟩:=by
 refine Or.inl (eX _ (aN (s_trimmed a ha) ?_))
 have hml:(dg 4294967296 (vl 4294967296 a)).length≤100000:=Nat.le_trans (dg_len_le b32 _ _ (vl_lt ha)) hla
 generalize vl 4294967296 a = m at hml
 refine aN (fun h1=>?_) (fun h1=>?_)
 ·have h1:4000 < n:=of_decide_eq_true h1
  show _ = shiftR m n
  rw [shiftR,if_pos h1]
  rfl
 ·have h1:¬ 4000 < n:=of_decide_eq_false h1
  intro _
  refine aN (fun h2=>?_) (fun h2=>?_)
  ·have h2 : m = 0 := by
    have:=eq_of_beq h2
    rcases Nat.eq_zero_or_pos m with h | h
    ·exact h
    ·have:=dg_len_pos b32 h
     omega
   subst h2
   show _ = shiftR 0 n
   rw [shiftR,if_neg h1]
   by_cases h3:0≤n
   ·rw [if_pos h3,Nat.mul_zero]; rfl
   ·rw [if_neg h3,if_pos (.inl rfl)]; rfl
  ·have hm : 0 < m := by
    have:=ne_of_beq_false h2
    rcases Nat.eq_zero_or_pos m with h | h
    ·subst h; exact absurd rfl this
    ·exact h
   refine aN (fun h3=>?_) (fun h3=>?_)
   ·obtain ⟨p,rfl⟩:=nn_of h3
    refine eX [.take 0,.take 1,.take 3,.take 4,.take 5,.two 2 6,.one 7,.blk [8,9]] (aN (by kernel_rfl) ?_)
    have hml2:=Nat.le_trans hml (show 100000≤1000000 by decide)
    have ql:=s_left m (p % 32) (Nat.mod_lt _ (by decide)) hml2
    have hpl:p≤4000:=by omega
    have hlen:(dg 4294967296 (2 ^ (p % 32) * m)).length≤100001:=left_len hml
    have hsl:=shift_left hm (p % 32) rfl (p / 32)
    rw [← Nat.mul_assoc,pow_words] at hsl
    refine aN (by decide) ?_
    refine aN (rng64 (by rw [tdiv32]; omega) (by rw [tdiv32]; omega)) ?_
    refine aN (by decide) ?_
    refine eX ⟨[(20,.vec 20 .u32 (List.replicate (p / 32) 0)),(24,.rd .u32 (dg 4294967296 (2 ^ (p % 32) * m)))],[]⟩ (aN ?_ (aN ?_ ?_))
    ·refine aN ⟨by rw [tdiv32]; omega,Int.le_refl _,by rw [tdiv32]; omega,by show (p / 32) * 4≤_; omega⟩ ?_
     refine Or.inl (eX _ (aN (ql) ?_))
     (repeat' (first | exact trivial | exact Or.inl rfl | exact Or.inr (Or.inl ⟨rfl,_,rfl⟩) | exact Or.inr (Or.inr (Or.inr ⟨_,_,_,rfl,rfl⟩)) | refine aN ?_ ?_))
    ·refine Or.inl (eX _ (aN (ql) ?_))
     refine aN ⟨by rw [tdiv32]; omega,Int.le_refl _,by rw [tdiv32]; omega,by show (p / 32) * 4≤_; omega⟩ ?_
     (repeat' (first | exact trivial | exact Or.inl rfl | exact Or.inr (Or.inl ⟨rfl,_,rfl⟩) | exact Or.inr (Or.inr (Or.inr ⟨_,_,_,rfl,rfl⟩)) | refine aN ?_ ?_))
    ·refine aN (by show ((List.replicate (p / 32) (0:Int)).length + (dg 4294967296 (2 ^ (p % 32) * m)).length) * 4≤_; rw [List.length_replicate]; omega) ?_
     show _ = shiftR m p
     rw [shiftR,if_neg h1,if_pos (by omega),wnil,Int.toNat_natCast,if_neg (by have:=Nat.mul_pos (show 0 < 2 ^ p from Nat.pow_pos (by decide)) hm; omega),← hsl]
     rfl
   ·have h3:¬ 0≤n:=of_decide_eq_false h3
    obtain ⟨p,rfl⟩:∃ p:Nat,n = -(p:Int):=⟨(-n).toNat,by omega⟩
    intro _
    (refine rNG ?_)
    have hneg:(0:Int) - -(p:Int) = (p:Int):=by omega
    refine aN (fun h4=>?_) (fun h4=>?_)
    ·have h4 : -(p:Int)≤-32 * ((dg 4294967296 m).length:Int):=of_decide_eq_true h4
     show _ = shiftR m _
     rw [shiftR,if_neg h1,if_neg h3,if_pos (.inr h4)]
     rfl
    ·have h4:¬ -(p:Int)≤-32 * ((dg 4294967296 m).length:Int):=of_decide_eq_false h4
     have hml2:=Nat.le_trans hml (show 100000≤1000000 by decide)
     have qr:=s_right ((dg 4294967296 m).drop (p / 32)) (p % 32) ((dg_Dg b32 m).drop _) (Nat.mod_lt _ (by decide)) (by rw [List.length_drop]; omega)
     rw [← vl_div b32 (dg_Dg b32 m) (by omega),vl_dg b32,Nat.div_div_eq_div_mul,pow_words] at qr
     refine Or.inl (aN (rng64 (by omega) (by omega)) ?_)
     refine aN (by decide) ?_
     refine aN (rng64 (by rw [hneg,tdiv32]; omega) (by rw [hneg,tdiv32]; omega)) ?_
     refine aN ⟨by rw [hneg,tdiv32]; omega,by rw [hneg,tdiv32]; omega,by omega⟩ ?_
     refine Or.inl (aN (rng64 (by omega) (by omega)) ?_)
     refine aN (by decide) ?_
     have ed:((dg 4294967296 m).take (Int.toNat ((dg 4294967296 m).length:Int))).drop (Int.toNat (Int.tdiv (0 - -(p:Int)) 32)) = (dg 4294967296 m).drop (p / 32):=by
      rw [hneg,tdiv32,Int.toNat_natCast,Int.toNat_natCast,List.take_length]
     have em:Int.tmod (0 - -(p:Int)) 32 = ((p % 32:Nat):Int):=by rw [hneg,tmod32]
     (conv=>whnf)
     rw [ed,em]
     refine Or.inl (eX _ (aN (qr) ?_))
     show _ = shiftR m _
     rw [shiftR,if_neg h1,if_neg h3,if_neg (by omega),show (-(-(p:Int))).toNat = p by omega]
     rfl
theorem s_shift (a:List Int) (n:Int) (ha:Dg 4294967296 a) (hla:a.length≤100000) (hn : -9223372036854775808≤n):PSpec Tryd.prog 230 [.rd .u32 a,.i .i64 n] (shiftR (vl 4294967296 a) n) :=
 pspec_of_vc Γ_good Tryd.func230 rfl Tryd.call230 Tryd.results230 Tryd.ntmps230 (Nat.le_of_ble_eq_true rfl) (w_shift a n ha hla hn)
end
end Go.Proofs.YtdcdmojbkmedpaaDoor
end
section
namespace Go.Proofs.YtdcdmojbkmedpaaDoor
open Go Go.SX Go.Bg
set_option maxRecDepth 100000
set_option maxHeartbeats 0
theorem and1 (m:Nat) (hm:m < 9223372036854775808):bits .and .i64 (m:Int) 1 = ((m % 2:Nat):Int):=by
 have h1:(BitVec.ofInt 64 1).toNat = 2 ^ 1 - 1:=by decide
 have key:(BitVec.ofInt 64 (m:Int) &&& BitVec.ofInt 64 1).toNat = ((m:Int) % ((2 ^ 64:Nat):Int)).toNat % 2 ^ 1:=by
  rw [BitVec.toNat_and,BitVec.toNat_ofInt,h1,Nat.and_two_pow_sub_one_eq_mod]
 show IntKind.i64.wrap ((BitVec.ofInt 64 (m:Int) &&& BitVec.ofInt 64 1).toNat:Nat) = ((m % 2:Nat):Int)
 rw [key,IntKind.wrap_i64]
 omega
theorem shr1 (m:Nat):(m:Int).fdiv (2 ^ (min (Int.toNat 1) IntKind.i64.bits)) = ((m / 2:Nat):Int):=by
 rw [show min (Int.toNat 1) IntKind.i64.bits = 1 from rfl,Int.fdiv_eq_ediv_of_nonneg _ (by decide)]
 rfl
def powR (b:Nat) (n:Int):AV:=if n < 0 then .tup [.nl,.i .i64 1] else if 1000 < n then .tup [.nl,.i .i64 2] else .tup [.rd .u32 (dg 4294967296 (b ^ n.toNat)),.i .i64 0]
theorem pow_len {b k:Nat} (hb:b < 4294967296):(dg 4294967296 (b ^ k)).length≤k + 1:=dg_len_le b32 _ _ (by
 rcases Nat.eq_zero_or_pos k with h | h
 ·subst h; rw [Nat.pow_zero]; decide
 ·refine Nat.lt_of_lt_of_le (Nat.pow_lt_pow_left hb (by omega)) (Nat.pow_le_pow_right (by decide) (by omega)))
section
variable [G:Globs]
theorem w_pow (b:Nat) (n:Int) (hb:b < 4294967296):vc Tryd.prog Γ 32 [0,1,4,5,6,7,8,11,19,24] (Tryd.f228.body.getD .skip) (postK Γ [.tmp 4,.tmp 5] (fun v=>v = powR b n)) ⟨argSlots 0 [.i .u32 b,.i .i64 n],[]⟩:=by
 refine aN (fun h1=>?_) (fun h1=>?_)
 ·have h1:n < 0:=of_decide_eq_true h1
  show _ = powR b n
  rw [powR,if_pos h1]
  rfl
 ·have h1:¬ n < 0:=of_decide_eq_false h1
  refine aN (fun h2=>?_) (fun h2=>?_)
  ·have h2:1000 < n:=of_decide_eq_true h2
   show _ = powR b n
   rw [powR,if_neg h1,if_pos h2]
   rfl
  ·have h2:¬ 1000 < n:=of_decide_eq_false h2
   obtain ⟨p,rfl⟩:∃ p:Nat,n = p:=⟨n.toNat,by omega⟩
   have q0:=s_trimmed [(b:Int)] (Dg.cons ⟨by omega,by omega⟩ (Dg.nil _))
   rw [show vl 4294967296 [(b:Int)] = b ^ 1 by simp [vl]] at q0
   refine Or.inl (eX _ (aN (q0) ?_))
   refine eX [] (eX [] (eX [(14,14)] (eX (Nat × Nat × Nat) (eX (fun x=>x.2.1 + x.2.2 * x.1 = p∧1≤x.2.2) (eX (fun ⟨m,e,f⟩=>⟨[(1,.i .i64 m),(6,.rd .u32 (dg 4294967296 (b ^ e))),(7,.rd .u32 (dg 4294967296 (b ^ f)))],[]⟩) (eX (fun x=>x.1) (eX (p,0,1) (aN ⟨by simp,by simp⟩ (aN ?_ ?_)))))))))
   ·(repeat' (first | exact trivial | exact Or.inl rfl | exact Or.inr (Or.inl ⟨rfl,_,rfl⟩) | exact Or.inr (Or.inr (Or.inr ⟨_,_,_,rfl,rfl⟩)) | refine aN ?_ ?_))
   ·rintro ⟨m,e,f⟩ ⟨g1,g2⟩
    dsimp only at g1 g2
    refine aN (fun hc=>?_) (fun hc=>?_)
    · have hm : 0 < m := by have : (0 : Int) < (m : Int) := of_decide_eq_true hc
                            omega
      have hfm:f * 1≤f * m:=Nat.mul_le_mul_left _ hm
      have hmf:1 * m≤f * m:=Nat.mul_le_mul_right _ g2
      have le:=pow_len (k:=e) hb
      have lf:=pow_len (k:=f) hb
      have q1:=s_mul (dg 4294967296 (b ^ e)) (dg 4294967296 (b ^ f)) (dg_Dg b32 _) (dg_Dg b32 _) (by omega) (by omega)
      have q2:=s_mul (dg 4294967296 (b ^ f)) (dg 4294967296 (b ^ f)) (dg_Dg b32 _) (dg_Dg b32 _) (by omega) (by omega)
      rw [vl_dg b32,vl_dg b32] at q1
      rw [vl_dg b32,← Nat.pow_add] at q2
      have ea:=and1 m (by omega)
      refine aN (fun hd=>?_) (fun hd=>?_)
      ·have hd : m % 2 = 1 := by
        have h9:(bits .and .i64 (m:Int) 1 == 1) = true:=hd
        rw [ea] at h9
        have:=eq_of_beq h9
        omega
       rw [(power_odd (b:=b) hd).1] at q1
       refine Or.inl (eX _ (aN (q1) ?_))
       refine Or.inl (eX _ (aN (q2) ?_))
       refine aN (by decide) ?_
       refine eX [] (eX (m / 2,e + f,f + f) (aN ⟨by have:=(power_odd (b:=b) (e:=e) (f:=f) hd).2; dsimp only; omega,by dsimp only; omega⟩ (aN ?_ ?_)))
       ·(repeat' (first | exact trivial | exact Or.inl rfl | exact Or.inl ((congrArg (AV.i .i64) (shr1 m))) | refine aN ?_ ?_))
       ·show m / 2 < m
        omega
      ·have hd : m % 2 = 0 := by
        have h9:(bits .and .i64 (m:Int) 1 == 1) = false:=hd
        rw [ea] at h9
        have:=ne_of_beq_false h9
        omega
       refine Or.inl (eX _ (aN (q2) ?_))
       refine aN (by decide) ?_
       refine eX [] (eX (m / 2,e,f + f) (aN ⟨by have:=power_even (e:=e) (f:=f) hd; dsimp only; omega,by dsimp only; omega⟩ (aN ?_ ?_)))
       ·(repeat' (first | exact trivial | exact Or.inl rfl | exact Or.inl ((congrArg (AV.i .i64) (shr1 m))) | refine aN ?_ ?_))
       ·show m / 2 < m
        omega
    · have hm : m = 0 := by have : ¬ (0 : Int) < (m : Int) := of_decide_eq_false hc
                            omega
      subst hm
      rw [Nat.mul_zero,Nat.add_zero] at g1
      subst g1
      show _ = powR b _
      rw [powR,if_neg h1,if_neg h2]
      rfl
theorem s_pow (b:Nat) (n:Int) (hb:b < 4294967296):PSpec Tryd.prog 228 [.i .u32 b,.i .i64 n] (powR b n) :=
 pspec_of_vc Γ_good Tryd.func228 rfl Tryd.call228 Tryd.results228 Tryd.ntmps228 (Nat.le_of_ble_eq_true rfl) (w_pow b n hb)
end
end Go.Proofs.YtdcdmojbkmedpaaDoor
end
section
namespace Go.Proofs.YtdcdmojbkmedpaaDoor
open Go Go.SX Go.Bg Go.Fl
set_option maxRecDepth 100000
set_option maxHeartbeats 4000000
def ratN (m:Nat) (e:Int):Nat:=if e < 0 then m else m * 10 ^ e.toNat
def ratD (e:Int):Nat:=if e < 0 then 10 ^ (-e).toNat else 1
section
variable [G:Globs]
theorem w_ratio (m:Nat) (e:Int) (hm:(dg 4294967296 m).length≤400000) (h1 : -1000≤e) (h2:e≤1000):vc Tryd.prog Γ 27 [0,1,4,5,6,9] (Tryd.f186.body.getD .skip) (postK Γ [.tmp 4,.tmp 5] (fun v=>v = .tup [.rd .u32 (dg 4294967296 (ratN m e)),.rd .u32 (dg 4294967296 (ratD e))])) ⟨argSlots 0 [.rd .u32 (dg 4294967296 m),.i .i64 e],[]⟩:=by
 have h':(if (e:Int) < 0 then 1 else 0) = (if e < 0 then 1 else 0:Nat):=rfl
 by_cases h:e < 0
 ·have qp:=s_pow 10 (0 - e) (by decide)
  rw [powR,if_neg (by omega),if_neg (by omega),show (0 - e).toNat = (-e).toNat by omega] at qp
  have hR:AV.tup [.rd .u32 (dg 4294967296 (ratN m e)),.rd .u32 (dg 4294967296 (ratD e))] = .tup [.rd .u32 (dg 4294967296 m),.rd .u32 (dg 4294967296 (10 ^ (-e).toNat))]:=by rw [ratN,ratD,if_pos h,if_pos h]
  rw [hR]
  (repeat' (first | (refine aN (fun h=>?_) (fun h=>?_)<;>(try simp [-List.getD_eq_getElem?_getD,-Int.pred_toNat] at h)<;>(try (exfalso; first | omega | contradiction))) | (refine rNG ?_) | (refine bN2 ?_) | (refine bN3 ?_) | (intro _)))
  refine Or.inl (aN (rng64 (by omega) (by omega)) ?_)
  refine Or.inl (eX _ (aN (qp) ?_))
  rfl
 ·have qp:=s_pow 10 e (by decide)
  rw [powR,if_neg h,if_neg (by omega)] at qp
  have hl:=pow_len (b:=10) (k:=e.toNat) (by decide)
  have qm:=s_mul (dg 4294967296 m) (dg 4294967296 (10 ^ e.toNat)) (dg_Dg b32 _) (dg_Dg b32 _) (by omega) (by omega)
  rw [vl_dg b32,vl_dg b32] at qm
  have hR:AV.tup [.rd .u32 (dg 4294967296 (ratN m e)),.rd .u32 (dg 4294967296 (ratD e))] = .tup [.rd .u32 (dg 4294967296 (m * 10 ^ e.toNat)),.rd .u32 [1]]:=by rw [ratN,ratD,if_neg h,if_neg h,show dg 4294967296 1 = [1] from dg_one (n:=1) (by decide) (by decide)]
  rw [hR]
  (repeat' (first | (refine aN (fun h=>?_) (fun h=>?_)<;>(try simp [-List.getD_eq_getElem?_getD,-Int.pred_toNat] at h)<;>(try (exfalso; first | omega | contradiction))) | (refine rNG ?_) | (refine bN2 ?_) | (refine bN3 ?_) | (intro _)))
  refine Or.inl (eX _ (aN (qp) ?_))
  refine Or.inl (eX _ (aN (qm) ?_))
  rfl
theorem s_ratio (m:Nat) (e:Int) (hm:(dg 4294967296 m).length≤400000) (h1 : -1000≤e) (h2:e≤1000):PSpec Tryd.prog 186 [.rd .u32 (dg 4294967296 m),.i .i64 e] (.tup [.rd .u32 (dg 4294967296 (ratN m e)),.rd .u32 (dg 4294967296 (ratD e))]) :=
 pspec_of_vc Γ_good Tryd.func186 rfl Tryd.call186 Tryd.results186 Tryd.ntmps186 (Nat.le_of_ble_eq_true rfl) (w_ratio m e hm h1 h2)
theorem and1_64 (q:Nat) (h:q < 18446744073709551616):bits .and .u64 (q:Int) 1 = ((q % 2:Nat):Int):=by
 have h1:(BitVec.ofInt 64 1).toNat = 2 ^ 1 - 1:=by decide
 have key:(BitVec.ofInt 64 (q:Int) &&& BitVec.ofInt 64 1).toNat = ((q:Int) % ((2 ^ 64:Nat):Int)).toNat % 2 ^ 1:=by
  rw [BitVec.toNat_and,BitVec.toNat_ofInt,h1,Nat.and_two_pow_sub_one_eq_mod]
 show IntKind.u64.wrap ((BitVec.ofInt 64 (q:Int) &&& BitVec.ofInt 64 1).toNat:Nat) = ((q % 2:Nat):Int)
 rw [key,IntKind.wrap_u64]
 omega
theorem shiftR_up {m p:Nat} (hm:0 < m) (hp:p≤4000):shiftR m (p:Int) = .tup [.rd .u32 (dg 4294967296 (2 ^ p * m)),.i .i64 0]:=by
 have:=Nat.mul_pos (Nat.pow_pos (a:=2) (n:=p) (by decide)) hm
 rw [shiftR,if_neg (by omega),if_pos (by omega),Int.toNat_natCast,wnil,if_neg (by omega)]
theorem words64 {Q k:Nat} (hQ:Q < 18446744073709551616) (l:List Int) (hl:dg 4294967296 Q = l) (x:Nat) (hx:(l.getD k 0).toNat = x):vl 4294967296 (l.drop k) = x + 4294967296 * vl 4294967296 (l.drop (k + 1))∧vl 4294967296 (l.drop (k + 1)) < 4294967296∧vl 4294967296 (l.drop k)≤Q:=by
 have hd:=vl_drop 4294967296 l k
 have hv:=vl_dg b32 Q
 rw [hl] at hv
 have hle:vl 4294967296 (l.drop k)≤Q:=by
  rcases Nat.lt_or_ge k l.length with h | h
  ·have:=vl_split 4294967296 l k (by omega)
   rw [hv] at this
   have h1:1 * vl 4294967296 (l.drop k)≤4294967296 ^ k * vl 4294967296 (l.drop k):=Nat.mul_le_mul_right _ (Nat.pow_pos (by decide))
   omega
  ·rw [List.drop_of_length_le h]; exact Nat.zero_le _
 rw [hx] at hd
 exact ⟨hd,by omega,hle⟩
theorem or64w {o x:Nat} (ho:o < 4294967296) (hx:x < 4294967296):bits .or .u64 (IntKind.u64.wrap ((o:Int) * 2 ^ (min (Int.toNat 32) IntKind.u64.bits))) (IntKind.u64.wrap (x:Int)) = ((x + 4294967296 * o:Nat):Int):=by
 rw [or64 ho hx]
 omega
theorem up_len {m p k L:Nat} (h:p < 32 * k) (hm:(dg 4294967296 m).length≤L):(dg 4294967296 (2 ^ p * m)).length≤L + k:=dg_len_le b32 _ _ (by
 rw [Nat.pow_add,Nat.mul_comm,pow_bits k]
 exact Nat.mul_lt_mul'' (Nat.lt_of_lt_of_le (dg_lt_pow b32 m) (Nat.pow_le_pow_right (by decide) hm)) (Nat.pow_lt_pow_right (by decide) h))
theorem sum_len {R D K:Nat} (h:R < D) (hD:(dg 4294967296 D).length≤K):(dg 4294967296 (R + R)).length≤K + 1:=dg_len_le b32 _ _ (by
 have h5:=Nat.lt_of_lt_of_le (dg_lt_pow b32 D) (Nat.pow_le_pow_right (n:=4294967296) (by decide) hD)
 rw [Nat.pow_succ]
 generalize 4294967296 ^ K = P at *
 omega)
theorem inc64 {q:Nat} (h:q < 18446744073709551615):IntKind.u64.wrap ((q:Int) + 1) = ((q + 1:Nat):Int):=by rw [IntKind.wrap_u64]; omega
theorem w_scaled (m n:Nat) (e:Int) (hm:0 < m) (hn:0 < n) (hml:(dg 4294967296 m).length≤20000) (hnl:(dg 4294967296 n).length≤20000) (h1 : -4000≤e) (h2:e≤4000) (hq:upN m e / upD n e < 18446744073709551615):VCs Tryd.prog Γ 69 [0,1,2,6,7,8,10,11,12,14,39,65] (Tryd.f188.body.getD .skip) (postK Γ [.tmp 6] (fun v=>v = .i .u64 (sc m n e:Nat))) ⟨argSlots 0 [.rd .u32 (dg 4294967296 m),.rd .u32 (dg 4294967296 n),.i .i64 e],[]⟩:=by
 have hN0:=upN_pos hm e
 have hD0:=upD_pos hn e
 have hNl:(dg 4294967296 (upN m e)).length≤20126:=up_len (k:=126) (by omega) hml
 have hDl:(dg 4294967296 (upD n e)).length≤20126:=up_len (k:=126) (by omega) hnl
 refine VCs.seq (by first | exact Γ_good | exact Ctx.good_kp Γ_good _) ?_
 refine VCs.cut (by first | exact Γ_good | exact Ctx.good_kp Γ_good _) Unit (fun _=>True) (fun _=>⟨[(0,.rd .u32 (dg 4294967296 (upN m e))),(1,.rd .u32 (dg 4294967296 (upD n e))),(2,.i .i64 e)],[]⟩) ?_ ?_
 ·by_cases h:0≤e
  ·obtain ⟨p,rfl⟩:∃ p:Nat,e = p:=⟨e.toNat,by omega⟩
   have qs:=s_shift (dg 4294967296 n) (p:Int) (dg_Dg b32 _) (by omega) (by omega)
   rw [vl_dg b32,shiftR_up hn (by omega)] at qs
   have e1:upN m (p:Int) = m:=by rw [upN,show (-(p:Int)).toNat = 0 by omega,Nat.pow_zero,Nat.one_mul]
   have e2:upD n (p:Int) = 2 ^ p * n:=rfl
   rw [e1,e2]
   (repeat' (first | (refine aN (fun h=>?_) (fun h=>?_)<;>(try simp [-List.getD_eq_getElem?_getD,-Int.pred_toNat] at h)<;>(try (exfalso; first | omega | contradiction))) | (refine rNG ?_) | (refine bN2 ?_) | (refine bN3 ?_) | (intro _)))
   refine Or.inl (eX _ (aN (qs) ?_))
   refine eX () (aN trivial ?_)
   (repeat' (first | exact trivial | exact Or.inl rfl | exact Or.inr (Or.inl ⟨rfl,_,rfl⟩) | exact Or.inr (Or.inr (Or.inr ⟨_,_,_,rfl,rfl⟩)) | refine aN ?_ ?_))
  ·obtain ⟨p,hp,rfl⟩:∃ p:Nat,0 < p∧e = -(p:Int):=⟨(-e).toNat,by omega,by omega⟩
   have qs:=s_shift (dg 4294967296 m) (p:Int) (dg_Dg b32 _) (by omega) (by omega)
   rw [vl_dg b32,shiftR_up hm (by omega),show (p:Int) = 0 - -(p:Int) by omega] at qs
   have e1:upN m (-(p:Int)) = 2 ^ p * m:=by rw [upN,show (- -(p:Int)).toNat = p by omega]
   have e2:upD n (-(p:Int)) = n:=by rw [upD,show (-(p:Int)).toNat = 0 by omega,Nat.pow_zero,Nat.one_mul]
   rw [e1,e2]
   (repeat' (first | (refine aN (fun h=>?_) (fun h=>?_)<;>(try simp [-List.getD_eq_getElem?_getD,-Int.pred_toNat] at h)<;>(try (exfalso; first | omega | contradiction))) | (refine rNG ?_) | (refine bN2 ?_) | (refine bN3 ?_) | (intro _)))
   refine Or.inl (aN (rng64 (by omega) (by omega)) ?_)
   refine Or.inl (eX _ (aN (qs) ?_))
   refine eX () (aN trivial ?_)
   (repeat' (first | exact trivial | exact Or.inl rfl | exact Or.inr (Or.inl ⟨rfl,_,rfl⟩) | exact Or.inr (Or.inr (Or.inr ⟨_,_,_,rfl,rfl⟩)) | refine aN ?_ ?_))
 rintro ⟨⟩ _
 have qd:=s_divMod (dg 4294967296 (upN m e)) (dg 4294967296 (upD n e)) (dg_Dg b32 _) (dg_Dg b32 _) (by omega) (by omega)
 rw [vl_dg b32,vl_dg b32,divR,if_neg (by omega)] at qd
 unfold sc
 generalize upN m e = A at *
 generalize upD n e = D at *
 refine VCs.seq (by first | exact Γ_good | exact Ctx.good_kp Γ_good _) ?_
 refine Or.inl (eX _ (aN (qd) ?_))
 have hR:=Nat.mod_lt A hD0
 have hRl:(dg 4294967296 (A % D)).length≤20126:=Nat.le_trans (dg_len_le b32 _ _ (Nat.lt_trans hR (dg_lt_pow b32 D))) hDl
 have qa:=s_add (dg 4294967296 (A % D)) (dg 4294967296 (A % D)) (dg_Dg b32 _) (dg_Dg b32 _) (by omega) (by omega)
 rw [vl_dg b32] at qa
 have hSl:=sum_len hR hDl
 have qc:=s_cmp (dg 4294967296 (A % D + A % D)) (dg 4294967296 D) (dg_Dg b32 _) (dg_Dg b32 _) (by omega) (by omega)
 rw [vl_dg b32,vl_dg b32] at qc
 have hrhe:rhe A D = if D < 2 * (A % D)∨(2 * (A % D) = D∧A / D % 2 = 1) then A / D + 1 else A / D:=rfl
 generalize rhe A D = T at *
 generalize A / D = Q at *
 generalize A % D = R at *
 refine VCs.seq (by first | exact Γ_good | exact Ctx.good_kp Γ_good _) ?_
 refine VCs.cut (by first | exact Γ_good | exact Ctx.good_kp Γ_good _) Unit (fun _=>True) (fun _=>⟨[(1,.rd .u32 (dg 4294967296 D)),(8,.rd .u32 (dg 4294967296 R)),(10,.i .u64 Q)],[]⟩) ?_ ?_
 ·have hl:=dg_Dg b32 Q
  have hv:=vl_dg b32 Q
  have hQl:(dg 4294967296 Q).length≤2:=dg_len_le b32 _ _ (Nat.lt_of_lt_of_le hq (by decide))
  have hw:=fun k x=>words64 (Q:=Q) (k:=k) (by omega) _ rfl x
  generalize dg 4294967296 Q = l at *
  intro _
  (repeat' (first | (refine aN (fun h=>?_) (fun h=>?_)<;>(try simp [-List.getD_eq_getElem?_getD,-Int.pred_toNat] at h)<;>(try (exfalso; first | omega | contradiction))) | (refine rNG ?_) | (refine bN2 ?_) | (refine bN3 ?_) | (intro _)))
  refine eX [] (eX [] (eX [] (eX (Int × Nat) (eX (fun x=>-1≤x.1∧x.1 < l.length∧x.2 = vl 4294967296 (l.drop (x.1 + 1).toNat)) (eX (fun ⟨j,o⟩=>⟨[(1,.rd .u32 (dg 4294967296 D)),(7,.rd .u32 l),(8,.rd .u32 (dg 4294967296 R)),(10,.i .u64 o),(11,.i .i64 j)],[]⟩) (eX (fun x=>(x.1 + 1).toNat) (eX ((l.length:Int) - 1,0) (aN ⟨by dsimp only; omega,by dsimp only; omega,by dsimp only; rw [List.drop_of_length_le (by omega)]; rfl⟩ (aN ?_ ?_)))))))))
  ·(repeat' (first | exact trivial | exact Or.inl rfl | exact Or.inr (Or.inl ⟨rfl,_,rfl⟩) | exact Or.inr (Or.inr (Or.inr ⟨_,_,_,rfl,rfl⟩)) | refine aN ?_ ?_))
  rintro ⟨j,o⟩ ⟨i1,i2,i3⟩
  dsimp only at i1 i2 i3
  refine aN (fun hc=>?_) (fun hc=>?_)
  ·obtain ⟨k,rfl⟩:=nn_of hc
   rw [show ((k:Int) + 1).toNat = k + 1 by omega] at i3
   obtain ⟨x,hx,hxl,hxn⟩:=get32 hl k
   obtain ⟨w1,w2,w3⟩:=hw k x hxn
   rw [← i3] at w1 w2
   have e1:=or64w w2 hxl
   rw [← hx] at e1
   refine aN (by decide) ?_
   refine bN2 ?_
   (repeat' (first | (refine aN (fun h=>?_) (fun h=>?_)<;>(try simp [-List.getD_eq_getElem?_getD,-Int.pred_toNat] at h)<;>(try (exfalso; first | omega | contradiction))) | (refine rNG ?_) | (refine bN2 ?_) | (refine bN3 ?_) | (intro _)))
   refine eX [] (eX ((k:Int) - 1,x + 4294967296 * o) (aN ⟨by dsimp only; omega,by dsimp only; omega,by dsimp only; rw [show ((k:Int) - 1 + 1).toNat = k by omega]; exact w1.symm⟩ (aN ?_ ?_)))
   ·(repeat' (first | exact trivial | exact Or.inl rfl | exact Or.inl ((congrArg (AV.i .u64) e1)) | refine aN ?_ ?_))
   ·show ((k:Int) - 1 + 1).toNat < ((k:Int) + 1).toNat
    omega
  · have hj : j = -1 := by have : ¬ 0 ≤ j := of_decide_eq_false hc
                           omega
    subst hj
    have hoQ:o = Q:=by rw [i3]; exact hv
    refine eX () (aN trivial ?_)
    (repeat' (first | exact trivial | exact Or.inl rfl | exact Or.inl ((congrArg (fun n:Nat=>AV.i .u64 n) hoQ)) | refine aN ?_ ?_))
 rintro ⟨⟩ _
 refine VCs.of_vc (by first | exact Γ_good | exact Ctx.good_kp Γ_good _) ?_
 refine Or.inl (eX _ (aN (qa) ?_))
 refine Or.inl (eX _ (aN (qc) ?_))
 have ev:=and1_64 Q (by omega)
 have ei:=inc64 (q:=Q) (by omega)
 rcases Nat.lt_trichotomy (R + R) D with h | h | h
 ·have hc:cmpN (R + R) D = -1:=by unfold cmpN; rw [if_pos h]
  rw [hc]
  rw [if_neg (by omega)] at hrhe
  (focus (refine aN ?_ (fun h9=>?_); rotate_left 1; (focus (exfalso; revert h9; first | decide | (simp<;>omega) | (intro h9; simp at h9<;>omega))); refine fun _=>?_))
  (focus (refine aN (fun h9=>?_) ?_; (focus (exfalso; revert h9; first | decide | (simp<;>omega) | (intro h9; simp at h9<;>omega))); refine fun _=>?_))
  (focus (refine aN (fun h9=>?_) ?_; (focus (exfalso; revert h9; first | decide | (simp<;>omega) | (intro h9; simp at h9<;>omega))); refine fun _=>?_))
  rw [hrhe]
  rfl
 ·have hc:cmpN (R + R) D = 0:=by unfold cmpN; rw [if_neg (by omega),if_neg (by omega)]
  rw [hc]
  (focus (refine aN ?_ (fun h9=>?_); rotate_left 1; (focus (exfalso; revert h9; first | decide | (simp<;>omega) | (intro h9; simp at h9<;>omega))); refine fun _=>?_))
  (focus (refine aN ?_ (fun h9=>?_); rotate_left 1; (focus (exfalso; revert h9; first | decide | (simp<;>omega) | (intro h9; simp at h9<;>omega))); refine fun _=>?_))
  refine aN (fun hc=>?_) (fun hc=>?_)
  ·have hc:(bits .and .u64 (Q:Int) 1 == 1) = true:=hc
   rw [ev] at hc
   have hc:=eq_of_beq hc
   rw [if_pos (by omega)] at hrhe
   rw [hrhe]
   exact congrArg (AV.i .u64) ei
  ·have hc:(bits .and .u64 (Q:Int) 1 == 1) = false:=hc
   rw [ev] at hc
   have hc:=ne_of_beq_false hc
   rw [if_neg (by omega)] at hrhe
   rw [hrhe]
   rfl
 ·have hc:cmpN (R + R) D = 1:=by unfold cmpN; rw [if_neg (by omega),if_pos h]
  rw [hc]
  rw [if_pos (by omega)] at hrhe
  (focus (refine aN (fun h9=>?_) ?_; (focus (exfalso; revert h9; first | decide | (simp<;>omega) | (intro h9; simp at h9<;>omega))); refine fun _=>?_))
  (focus (refine aN ?_ (fun h9=>?_); rotate_left 1; (focus (exfalso; revert h9; first | decide | (simp<;>omega) | (intro h9; simp at h9<;>omega))); refine fun _=>?_))
  rw [hrhe]
  exact congrArg (AV.i .u64) ei
theorem s_scaled (m n:Nat) (e:Int) (hm:0 < m) (hn:0 < n) (hml:(dg 4294967296 m).length≤20000) (hnl:(dg 4294967296 n).length≤20000) (h1 : -4000≤e) (h2:e≤4000) (hq:upN m e / upD n e < 18446744073709551615):PSpec Tryd.prog 188 [.rd .u32 (dg 4294967296 m),.rd .u32 (dg 4294967296 n),.i .i64 e] (.i .u64 (sc m n e:Nat)) :=
 pspec_of_VCs Γ_good Tryd.func188 rfl Tryd.call188 Tryd.results188 Tryd.ntmps188 (Nat.le_of_ble_eq_true rfl) (w_scaled m n e hm hn hml hnl h1 h2 hq) Γ_good
end
end Go.Proofs.YtdcdmojbkmedpaaDoor
end
section
namespace Go.Proofs.YtdcdmojbkmedpaaDoor
open Go Go.SX Go.Bg Go.Fl
set_option maxRecDepth 100000
set_option maxHeartbeats 4000000
def nearF (m:Nat) (e:Int):Nat:=if m = 0 then 0 else near (ratN m e) (ratD e)
def nearA (m:Nat) (e:Int):AV:=if 1280 < bl m∨e < -1000∨1000 < e then .tup [.i .u64 0,.i .i64 2] else .tup [.i .u64 (nearF m e:Nat),.i .i64 0]
theorem ratN_pos {m:Nat} (h:0 < m) (e:Int):0 < ratN m e:=by unfold ratN; split; exact h; exact Nat.mul_pos h (Nat.pow_pos (by decide))
theorem ratD_pos (e:Int):0 < ratD e:=by unfold ratD; split; exact Nat.pow_pos (by decide); decide
theorem bl_len {m K:Nat} (h:bl m≤32 * K):(dg 4294967296 m).length≤K:=dg_len_le b32 _ _ (by
 rw [pow_bits]
 exact Nat.lt_of_lt_of_le (bl_lt m) (Nat.pow_le_pow_right (by decide) h))
theorem len_bl {m K:Nat} (h:(dg 4294967296 m).length≤K):bl m≤32 * K:=by
 rcases Nat.eq_zero_or_pos m with h0 | h0
 ·subst h0; exact Nat.zero_le _
 ·have h1:=Nat.lt_of_lt_of_le (dg_lt_pow b32 m) (Nat.pow_le_pow_right (n:=4294967296) (by decide) h)
  rw [pow_bits] at h1
  obtain ⟨k,k1,k2,_⟩:=bl_bounds h0
  have:=(Nat.pow_lt_pow_iff_right (a:=2) (by decide)).1 (Nat.lt_of_le_of_lt k2 h1)
  omega
theorem mul_len {a b j k:Nat} (ha:(dg 4294967296 a).length≤j) (hb:(dg 4294967296 b).length≤k):(dg 4294967296 (a * b)).length≤j + k:=dg_len_le b32 _ _ (by
 rw [Nat.pow_add]
 exact Nat.mul_lt_mul'' (Nat.lt_of_lt_of_le (dg_lt_pow b32 a) (Nat.pow_le_pow_right (by decide) ha)) (Nat.lt_of_lt_of_le (dg_lt_pow b32 b) (Nat.pow_le_pow_right (by decide) hb)))
theorem ratN_len {m:Nat} {e:Int} {K:Nat} (h:(dg 4294967296 m).length≤K) (he:e≤1000):(dg 4294967296 (ratN m e)).length≤K + 1001:=by
 unfold ratN
 split
 ·omega
 ·exact mul_len h (Nat.le_trans (pow_len (by decide)) (by omega))
theorem ratD_len {e:Int} (he : -1000≤e):(dg 4294967296 (ratD e)).length≤1001:=by
 unfold ratD
 split
 ·exact Nat.le_trans (pow_len (by decide)) (by omega)
 ·exact Nat.le_trans (dg_len_le b32 1 1 (by decide)) (by decide)
def finE (q:Nat) (e:Int):Nat:=if q = 9007199254740992 then bitsE 4503599627370496 (e + 1) else bitsE q e
theorem bits_fin {q : Nat} {e : Int} (he : -1074 ≤ e) (h : e ≤ 971) (h1 : 4503599627370496 ≤ q) (h2 : q < 9007199254740992) :
  IntKind.u64.wrap (IntKind.u64.wrap (IntKind.u64.wrap (e + 1075) * 2 ^ (min (Int.toNat 52) IntKind.u64.bits)) + IntKind.u64.wrap ((q:Int) - 4503599627370496)) = (((e + 1075).toNat * 4503599627370496 + (q - 4503599627370496):Nat):Int):=by
 obtain ⟨k,hk⟩:∃ k:Nat,e + 1075 = k:=⟨(e + 1075).toNat,by omega⟩
 have hp:(2:Int) ^ (min (Int.toNat 52) IntKind.u64.bits) = 4503599627370496:=rfl
 rw [hk,hp,Int.toNat_natCast]
 simp only [IntKind.wrap_u64]
 omega
section
variable [G:Globs]
theorem w_near (a:List Int) (e:Int) (ha:Dg 4294967296 a) (hla:a.length≤100000):VCs Tryd.prog Γ 70 [0,1,4,5,6,7,8,9,20,23,39,45,53,56,59] (Tryd.f114.body.getD .skip) (postK Γ [.tmp 4,.tmp 5] (fun v=>v = nearA (vl 4294967296 a) e)) ⟨argSlots 0 [.rd .u32 a,.i .i64 e],[]⟩:=by
 have ql:=s_len a ha (by omega)
 have qt:=s_trim a ha (by omega)
 generalize vl 4294967296 a = m at *
 refine VCs.seq (by first | exact Γ_good | exact Ctx.good_kp Γ_good _) ?_
 by_cases h1:1280 < bl m
 ·have hR:nearA m e = .tup [.i .u64 0,.i .i64 2]:=by rw [nearA,if_pos (.inl h1)]
  rw [hR]
  refine VCs.of_vc (by first | exact Γ_good | exact Ctx.good_kp Γ_good _) ?_
  refine Or.inl (eX _ (aN (ql) ?_))
  (repeat' (first | (refine aN (fun h=>?_) (fun h=>?_)<;>(try simp [-List.getD_eq_getElem?_getD,-Int.pred_toNat] at h)<;>(try (exfalso; first | omega | contradiction))) | (refine rNG ?_) | (refine bN2 ?_) | (refine bN3 ?_) | (intro _)))
  all_goals rfl
 by_cases h2:e < -1000
 ·have hR:nearA m e = .tup [.i .u64 0,.i .i64 2]:=by rw [nearA,if_pos (.inr (.inl h2))]
  rw [hR]
  refine VCs.of_vc (by first | exact Γ_good | exact Ctx.good_kp Γ_good _) ?_
  refine Or.inl (eX _ (aN (ql) ?_))
  (repeat' (first | (refine aN (fun h=>?_) (fun h=>?_)<;>(try simp [-List.getD_eq_getElem?_getD,-Int.pred_toNat] at h)<;>(try (exfalso; first | omega | contradiction))) | (refine rNG ?_) | (refine bN2 ?_) | (refine bN3 ?_) | (intro _)))
  all_goals rfl
 by_cases h3:1000 < e
 ·have hR:nearA m e = .tup [.i .u64 0,.i .i64 2]:=by rw [nearA,if_pos (.inr (.inr h3))]
  rw [hR]
  refine VCs.of_vc (by first | exact Γ_good | exact Ctx.good_kp Γ_good _) ?_
  refine Or.inl (eX _ (aN (ql) ?_))
  (repeat' (first | (refine aN (fun h=>?_) (fun h=>?_)<;>(try simp [-List.getD_eq_getElem?_getD,-Int.pred_toNat] at h)<;>(try (exfalso; first | omega | contradiction))) | (refine rNG ?_) | (refine bN2 ?_) | (refine bN3 ?_) | (intro _)))
  all_goals rfl
 have hR:nearA m e = .tup [.i .u64 (nearF m e:Nat),.i .i64 0]:=by rw [nearA,if_neg (by omega)]
 rw [hR]
 refine VCs.seq (by first | exact Γ_good | exact Ctx.good_kp Γ_good _) ?_
 refine Or.inl (eX _ (aN (ql) ?_))
 (repeat' (first | (refine aN (fun h=>?_) (fun h=>?_)<;>(try simp [-List.getD_eq_getElem?_getD,-Int.pred_toNat] at h)<;>(try (exfalso; first | omega | contradiction))) | (refine rNG ?_) | (refine bN2 ?_) | (refine bN3 ?_) | (intro _)))
 refine VCs.seq (by first | exact Γ_good | exact Ctx.good_kp Γ_good _) ?_
 refine Or.inl (eX _ (aN (ql) ?_))
 by_cases hm:m = 0
 ·subst hm
  have hz:nearF 0 e = 0:=rfl
  rw [hz]
  (focus (refine aN ?_ (fun h9=>?_); rotate_left 1; (focus (exfalso; revert h9; first | decide | (simp<;>omega) | (intro h9; simp at h9<;>omega))); refine fun _=>?_))
  rfl
 have hm:0 < m:=by omega
 have hz:nearF m e = near (ratN m e) (ratD e):=by rw [nearF,if_neg (by omega)]
 rw [hz]
 refine aN (fun h9=>absurd (eq_of_beq h9) (by have:=bl_pos hm; omega)) (fun _=>?_)
 have hml:=bl_len (m:=m) (K:=40) (by omega)
 have qr:=s_ratio m e (by omega) (by omega) (by omega)
 have hN:=ratN_pos hm e
 have hD:=ratD_pos e
 have hNl:=ratN_len (e:=e) hml (by omega)
 have hDl:=ratD_len (e:=e) (by omega)
 generalize ratN m e = N at *
 generalize ratD e = D at *
 have hNb:=len_bl hNl
 have hDb:=len_bl hDl
 have qN:=s_len (dg 4294967296 N) (dg_Dg b32 _) (by omega)
 have qD:=s_len (dg 4294967296 D) (dg_Dg b32 _) (by omega)
 rw [vl_dg b32] at qN qD
 have hw:=near_way (n:=N) (d:=D) hD
 have hlt:=e0_lt N hD
 have hge:=e0_ge N D
 have h0:e0 N D = if ((bl N:Int) - bl D - 53) < -1074 then -1074 else (bl N:Int) - bl D - 53:=rfl
 refine VCs.seq (by first | exact Γ_good | exact Ctx.good_kp Γ_good _) ?_
 refine Or.inl (eX _ (aN (qt) ?_))
 refine Or.inl (eX _ (aN (qr) ?_))
 refine VCs.cut (by first | exact Γ_good | exact Ctx.good_kp Γ_good _) Unit (fun _=>True) (fun _=>⟨[(6,.rd .u32 (dg 4294967296 N)),(7,.rd .u32 (dg 4294967296 D)),(8,.i .i64 (e0 N D))],[]⟩) ?_ ?_
 ·refine Or.inl (eX _ (aN (qN) ?_))
  refine Or.inl (eX _ (aN (qD) ?_))
  (repeat' (first | (refine aN (fun h=>?_) (fun h=>?_)<;>(try simp [-List.getD_eq_getElem?_getD,-Int.pred_toNat] at h)<;>(try (exfalso; first | omega | contradiction))) | (refine rNG ?_) | (refine bN2 ?_) | (refine bN3 ?_) | (intro _)))
  refine eX () (aN trivial ?_)
  (repeat' (first | exact trivial | exact Or.inl rfl | exact Or.inl ((congrArg (AV.i .i64) h0.symm)) | refine aN ?_ ?_))
 rintro ⟨⟩ _
 clear h0
 have hq:=div_lt_of (upD_pos hD _) hlt
 have hq1:upN N (e0 N D + 1) / upD D (e0 N D + 1) < 9007199254740992:=div_lt_of (upD_pos hD _) (up_half' (c:=9007199254740992) hD hlt)
 have hs1:sc N D (e0 N D + 1)≤9007199254740992:=sc_le hD (up_half' (c:=9007199254740992) hD hlt)
 generalize e0 N D = E at *
 refine VCs.seq (by first | exact Γ_good | exact Ctx.good_kp Γ_good _) ?_
 refine aN (fun hc=>?_) (fun hc=>?_)
 ·rw [hw.1 (of_decide_eq_true hc)]
  rfl
 have hc:¬ 971 < E:=of_decide_eq_false hc
 have qs0:=s_scaled N D E hN hD (by omega) (by omega) (by omega) (by omega) (by omega)
 have qs1:=s_scaled N D (E + 1) hN hD (by omega) (by omega) (by omega) (by omega) (by omega)
 refine VCs.seq (by first | exact Γ_good | exact Ctx.good_kp Γ_good _) ?_
 refine Or.inl (eX _ (aN (qs0) ?_))
 refine VCs.cut (by first | exact Γ_good | exact Ctx.good_kp Γ_good _) (Nat × Int) (fun x=>x.1≤9007199254740992∧-1074≤x.2∧x.2≤972∧near N D = finE x.1 x.2) (fun ⟨q,e⟩=>⟨[(8,.i .i64 e),(9,.i .u64 q)],[]⟩) ?_ ?_
 ·refine aN (fun hd=>?_) (fun hd=>?_)
  ·have hd:(9007199254740992:Int)≤((sc N D E:Nat):Int):=of_decide_eq_true hd
   have hd:9007199254740992≤sc N D E:=by omega
   have hn:near N D = finE (sc N D (E + 1)) (E + 1):=by
    unfold finE
    split
    ·rename_i h; rw [hw.2.2.1 hd h,show E + 1 + 1 = E + 2 by omega]
    ·rename_i h; exact hw.2.2.2 hd h
   (repeat' (first | (refine aN (fun h=>?_) (fun h=>?_)<;>(try simp [-List.getD_eq_getElem?_getD,-Int.pred_toNat] at h)<;>(try (exfalso; first | omega | contradiction))) | (refine rNG ?_) | (refine bN2 ?_) | (refine bN3 ?_) | (intro _)))
   refine Or.inl (eX _ (aN (qs1) ?_))
   refine eX (sc N D (E + 1),E + 1) (aN ⟨hs1,by dsimp only; omega,by dsimp only; omega,hn⟩ ?_)
   (repeat' (first | exact trivial | exact Or.inl rfl | exact Or.inr (Or.inl ⟨rfl,_,rfl⟩) | exact Or.inr (Or.inr (Or.inr ⟨_,_,_,rfl,rfl⟩)) | refine aN ?_ ?_))
  ·have hd:¬ (9007199254740992:Int)≤((sc N D E:Nat):Int):=of_decide_eq_false hd
   have hd:sc N D E < 9007199254740992:=by omega
   have hn:near N D = finE (sc N D E) E:=by
    unfold finE
    rw [if_neg (by omega)]
    exact hw.2.1 hd
   refine eX (sc N D E,E) (aN ⟨by dsimp only; omega,by dsimp only; omega,by dsimp only; omega,hn⟩ ?_)
   (repeat' (first | exact trivial | exact Or.inl rfl | exact Or.inr (Or.inl ⟨rfl,_,rfl⟩) | exact Or.inr (Or.inr (Or.inr ⟨_,_,_,rfl,rfl⟩)) | refine aN ?_ ?_))
 rintro ⟨q,e'⟩ ⟨g1,g2,g3,g4⟩
 dsimp only at g1 g2 g3 g4
 rw [g4]
 refine VCs.cut (by first | exact Γ_good | exact Ctx.good_kp Γ_good _) (Nat × Int) (fun x=>x.1 < 9007199254740992∧-1074≤x.2∧finE q e' = bitsE x.1 x.2) (fun ⟨q,e⟩=>⟨[(8,.i .i64 e),(9,.i .u64 q)],[]⟩) ?_ ?_
 ·by_cases h:q = 9007199254740992
  ·have hf:finE q e' = bitsE 4503599627370496 (e' + 1):=by rw [finE,if_pos h]
   refine aN (fun _=>?_) (fun h9=>absurd (show (q:Int) = 9007199254740992 by omega) (ne_of_beq_false h9))
   (repeat' (first | (refine aN (fun h=>?_) (fun h=>?_)<;>(try simp [-List.getD_eq_getElem?_getD,-Int.pred_toNat] at h)<;>(try (exfalso; first | omega | contradiction))) | (refine rNG ?_) | (refine bN2 ?_) | (refine bN3 ?_) | (intro _)))
   refine eX (4503599627370496,e' + 1) (aN ⟨by dsimp only; omega,by dsimp only; omega,hf⟩ ?_)
   (repeat' (first | exact trivial | exact Or.inl rfl | exact Or.inr (Or.inl ⟨rfl,_,rfl⟩) | exact Or.inr (Or.inr (Or.inr ⟨_,_,_,rfl,rfl⟩)) | refine aN ?_ ?_))
  ·refine aN (fun h9=>absurd (eq_of_beq h9) (show ¬ (q:Int) = 9007199254740992 by omega)) (fun _=>?_)
   refine eX (q,e') (aN ⟨by dsimp only; omega,g2,by rw [finE,if_neg h]⟩ ?_)
   (repeat' (first | exact trivial | exact Or.inl rfl | exact Or.inr (Or.inl ⟨rfl,_,rfl⟩) | exact Or.inr (Or.inr (Or.inr ⟨_,_,_,rfl,rfl⟩)) | refine aN ?_ ?_))
 rintro ⟨q,e'⟩ ⟨g1,g2,g3⟩
 dsimp only at g1 g2 g3
 rw [g3]
 refine VCs.of_vc (by first | exact Γ_good | exact Ctx.good_kp Γ_good _) ?_
 refine aN (fun hd=>?_) (fun hd=>?_)
 ·rw [bitsE,if_pos (of_decide_eq_true hd)]
  rfl
 have hd:¬ 971 < e':=of_decide_eq_false hd
 rw [bitsE,if_neg hd]
 refine aN (fun hf=>?_) (fun hf=>?_)
 ·have hf:(q:Int) < 4503599627370496:=of_decide_eq_true hf
  have hf:q < 4503599627370496:=by omega
  rw [if_pos hf]
  rfl
 have hf:¬ (q:Int) < 4503599627370496:=of_decide_eq_false hf
 have hf:¬ q < 4503599627370496:=by omega
 rw [if_neg hf]
 (repeat' (first | (refine aN (fun h=>?_) (fun h=>?_)<;>(try simp [-List.getD_eq_getElem?_getD,-Int.pred_toNat] at h)<;>(try (exfalso; first | omega | contradiction))) | (refine rNG ?_) | (refine bN2 ?_) | (refine bN3 ?_) | (intro _)))
 refine aN (by decide) ?_
 exact congrArg (fun z=>AV.tup [AV.i .u64 z,.i .i64 0]) (bits_fin (by omega) (by omega) (by omega) g1)
theorem s_near (a:List Int) (e:Int) (ha:Dg 4294967296 a) (hla:a.length≤100000):PSpec Tryd.prog 114 [.rd .u32 a,.i .i64 e] (nearA (vl 4294967296 a) e) :=
 pspec_of_VCs Γ_good Tryd.func114 rfl Tryd.call114 Tryd.results114 Tryd.ntmps114 (Nat.le_of_ble_eq_true rfl) (w_near a e ha hla) Γ_good
end
end Go.Proofs.YtdcdmojbkmedpaaDoor
end
section
namespace Go.Nm
open Go Go.SX Go.Bg
def isPre (t s:Str):Bool:=decide (t.length≤s.length∧s.take t.length = t)
def cutP (t s:Str):Str:=if isPre t s then s.drop t.length else s
end Go.Nm
end
section
namespace Go.Proofs.YtdcdmojbkmedpaaDoor
open Go Go.SX Go.Bg Go.Nm
set_option maxRecDepth 100000
set_option maxHeartbeats 1000000
section
variable [G:Globs]
theorem w_hasPre0 (s t:Str):vc Tryd.prog Γ 18 [0,1,4] (Tryd.f195.body.getD .skip) (postK Γ [.tmp 4] (fun v=>v = .b (isPre t s))) ⟨argSlots 0 [.s s,.s t],[]⟩:=by
 intro _ _
 refine aN (fun h=>?_) (fun h=>?_)
 ·have h:t.length≤s.length:=by have:(t.length:Int)≤s.length:=of_decide_eq_true h; omega
  intro _
  refine aN ⟨Int.le_refl _,by omega,by omega⟩ ?_
  show AV.b ((s.take (Int.toNat (t.length:Int))).drop (Int.toNat 0) == t) = _
  refine congrArg AV.b ?_
  unfold isPre
  rw [Int.toNat_natCast,show Int.toNat 0 = 0 from rfl,List.drop_zero,Bool.eq_iff_iff,beq_iff_eq,decide_eq_true_eq]
  exact ⟨fun h9=>⟨h,h9⟩,fun h9=>h9.2⟩
 ·have h:¬ t.length≤s.length:=by have:¬ (t.length:Int)≤s.length:=of_decide_eq_false h; omega
  exact congrArg AV.b (decide_eq_false fun h9=>h h9.1).symm
theorem s_hasPre0 (s t:Str):PSpec Tryd.prog 195 [.s s,.s t] (.b (isPre t s)) :=
 pspec_of_vc Γ_good Tryd.func195 rfl Tryd.call195 Tryd.results195 Tryd.ntmps195 (Nat.le_of_ble_eq_true rfl) (w_hasPre0 s t)
theorem w_cutP0 (s t:Str):vc Tryd.prog Γ 15 [0,1,4,5,9] (Tryd.f130.body.getD .skip) (postK Γ [.tmp 4,.tmp 5] (fun v=>v = .tup [.s (cutP t s),.b (isPre t s)])) ⟨argSlots 0 [.s s,.s t],[]⟩:=by
 refine Or.inl (eX _ (aN (s_hasPre0 s t) ?_))
 unfold cutP
 by_cases h:isPre t s = true
 ·have hl:t.length≤s.length:=(of_decide_eq_true h).1
  rw [if_pos h,h]
  (repeat' (first | (refine aN (fun h=>?_) (fun h=>?_)<;>(try simp [-List.getD_eq_getElem?_getD,-Int.pred_toNat] at h)<;>(try (exfalso; first | omega | contradiction))) | (refine rNG ?_) | (refine bN2 ?_) | (refine bN3 ?_) | (intro _)))
  rw [Int.toNat_natCast,Int.toNat_natCast,List.take_length]
  rfl
 ·have h:isPre t s = false:=by simpa using h
  rw [if_neg (by rw [h]; decide),h]
  (repeat' (first | (refine aN (fun h=>?_) (fun h=>?_)<;>(try simp [-List.getD_eq_getElem?_getD,-Int.pred_toNat] at h)<;>(try (exfalso; first | omega | contradiction))) | (refine rNG ?_) | (refine bN2 ?_) | (refine bN3 ?_) | (intro _)))
  rfl
theorem s_cutP0 (s t:Str):PSpec Tryd.prog 130 [.s s,.s t] (.tup [.s (cutP t s),.b (isPre t s)]) :=
 pspec_of_vc Γ_good Tryd.func130 rfl Tryd.call130 Tryd.results130 Tryd.ntmps130 (Nat.le_of_ble_eq_true rfl) (w_cutP0 s t)
theorem w_cutPre (s t:Str):vc Tryd.prog Γ 11 [0,1,4,5] (Tryd.f62.body.getD .skip) (postK Γ [.tmp 4,.tmp 5] (fun v=>v = .tup [.s (cutP t s),.b (isPre t s)])) ⟨argSlots 0 [.s s,.s t],[]⟩:=by
 refine Or.inl (eX _ (aN (s_cutP0 s t) ?_))
 rfl
theorem s_cutPre (s t:Str):PSpec Tryd.prog 62 [.s s,.s t] (.tup [.s (cutP t s),.b (isPre t s)]) :=
 pspec_of_vc Γ_good Tryd.func62 rfl Tryd.call62 Tryd.results62 Tryd.ntmps62 (Nat.le_of_ble_eq_true rfl) (w_cutPre s t)
end
end Go.Proofs.YtdcdmojbkmedpaaDoor
end
section
namespace Go.Proofs.YtdcdmojbkmedpaaDoor
open Go Go.SX Go.Bg
set_option maxRecDepth 100000
set_option maxHeartbeats 0
section
variable [G:Globs]
end
end Go.Proofs.YtdcdmojbkmedpaaDoor
end
section
namespace Go.Proofs.YtdcdmojbkmedpaaDoor
open Go Go.SX Go.Bg
set_option maxRecDepth 100000
set_option maxHeartbeats 0
theorem byte_sub {c:UInt8} (h:isd c):IntKind.i64.wrap (IntKind.u8.wrap ((c.toNat:Int) - 48)) = ((c.toNat - 48:Nat):Int):=by
 obtain ⟨h1,h2⟩:=h
 rw [IntKind.wrap_u8,IntKind.wrap_i64]
 omega
theorem isd_get {s:Str} (h:∀ c ∈ s,isd c) {k:Nat} (hk:k < s.length):isd (s.getD k 0):=by
 rw [List.getD_eq_getElem?_getD,List.getElem?_eq_getElem hk]
 exact h _ (List.getElem_mem hk)
theorem chunk {s:Str} {k n:Nat} (hk:k≤s.length) (hn:n≤k):dv (s.take k) = dv (s.take n) * 10 ^ (k - n) + dv ((s.take k).drop n):=by
 have:=dv_split (s.take k) n
 rw [List.take_take,Nat.min_eq_left hn,List.length_drop,List.length_take,Nat.min_eq_left hk] at this
 exact this
theorem chunk_next {s:Str} {k n m:Nat} (hk:k≤s.length) (hm:m < k) (hn:n≤m):dv ((s.take (m + 1)).drop n) = dv ((s.take m).drop n) * 10 + ((s.getD m 0).toNat - 48):=by
 have:(s.take (m + 1)).drop n = (s.take m).drop n++[s.getD m 0]:=by
  rw [List.take_add_one,List.getElem?_eq_getElem (by omega),List.getD_eq_getElem?_getD,List.getElem?_eq_getElem (by omega),List.drop_append_of_le_length (by rw [List.length_take]; omega)]
  rfl
 rw [this,dv_snoc]
theorem ofd_next {s : Str} {k n x : Nat} {o : List Int} (h1 : k ≤ s.length) (h2 : Dg 10000 o) (h3 : o.length + k ≤ s.length) (h4 : vl 10000 o + 10000 ^ o.length * dv (s.take k) = dv s) (hx : x < 10000) (hc : dv (s.take k) = dv (s.take n) * 10 ^ (k - n) + x)
  (hn:n + 4 = k∨(n = 0∧k < 4)) (hk:0 < k) :
  n≤s.length∧Dg 10000 (o++[(x:Int)])∧(o++[(x:Int)]).length + n≤s.length∧vl 10000 (o++[(x:Int)]) + 10000 ^ (o++[(x:Int)]).length * dv (s.take n) = dv s:=by
 refine ⟨by omega,h2.snoc ⟨by omega,by omega⟩,by simp; omega,?_⟩
 rw [vl_snoc,List.length_append,List.length_singleton,Int.toNat_natCast,Nat.pow_succ,← h4,hc,Nat.mul_assoc,Nat.add_assoc,← Nat.mul_add]
 rcases hn with h | ⟨rfl,h⟩
 ·rw [show k - n = 4 by omega,Nat.add_comm x,Nat.mul_comm 10000]
 ·rw [List.take_zero,dv]
  simp
section
variable [G:Globs]
theorem w_ofDigits (s:Str) (hs:∀ c ∈ s,isd c) (hl:s.length≤1000000):vc Tryd.prog Γ 38 [0,2,3,4,5,6,9,18] (Tryd.f116.body.getD .skip) (postK Γ [.tmp 2] (fun v=>v = .rd .int (dg 10000 (dv s)))) ⟨argSlots 0 [.s s],[]⟩:=by
 refine eX [(3,3,.int)] (eX [] (eX [] (eX (Nat × List Int) (eX (fun x=>x.1≤s.length∧Dg 10000 x.2∧x.2.length + x.1≤s.length∧vl 10000 x.2 + 10000 ^ x.2.length * dv (s.take x.1) = dv s) (eX (fun ⟨k,o⟩=>⟨[(0,.s (s.take k)),(3,.vec 3 .int o)],[]⟩) (eX (fun x=>x.1) (eX (s.length,[]) (aN ⟨Nat.le_refl _,Dg.nil _,by simp,by simp [vl]⟩ (aN ?_ ?_)))))))))
 ·(repeat' (first | exact trivial | exact Or.inl rfl | exact Or.inl ((by rw [List.take_length])) | refine aN ?_ ?_))
 ·rintro ⟨k,o⟩ ⟨h1,h2,h3,h4⟩
  dsimp only at h1 h2 h3 h4
  have hlk:(s.take k).length = k:=by rw [List.length_take]; omega
  intro _
  refine aN (fun hc=>?_) (fun hc=>?_)
  ·have hk : 0 < k := by
    have:(0:Int) < ((s.take k).length:Int):=of_decide_eq_true hc
    omega
   clear hc
   intro _
   (refine rNG ?_)
   obtain ⟨n,hn,hn2⟩:∃ n:Nat,(if (0:Int) < ((s.take k).length:Int) - 4 then ((s.take k).length:Int) - 4 else 0) = n∧((n + 4 = k)∨(n = 0∧k < 4)):=by
    rw [hlk]
    rcases Nat.lt_or_ge k 5 with h | h
    ·exact ⟨0,by rw [if_neg (by omega)]; rfl,by omega⟩
    ·exact ⟨k - 4,by rw [if_pos (by omega)]; omega,by omega⟩
   refine eX [] (eX [] (eX [] (eX (Nat × Nat) (eX (fun x=>n≤x.1∧x.1≤k∧x.2 = dv ((s.take x.1).drop n)) (eX (fun ⟨m,x⟩=>⟨[(0,.s (s.take k)),(3,.vec 3 .int o),(4,.i .i64 n),(5,.i .i64 x),(6,.i .i64 m)],[]⟩) (eX (fun x=>k - x.1) (eX (n,0) (aN ⟨by simp,by dsimp only; omega,by dsimp only; rw [List.drop_of_length_le (by rw [List.length_take]; omega)]; rfl⟩ (aN ?_ ?_)))))))))
   ·(repeat' (first | exact trivial | exact Or.inl rfl | exact Or.inl ((congrArg (AV.i .i64) hn)) | refine aN ?_ ?_))
   ·rintro ⟨m,x⟩ ⟨g1,g2,g3⟩
    dsimp only at g1 g2 g3
    have hxl:x < 10 ^ (m - n):=by
     rw [g3]
     have:=dv_lt (s:=(s.take m).drop n) (fun c hc=>hs c (List.mem_of_mem_take (List.mem_of_mem_drop hc)))
     rwa [List.length_drop,List.length_take,Nat.min_eq_left (by omega)] at this
    intro _
    refine aN (fun hd=>?_) (fun hd=>?_)
    · have hm : m < k := by have : (m : Int) < ((s.take k).length : Int) := of_decide_eq_true hd
                            omega
      clear hd
      have hx3:x < 1000:=Nat.lt_of_lt_of_le hxl (Nat.pow_le_pow_right (i:=m - n) (j:=3) (by decide) (by omega))
      have hg:isd (s.getD m 0):=isd_get hs (by omega)
      have he:(s.take k).getD (Int.toNat (m:Int)) 0 = s.getD m 0:=by
       rw [Int.toNat_natCast,List.getD_eq_getElem?_getD,List.getD_eq_getElem?_getD,List.getElem?_take_of_lt hm]
      have hb:=hg.2
      (refine rNG ?_)
      refine bN2 ?_
      refine aN (rng64 (by rw [he,byte_sub hg]; omega) (by rw [he,byte_sub hg]; omega)) ?_
      (refine rNG ?_)
      refine eX [] (eX (m + 1,x * 10 + ((s.getD m 0).toNat - 48)) (aN ⟨by dsimp only; omega,hm,by dsimp only; rw [chunk_next h1 hm g1,← g3]⟩ (aN ?_ ?_)))
      ·(repeat' (first | exact trivial | exact Or.inl rfl | exact Or.inl ((by rw [he,byte_sub hg]; rfl)) | refine aN ?_ ?_))
      ·show k - (m + 1) < k - m
       omega
    · have hm : m = k := by have : ¬ (m : Int) < ((s.take k).length : Int) := of_decide_eq_false hd
                            omega
      subst hm
      have hx4:x < 10000:=Nat.lt_of_lt_of_le hxl (Nat.pow_le_pow_right (i:=m - n) (j:=4) (by decide) (by omega))
      refine aN (by show (o.length + 1) * 8≤_; omega) ?_
      refine aN ⟨by omega,by omega,by omega⟩ ?_
      have hch:=chunk h1 g1
      rw [← g3] at hch
      refine eX [(32,3)] (eX (n,o++[(x:Int)]) (aN (ofd_next h1 h2 h3 h4 hx4 hch hn2 hk) (aN ?_ ?_)))
      ·(repeat' (first | exact trivial | exact Or.inl rfl | exact Or.inl ((congrArg AV.s (by rw [Int.toNat_natCast,List.take_take,Nat.min_eq_left g1]; rfl))) | refine aN ?_ ?_))
      ·show n < m
       omega
  ·have hk : k = 0 := by
    have:¬ (0:Int) < ((s.take k).length:Int):=of_decide_eq_false hc
    omega
   subst hk
   have h4:vl 10000 o = dv s:=by simpa [dv] using h4
   refine Or.inl (eX _ (aN (s_cut o h2) ?_))
   exact congrArg (fun n=>AV.rd .int (dg 10000 n)) h4
theorem s_ofDigits (s:Str) (hs:∀ c ∈ s,isd c) (hl:s.length≤1000000):PSpec Tryd.prog 116 [.s s] (.rd .int (dg 10000 (dv s))) :=
 pspec_of_vc Γ_good Tryd.func116 rfl Tryd.call116 Tryd.results116 Tryd.ntmps116 (Nat.le_of_ble_eq_true rfl) (w_ofDigits s hs hl)
end
end Go.Proofs.YtdcdmojbkmedpaaDoor
end
section
namespace Go.Proofs.YtdcdmojbkmedpaaDoor
open Go Go.SX Go.Bg Go.Fl Go.Nm
set_option maxRecDepth 100000
set_option maxHeartbeats 4000000
theorem isB_iff (c:UInt8):isB c = true↔48≤c.toNat∧c.toNat≤57:=by unfold isB; simp
section
variable [G:Globs]
theorem w_digits (s:Str) (hs:s.length≤1000000):vc Tryd.prog Γ 29 [0,2,3,4,20] (Tryd.f179.body.getD .skip) (postK Γ [.tmp 2,.tmp 3] (fun v=>v = .tup [.s (tkD s),.s (drD s)])) ⟨argSlots 0 [.s s],[]⟩:=by
 have h0:=tk_len s
 have h1:=tk_take s
 have h2:=dr_drop s
 refine eX [] (eX [] (eX [] (eX Nat (eX (fun n=>n≤(tkD s).length) (eX (fun n=>⟨[(0,.s s),(4,.i .i64 n)],[]⟩) (eX (fun n=>(tkD s).length - n) (eX 0 (aN (Nat.zero_le _) (aN ?_ ?_)))))))))
 ·(repeat' (first | exact trivial | exact Or.inl rfl | exact Or.inr (Or.inl ⟨rfl,_,rfl⟩) | exact Or.inr (Or.inr (Or.inr ⟨_,_,_,rfl,rfl⟩)) | refine aN ?_ ?_))
 rintro n hn
 have hm:=tk_more hn
 intro _
 by_cases hc:n < (tkD s).length
 ·obtain ⟨a1,a2⟩:=hm.2 hc
  obtain ⟨a3,a4⟩:=(isB_iff _).1 a2
  (repeat' (first | (refine aN (fun h=>?_) (fun h=>?_)<;>(try simp [-List.getD_eq_getElem?_getD,-Int.pred_toNat] at h)<;>(try (exfalso; first | omega | contradiction))) | (refine rNG ?_) | (refine bN2 ?_) | (refine bN3 ?_) | (intro _)))
  refine eX [] (eX (n + 1) (aN hc (aN ?_ ?_)))
  ·(repeat' (first | exact trivial | exact Or.inl rfl | exact Or.inr (Or.inl ⟨rfl,_,rfl⟩) | exact Or.inr (Or.inr (Or.inr ⟨_,_,_,rfl,rfl⟩)) | refine aN ?_ ?_))
  ·show (tkD s).length - (n + 1) < (tkD s).length - n
   omega
 ·have hn:n = (tkD s).length:=by omega
  have hx:n < s.length→¬ (48≤(s.getD n 0).toNat∧(s.getD n 0).toNat≤57):=fun h h9=>hc (hm.1 ⟨h,(isB_iff _).2 h9⟩)
  (repeat' (first | (refine aN (fun h=>?_) (fun h=>?_)<;>(try simp [-List.getD_eq_getElem?_getD,-Int.pred_toNat] at h)<;>(try (exfalso; first | omega | contradiction))) | (refine rNG ?_) | (refine bN2 ?_) | (refine bN3 ?_) | (intro _)))
  all_goals
   refine eX [.blk [0,1,2,3,4,5,6,7]] (aN (by kernel_rfl) ?_)
   (repeat' (first | (refine aN (fun h=>?_) (fun h=>?_)<;>(try simp [-List.getD_eq_getElem?_getD,-Int.pred_toNat] at h)<;>(try (exfalso; first | omega | contradiction))) | (refine rNG ?_) | (refine bN2 ?_) | (refine bN3 ?_) | (intro _)))
   show AV.tup [.s (s.take n),.s ((s.take s.length).drop n)] = _
   rw [hn,h1,List.take_length,h2]
theorem s_digits (s:Str) (hs:s.length≤1000000):PSpec Tryd.prog 179 [.s s] (.tup [.s (tkD s),.s (drD s)]) :=
 pspec_of_vc Γ_good Tryd.func179 rfl Tryd.call179 Tryd.results179 Tryd.ntmps179 (Nat.le_of_ble_eq_true rfl) (w_digits s hs)
theorem w_hasPre (s t:Str):vc Tryd.prog Γ 8 [0,1,4] (Tryd.f180.body.getD .skip) (postK Γ [.tmp 4] (fun v=>v = .b (isPre t s))) ⟨argSlots 0 [.s s,.s t],[]⟩:=by
 refine Or.inl (eX _ (aN (s_hasPre0 s t) ?_))
 rfl
theorem s_hasPre (s t:Str):PSpec Tryd.prog 180 [.s s,.s t] (.b (isPre t s)) :=
 pspec_of_vc Γ_good Tryd.func180 rfl Tryd.call180 Tryd.results180 Tryd.ntmps180 (Nat.le_of_ble_eq_true rfl) (w_hasPre s t)
theorem s_trimLeft (s:Str) (hs:s.length≤1000000):PSpec Tryd.prog 112 [.s s,.s [48]] (.s (Lib.trimLeftB s 48)):=by
 refine ⟨Tryd.call112,fun O w vs hO hG hargs=>?_⟩
 obtain ⟨v0,vs0,rfl,h0,h⟩:=hargs.cons_inv
 obtain ⟨v1,vs1,rfl,h1,h⟩:=h.cons_inv
 obtain rfl:=h.nil_inv
 cases h0
 cases h1
 refine (Tryd.strings_TrimLeft_one ⟨s.toArray⟩ 48 (by decide) w).mono fun e w' ⟨he,hw⟩=>?_
 subst he hw
 refine ⟨_,rfl,Stp.refl _ _,?_⟩
 have hl:(Lib.trimLeftB s 48).length≤s.length:=by unfold Lib.trimLeftB; exact (List.dropWhile_sublist _).length_le
 exact .s _ (by unfold maxLen; omega)
def litA (s:Str):AV:=match litP s with
 | none=>.tup [.s [],.i .i64 0,.b false]
 | some x=>.tup [.s (x.w++x.f),.i .i64 (expP x),.b true]
theorem pre_one {c:UInt8} (hc:c≠0) (r:Str):isPre [c] r = decide (r.getD 0 0 = c):=by
 unfold isPre
 cases r with
 | nil=>simp; exact fun h=>hc h.symm
 | cons x t=>simp
theorem litA_none {s:Str} (h:litP s = none):litA s = .tup [.s [],.i .i64 0,.b false]:=by unfold litA; rw [h]
theorem litA_some {s:Str} {x:LitF} (h:litP s = some x):litA s = .tup [.s (x.w++x.f),.i .i64 (expP x),.b true]:=by unfold litA; rw [h]
theorem c48 {c:UInt8}:c = 48↔c.toNat = 48:=UInt8.toNat_inj.symm
theorem c46 {c:UInt8}:c = 46↔c.toNat = 46:=UInt8.toNat_inj.symm
theorem c101 {c:UInt8}:c = 101↔c.toNat = 101:=UInt8.toNat_inj.symm
theorem w_literal (s:Str) (hs:s.length≤1000):VCs Tryd.prog Γ 101 [0,2,3,4,5,6,7,8,10,31,34,42,44,53,62,75,77,78,79,80,91] (Tryd.f111.body.getD .skip) (postK Γ [.tmp 2,.tmp 3,.tmp 4] (fun v=>v = litA s)) ⟨argSlots 0 [.s s],[]⟩:=by
 have h0:=tk_len s
 refine VCs.seq (by first | exact Γ_good | exact Ctx.good_kp Γ_good _) ?_
 refine VCs.seq (by first | exact Γ_good | exact Ctx.good_kp Γ_good _) ?_
 refine Or.inl (eX _ (aN (s_digits s (by omega)) ?_))
 by_cases hw:tkD s = []
 ·rw [litA_none (by unfold litP; rw [if_pos (.inl hw)])]
  rw [hw]
  refine VCs.of_vc (by first | exact Γ_good | exact Ctx.good_kp Γ_good _) ?_
  (repeat' (first | (refine aN (fun h=>?_) (fun h=>?_)<;>(try simp [-List.getD_eq_getElem?_getD,-Int.pred_toNat] at h)<;>(try (exfalso; first | omega | contradiction))) | (refine rNG ?_) | (refine bN2 ?_) | (refine bN3 ?_) | (intro _)))
  rfl
 have hwl:=List.length_pos_iff.2 hw
 by_cases hz:(tkD s).getD 0 0 = 48∧1 < (tkD s).length
 ·rw [litA_none (by unfold litP; rw [if_pos (.inr (.inl hz))])]
  obtain ⟨hz,hz1⟩:=hz
  have hz:=c48.1 hz
  refine VCs.of_vc (by first | exact Γ_good | exact Ctx.good_kp Γ_good _) ?_
  (repeat' (first | (refine aN (fun h=>?_) (fun h=>?_)<;>(try simp [-List.getD_eq_getElem?_getD,-Int.pred_toNat] at h)<;>(try (exfalso; first | omega | contradiction))) | (refine rNG ?_) | (refine bN2 ?_) | (refine bN3 ?_) | (intro _)))
  all_goals rfl
 by_cases hr:drD s = []
 ·rw [litA_none (by unfold litP; rw [if_pos (.inr (.inr hr))])]
  rw [hr]
  refine VCs.of_vc (by first | exact Γ_good | exact Ctx.good_kp Γ_good _) ?_
  (repeat' (first | (refine aN (fun h=>?_) (fun h=>?_)<;>(try simp [-List.getD_eq_getElem?_getD,-Int.pred_toNat] at h)<;>(try (exfalso; first | omega | contradiction))) | (refine rNG ?_) | (refine bN2 ?_) | (refine bN3 ?_) | (intro _)))
  all_goals rfl
 have hrl:=List.length_pos_iff.2 hr
 have hlit:litP s = if (drD s).getD 0 0 = 46 then (if tkD ((drD s).drop 1) = [] then none else litF (tkD s) (tkD ((drD s).drop 1)) (drD ((drD s).drop 1))) else litF (tkD s) [] (drD s):=by
  unfold litP
  rw [if_neg (by rintro (h | h | h); exact hw h; exact hz h; exact hr h)]
 rw [c48] at hz
 generalize tkD s = w at *
 generalize drD s = r at *
 refine VCs.cut (by first | exact Γ_good | exact Ctx.good_kp Γ_good _) Unit (fun _=>True) (fun _=>⟨[(0,.s r),(2,.s []),(3,.i .i64 0),(4,.b false),(5,.s w)],[]⟩) ?_ ?_
 ·(repeat' (first | (refine aN (fun h=>?_) (fun h=>?_)<;>(try simp [-List.getD_eq_getElem?_getD,-Int.pred_toNat] at h)<;>(try (exfalso; first | omega | contradiction))) | (refine rNG ?_) | (refine bN2 ?_) | (refine bN3 ?_) | (intro _)))
  all_goals
   refine eX () (aN trivial ?_)
   (repeat' (first | exact trivial | exact Or.inl rfl | exact Or.inr (Or.inl ⟨rfl,_,rfl⟩) | exact Or.inr (Or.inr (Or.inr ⟨_,_,_,rfl,rfl⟩)) | refine aN ?_ ?_))
 rintro ⟨⟩ _
 refine VCs.seq (by first | exact Γ_good | exact Ctx.good_kp Γ_good _) ?_
 refine VCs.cut (by first | exact Γ_good | exact Ctx.good_kp Γ_good _) (Str × Str) (fun x=>litP s = litF w x.1 x.2∧x.1.length + x.2.length≤s.length) (fun ⟨f,r⟩=>⟨[(0,.s r),(2,.s []),(3,.i .i64 0),(4,.b false),(5,.s w),(6,.s f)],[]⟩) ?_ ?_
 ·by_cases h46:r.getD 0 0 = 46
  ·rw [if_pos h46] at hlit
   have h46:=c46.1 h46
   have ht:=tk_len (r.drop 1)
   have hd:=s_digits (r.drop 1) (by rw [List.length_drop]; omega)
   rw [List.length_drop] at ht
   have e1:(r.take (Int.toNat (r.length:Int))).drop (Int.toNat 1) = r.drop 1:=by rw [Int.toNat_natCast,List.take_length]; rfl
   rw [← e1] at hd
   (repeat' (first | (refine aN (fun h=>?_) (fun h=>?_)<;>(try simp [-List.getD_eq_getElem?_getD,-Int.pred_toNat] at h)<;>(try (exfalso; first | omega | contradiction))) | (refine rNG ?_) | (refine bN2 ?_) | (refine bN3 ?_) | (intro _)))
   refine Or.inl (eX _ (aN (hd) ?_))
   rw [e1]
   generalize tkD (r.drop 1) = f0 at *
   generalize drD (r.drop 1) = r0 at *
   by_cases hf:f0 = []
   ·rw [if_pos hf] at hlit
    rw [litA_none hlit,hf]
    (repeat' (first | (refine aN (fun h=>?_) (fun h=>?_)<;>(try simp [-List.getD_eq_getElem?_getD,-Int.pred_toNat] at h)<;>(try (exfalso; first | omega | contradiction))) | (refine rNG ?_) | (refine bN2 ?_) | (refine bN3 ?_) | (intro _)))
    rfl
   ·rw [if_neg hf] at hlit
    (repeat' (first | (refine aN (fun h=>?_) (fun h=>?_)<;>(try simp [-List.getD_eq_getElem?_getD,-Int.pred_toNat] at h)<;>(try (exfalso; first | omega | contradiction))) | (refine rNG ?_) | (refine bN2 ?_) | (refine bN3 ?_) | (intro _)))
    refine eX (f0,r0) (aN ⟨hlit,by dsimp only; omega⟩ ?_)
    (repeat' (first | exact trivial | exact Or.inl rfl | exact Or.inr (Or.inl ⟨rfl,_,rfl⟩) | exact Or.inr (Or.inr (Or.inr ⟨_,_,_,rfl,rfl⟩)) | refine aN ?_ ?_))
  ·rw [if_neg h46] at hlit
   rw [c46] at h46
   (repeat' (first | (refine aN (fun h=>?_) (fun h=>?_)<;>(try simp [-List.getD_eq_getElem?_getD,-Int.pred_toNat] at h)<;>(try (exfalso; first | omega | contradiction))) | (refine rNG ?_) | (refine bN2 ?_) | (refine bN3 ?_) | (intro _)))
   refine eX (([]:Str),r) (aN ⟨hlit,by dsimp only [List.length_nil]; omega⟩ ?_)
   (repeat' (first | exact trivial | exact Or.inl rfl | exact Or.inr (Or.inl ⟨rfl,_,rfl⟩) | exact Or.inr (Or.inr (Or.inr ⟨_,_,_,rfl,rfl⟩)) | refine aN ?_ ?_))
 rintro ⟨f,r2⟩ ⟨g1,g2⟩
 dsimp only at g1 g2
 clear hlit hz hr hrl
 by_cases hr:r2 = []
 ·have hl:litP s = some ⟨w,f,false,[]⟩:=by rw [g1,litF,if_pos hr]
  have he:(0:Int) - f.length = expP ⟨w,f,false,[]⟩:=by simp [expP,eP]
  rw [litA_some hl,← he,hr]
  refine VCs.of_vc (by first | exact Γ_good | exact Ctx.good_kp Γ_good _) ?_
  (repeat' (first | (refine aN (fun h=>?_) (fun h=>?_)<;>(try simp [-List.getD_eq_getElem?_getD,-Int.pred_toNat] at h)<;>(try (exfalso; first | omega | contradiction))) | (refine rNG ?_) | (refine bN2 ?_) | (refine bN3 ?_) | (intro _)))
  refine aN (by unfold maxLen; omega) ?_
  (repeat' (first | (refine aN (fun h=>?_) (fun h=>?_)<;>(try simp [-List.getD_eq_getElem?_getD,-Int.pred_toNat] at h)<;>(try (exfalso; first | omega | contradiction))) | (refine rNG ?_) | (refine bN2 ?_) | (refine bN3 ?_) | (intro _)))
  refine Or.inl (aN (rng64 (by omega) (by omega)) ?_)
  rfl
 have hrl:=List.length_pos_iff.2 hr
 by_cases h101:r2.getD 0 0 = 101
 rotate_left
 ·have hl:litP s = none:=by rw [g1,litF,if_neg hr,if_pos h101]
  rw [c101] at h101
  rw [litA_none hl]
  refine VCs.of_vc (by first | exact Γ_good | exact Ctx.good_kp Γ_good _) ?_
  (repeat' (first | (refine aN (fun h=>?_) (fun h=>?_)<;>(try simp [-List.getD_eq_getElem?_getD,-Int.pred_toNat] at h)<;>(try (exfalso; first | omega | contradiction))) | (refine rNG ?_) | (refine bN2 ?_) | (refine bN3 ?_) | (intro _)))
  rfl
 have hlit:litP s = litE w f (r2.drop 1):=by rw [g1,litF,if_neg hr,if_neg (fun h=>h h101)]
 have h101:=c101.1 h101
 have e1:(r2.take (Int.toNat (r2.length:Int))).drop (Int.toNat 1) = r2.drop 1:=by rw [Int.toNat_natCast,List.take_length]; rfl
 refine VCs.cut (by first | exact Γ_good | exact Ctx.good_kp Γ_good _) Unit (fun _=>True) (fun _=>⟨[(0,.s r2),(2,.s []),(3,.i .i64 0),(4,.b false),(5,.s w),(6,.s f)],[]⟩) ?_ ?_
 ·(repeat' (first | (refine aN (fun h=>?_) (fun h=>?_)<;>(try simp [-List.getD_eq_getElem?_getD,-Int.pred_toNat] at h)<;>(try (exfalso; first | omega | contradiction))) | (refine rNG ?_) | (refine bN2 ?_) | (refine bN3 ?_) | (intro _)))
  refine eX () (aN trivial ?_)
  (repeat' (first | exact trivial | exact Or.inl rfl | exact Or.inr (Or.inl ⟨rfl,_,rfl⟩) | exact Or.inr (Or.inr (Or.inr ⟨_,_,_,rfl,rfl⟩)) | refine aN ?_ ?_))
 rintro ⟨⟩ _
 refine VCs.cut (by first | exact Γ_good | exact Ctx.good_kp Γ_good _) Unit (fun _=>True) (fun _=>⟨[(0,.s r2),(2,.s []),(3,.i .i64 0),(4,.b false),(5,.s w),(6,.s f)],[]⟩) ?_ ?_
 ·(repeat' (first | (refine aN (fun h=>?_) (fun h=>?_)<;>(try simp [-List.getD_eq_getElem?_getD,-Int.pred_toNat] at h)<;>(try (exfalso; first | omega | contradiction))) | (refine rNG ?_) | (refine bN2 ?_) | (refine bN3 ?_) | (intro _)))
  refine eX () (aN trivial ?_)
  (repeat' (first | exact trivial | exact Or.inl rfl | exact Or.inr (Or.inl ⟨rfl,_,rfl⟩) | exact Or.inr (Or.inr (Or.inr ⟨_,_,_,rfl,rfl⟩)) | refine aN ?_ ?_))
 rintro ⟨⟩ _
 refine VCs.cut (by first | exact Γ_good | exact Ctx.good_kp Γ_good _) Unit (fun _=>True) (fun _=>⟨[(0,.s (r2.drop 1)),(2,.s []),(3,.i .i64 0),(4,.b false),(5,.s w),(6,.s f)],[]⟩) ?_ ?_
 ·(repeat' (first | (refine aN (fun h=>?_) (fun h=>?_)<;>(try simp [-List.getD_eq_getElem?_getD,-Int.pred_toNat] at h)<;>(try (exfalso; first | omega | contradiction))) | (refine rNG ?_) | (refine bN2 ?_) | (refine bN3 ?_) | (intro _)))
  refine eX () (aN trivial ?_)
  (repeat' (first | exact trivial | exact Or.inl rfl | exact Or.inl ((congrArg AV.s e1)) | refine aN ?_ ?_))
 rintro ⟨⟩ _
 clear e1 h101 g1 hr hrl
 have hrl:(r2.drop 1).length≤s.length:=by rw [List.length_drop]; omega
 generalize r2.drop 1 = r at *
 refine VCs.seq (by first | exact Γ_good | exact Ctx.good_kp Γ_good _) ?_
 refine Or.inl (eX _ (aN (s_hasPre r [45]) ?_))
 have p45:=pre_one (c:=45) (by decide) r
 have p43:=pre_one (c:=43) (by decide) r
 refine VCs.cut (by first | exact Γ_good | exact Ctx.good_kp Γ_good _) Unit (fun _=>True) (fun _=>⟨[(0,.s (if r.getD 0 0 = 45∨r.getD 0 0 = 43 then r.drop 1 else r)),(2,.s []),(3,.i .i64 0),(4,.b false),(5,.s w),(6,.s f),(7,.b (decide (r.getD 0 0 = 45)))],[]⟩) ?_ ?_
 ·rw [p45]
  have e1:(r.take (Int.toNat (r.length:Int))).drop (Int.toNat 1) = r.drop 1:=by rw [Int.toNat_natCast,List.take_length]; rfl
  have hne:∀ c:UInt8,c≠0→r.getD 0 0 = c→0 < r.length:=fun c hc h=>by
   cases r with
   | nil=>exact absurd h.symm hc
   | cons _ _=>exact Nat.succ_pos _
  by_cases h45:r.getD 0 0 = 45
  ·have hrl:=hne 45 (by decide) h45
   rw [if_pos (.inl h45),decide_eq_true h45]
   (focus (refine aN (fun h9=>?_) ?_; (focus (exfalso; revert h9; first | decide | (simp<;>omega) | (intro h9; simp at h9<;>omega))); refine fun _=>?_))
   (focus (refine aN ?_ (fun h9=>?_); rotate_left 1; (focus (exfalso; revert h9; first | decide | (simp<;>omega) | (intro h9; simp at h9<;>omega))); refine fun _=>?_))
   (repeat' (first | (refine aN (fun h=>?_) (fun h=>?_)<;>(try simp [-List.getD_eq_getElem?_getD,-Int.pred_toNat] at h)<;>(try (exfalso; first | omega | contradiction))) | (refine rNG ?_) | (refine bN2 ?_) | (refine bN3 ?_) | (intro _)))
   refine eX () (aN trivial ?_)
   (repeat' (first | exact trivial | exact Or.inl rfl | exact Or.inl ((congrArg AV.s e1)) | refine aN ?_ ?_))
  ·rw [decide_eq_false h45]
   (focus (refine aN ?_ (fun h9=>?_); rotate_left 1; (focus (exfalso; revert h9; first | decide | (simp<;>omega) | (intro h9; simp at h9<;>omega))); refine fun _=>?_))
   refine Or.inl (eX _ (aN (s_hasPre r [43]) ?_))
   rw [p43]
   by_cases h43:r.getD 0 0 = 43
   ·have hrl:=hne 43 (by decide) h43
    rw [if_pos (.inr h43),decide_eq_true h43]
    (focus (refine aN ?_ (fun h9=>?_); rotate_left 1; (focus (exfalso; revert h9; first | decide | (simp<;>omega) | (intro h9; simp at h9<;>omega))); refine fun _=>?_))
    (repeat' (first | (refine aN (fun h=>?_) (fun h=>?_)<;>(try simp [-List.getD_eq_getElem?_getD,-Int.pred_toNat] at h)<;>(try (exfalso; first | omega | contradiction))) | (refine rNG ?_) | (refine bN2 ?_) | (refine bN3 ?_) | (intro _)))
    refine eX () (aN trivial ?_)
    (repeat' (first | exact trivial | exact Or.inl rfl | exact Or.inl ((congrArg AV.s e1)) | refine aN ?_ ?_))
   ·rw [if_neg (by rintro (h | h); exact h45 h; exact h43 h),decide_eq_false h43]
    (focus (refine aN (fun h9=>?_) ?_; (focus (exfalso; revert h9; first | decide | (simp<;>omega) | (intro h9; simp at h9<;>omega))); refine fun _=>?_))
    refine eX () (aN trivial ?_)
    (repeat' (first | exact trivial | exact Or.inl rfl | exact Or.inr (Or.inl ⟨rfl,_,rfl⟩) | exact Or.inr (Or.inr (Or.inr ⟨_,_,_,rfl,rfl⟩)) | refine aN ?_ ?_))
 rintro ⟨⟩ _
 have hl4:(if r.getD 0 0 = 45∨r.getD 0 0 = 43 then r.drop 1 else r).length≤s.length:=by
  split
  ·rw [List.length_drop]; omega
  ·exact hrl
 unfold litE at hlit
 dsimp only at hlit
 generalize (if r.getD 0 0 = 45∨r.getD 0 0 = 43 then r.drop 1 else r) = r4 at *
 generalize decide (r.getD 0 0 = 45) = mi at *
 have ht:=tk_len r4
 have hisd:=tk_isd r4
 refine VCs.seq (by first | exact Γ_good | exact Ctx.good_kp Γ_good _) ?_
 refine Or.inl (eX _ (aN (s_digits r4 (by omega)) ?_))
 by_cases hbad:tkD r4 = []∨drD r4≠[]
 ·rw [if_pos hbad] at hlit
  rw [litA_none hlit]
  refine VCs.of_vc (by first | exact Γ_good | exact Ctx.good_kp Γ_good _) ?_
  rcases hbad with h | h
  ·rw [h]
   (repeat' (first | (refine aN (fun h=>?_) (fun h=>?_)<;>(try simp [-List.getD_eq_getElem?_getD,-Int.pred_toNat] at h)<;>(try (exfalso; first | omega | contradiction))) | (refine rNG ?_) | (refine bN2 ?_) | (refine bN3 ?_) | (intro _)))
   all_goals rfl
  ·(repeat' (first | (refine aN (fun h=>?_) (fun h=>?_)<;>(try simp [-List.getD_eq_getElem?_getD,-Int.pred_toNat] at h)<;>(try (exfalso; first | omega | contradiction))) | (refine rNG ?_) | (refine bN2 ?_) | (refine bN3 ?_) | (intro _)))
   all_goals rfl
 rw [if_neg hbad] at hlit
 have hb1:tkD r4≠[]:=fun h=>hbad (.inl h)
 have hb2:drD r4 = []:=Classical.byContradiction fun h=>hbad (.inr h)
 rw [litA_some hlit,hb2]
 generalize tkD r4 = ex at *
 refine VCs.cut (by first | exact Γ_good | exact Ctx.good_kp Γ_good _) Unit (fun _=>True) (fun _=>⟨[(3,.i .i64 0),(5,.s w),(6,.s f),(7,.b mi),(8,.s ex)],[]⟩) ?_ ?_
 ·(repeat' (first | (refine aN (fun h=>?_) (fun h=>?_)<;>(try simp [-List.getD_eq_getElem?_getD,-Int.pred_toNat] at h)<;>(try (exfalso; first | omega | contradiction))) | (refine rNG ?_) | (refine bN2 ?_) | (refine bN3 ?_) | (intro _)))
  refine eX () (aN trivial ?_)
  (repeat' (first | exact trivial | exact Or.inl rfl | exact Or.inr (Or.inl ⟨rfl,_,rfl⟩) | exact Or.inr (Or.inr (Or.inr ⟨_,_,_,rfl,rfl⟩)) | refine aN ?_ ?_))
 rintro ⟨⟩ _
 have hexl:ex.length≤1000:=by omega
 refine VCs.cut (by first | exact Γ_good | exact Ctx.good_kp Γ_good _) Unit (fun _=>True) (fun _=>⟨[(3,.i .i64 (eP ex:Nat)),(5,.s w),(6,.s f),(7,.b mi)],[]⟩) ?_ ?_
 ·(repeat' (first | (refine aN (fun h=>?_) (fun h=>?_)<;>(try simp [-List.getD_eq_getElem?_getD,-Int.pred_toNat] at h)<;>(try (exfalso; first | omega | contradiction))) | (refine rNG ?_) | (refine bN2 ?_) | (refine bN3 ?_) | (intro _)))
  refine eX [] (eX [] (eX [] (eX Nat (eX (fun k=>k≤ex.length) (eX (fun k=>⟨[(3,.i .i64 (eP (ex.take k):Nat)),(5,.s w),(6,.s f),(7,.b mi),(77,.rd .u8 (ex.map fun b=>(b.toNat:Int))),(78,.i .i64 (ex.map fun b=>(b.toNat:Int)).length),(79,.i .i64 k)],[]⟩) (eX (fun k=>ex.length - k) (eX 0 (aN (Nat.zero_le _) (aN ?_ ?_)))))))))
  ·(repeat' (first | exact trivial | exact Or.inl rfl | exact Or.inr (Or.inl ⟨rfl,_,rfl⟩) | exact Or.inr (Or.inr (Or.inr ⟨_,_,_,rfl,rfl⟩)) | refine aN ?_ ?_))
  intro k hk
  have hml:(ex.map fun b=>(b.toNat:Int)).length = ex.length:=List.length_map ..
  refine aN (fun hc=>?_) (fun hc=>?_)
  · have hk : k < ex.length := by have : (k : Int) < ((ex.map fun b => (b.toNat : Int)).length : Int) := of_decide_eq_true hc
                                  omega
    have hg:(ex.map fun b=>(b.toNat:Int)).getD k 0 = ((ex.getD k 0).toNat:Int):=by
     rw [List.getD_eq_getElem?_getD,List.getElem?_map,List.getElem?_eq_getElem hk,List.getD_eq_getElem?_getD,List.getElem?_eq_getElem hk]
     rfl
    have hd:isd (ex.getD k 0):=isd_get hisd hk
    have hb:=byte_sub hd
    have hs:=eP_snoc (ex.take k) (ex.getD k 0)
    have ht:ex.take k++[ex.getD k 0] = ex.take (k + 1):=by
     rw [List.take_add_one,List.getElem?_eq_getElem hk,List.getD_eq_getElem?_getD,List.getElem?_eq_getElem hk]
     rfl
    rw [ht] at hs
    have hle:=eP_le (ex.take k)
    have hd2:(ex.getD k 0).toNat - 48≤9:=by unfold isd at hd; omega
    generalize eP (ex.take k) = e1 at *
    generalize (ex.getD k 0).toNat - 48 = d at *
    refine bN2 ?_
    rw [show (ex.map fun b=>(b.toNat:Int)).getD (Int.toNat (k:Int)) (dflt .u8) = ((ex.getD k 0).toNat:Int) from hg]
    (refine rNG ?_)
    have hv:(if 100000 < (e1:Int) * 10 + IntKind.i64.wrap (IntKind.u8.wrap (((ex.getD k 0).toNat:Int) - 48)) then 100000 else (e1:Int) * 10 + IntKind.i64.wrap (IntKind.u8.wrap (((ex.getD k 0).toNat:Int) - 48))) = ((eP (ex.take (k + 1)):Nat):Int):=by
     rw [hb,hs]
     split<;>split<;>omega
    refine aN (rng64 (by rw [hb]; omega) (by rw [hb]; omega)) ?_
    (refine rNG ?_)
    refine eX [] (eX (k + 1) (aN hk (aN ?_ ?_)))
    ·(repeat' (first | exact trivial | exact Or.inl rfl | exact Or.inl ((congrArg (AV.i .i64) hv)) | refine aN ?_ ?_))
    ·show ex.length - (k + 1) < ex.length - k
     omega
  · have hk : k = ex.length := by have : ¬ (k : Int) < ((ex.map fun b => (b.toNat : Int)).length : Int) := of_decide_eq_false hc
                                  omega
    refine eX () (aN trivial ?_)
    (repeat' (first | exact trivial | exact Or.inl rfl | exact Or.inl ((congrArg (AV.i .i64) (by rw [hk,List.take_length]))) | refine aN ?_ ?_))
 rintro ⟨⟩ _
 have hep:=eP_le ex
 refine VCs.cut (by first | exact Γ_good | exact Ctx.good_kp Γ_good _) Unit (fun _=>True) (fun _=>⟨[(3,.i .i64 (if mi then -(eP ex:Int) else eP ex)),(5,.s w),(6,.s f)],[]⟩) ?_ ?_
 ·cases mi
  ·(focus (refine aN (fun h9=>?_) ?_; (focus (exfalso; revert h9; first | decide | (simp<;>omega) | (intro h9; simp at h9<;>omega))); refine fun _=>?_))
   refine eX () (aN trivial ?_)
   (repeat' (first | exact trivial | exact Or.inl rfl | exact Or.inr (Or.inl ⟨rfl,_,rfl⟩) | exact Or.inr (Or.inr (Or.inr ⟨_,_,_,rfl,rfl⟩)) | refine aN ?_ ?_))
  ·(focus (refine aN ?_ (fun h9=>?_); rotate_left 1; (focus (exfalso; revert h9; first | decide | (simp<;>omega) | (intro h9; simp at h9<;>omega))); refine fun _=>?_))
   refine Or.inl (aN (rng64 (by omega) (by omega)) ?_)
   refine eX () (aN trivial ?_)
   (repeat' (first | exact trivial | exact Or.inl rfl | exact Or.inl ((congrArg (AV.i .i64) (show (0:Int) - eP ex = -(eP ex:Int) by omega))) | refine aN ?_ ?_))
 rintro ⟨⟩ _
 have hr : -100000≤(if mi then -(eP ex:Int) else eP ex)∧(if mi then -(eP ex:Int) else eP ex)≤100000:=by split<;>omega
 refine VCs.of_vc (by first | exact Γ_good | exact Ctx.good_kp Γ_good _) ?_
 refine aN (by unfold maxLen; omega) ?_
 (repeat' (first | (refine aN (fun h=>?_) (fun h=>?_)<;>(try simp [-List.getD_eq_getElem?_getD,-Int.pred_toNat] at h)<;>(try (exfalso; first | omega | contradiction))) | (refine rNG ?_) | (refine bN2 ?_) | (refine bN3 ?_) | (intro _)))
 rfl
theorem s_literal (s:Str) (hs:s.length≤1000):PSpec Tryd.prog 111 [.s s] (litA s) :=
 pspec_of_VCs Γ_good Tryd.func111 rfl Tryd.call111 Tryd.results111 Tryd.ntmps111 (Nat.le_of_ble_eq_true rfl) (w_literal s hs) Γ_good
end
end Go.Proofs.YtdcdmojbkmedpaaDoor
end
section
namespace Go.Proofs.YtdcdmojbkmedpaaDoor
open Go Go.SX Go.Bg
set_option maxRecDepth 100000
set_option maxHeartbeats 0
section
variable [G:Globs]
end
end Go.Proofs.YtdcdmojbkmedpaaDoor
end
section
namespace Go.Proofs.YtdcdmojbkmedpaaDoor
open Go Go.SX Go.Bg
set_option maxRecDepth 100000
set_option maxHeartbeats 0
def badN (s:Str):Prop:=s = []∨(s.getD 0 0 = 48∧1 < s.length)∨∃ c ∈ s,¬ isd c
open Classical in
noncomputable def readR (s:Str):AV:=if 1000 < s.length then .tup [.nl,.i .i64 2] else if badN s then .tup [.nl,.i .i64 4] else .tup [.rd .u32 (dg 4294967296 (dv s)),.i .i64 0]
theorem read_len {s:Str} {k:Nat} (h:∀ c ∈ s.take k,isd c):(dg 4294967296 (dv (s.take k))).length≤(s.take k).length:=dg_len_le b32 _ _ (Nat.lt_of_lt_of_le (dv_lt h) (Nat.pow_le_pow_left (by decide) _))
theorem read_val {x y:Nat} (hx:x < 4294967296) (hy:y≤9):IntKind.u64.wrap ((y:Int) + IntKind.u64.wrap (IntKind.u64.wrap (x:Int) * 10)) = ((y + x * 10:Nat):Int):=by
 rw [IntKind.wrap_u64,IntKind.wrap_u64,IntKind.wrap_u64]
 omega
theorem read_step {o q : List Int} {i x y d : Nat} (hi : i < q.length) (hD : Dg 4294967296 q) (hx : (o.getD i 0).toNat = x) (hy : y ≤ 9) (hxl : x < 4294967296) (hv : vl 4294967296 (q.take i) + 4294967296 ^ i * y = 10 * vl 4294967296 (o.take i) + d) :
  Dg 4294967296 (q.set i (((y + x * 10) % 4294967296:Nat):Int))∧(y + x * 10) / 4294967296≤9∧vl 4294967296 ((q.set i (((y + x * 10) % 4294967296:Nat):Int)).take (i + 1)) + 4294967296 ^ (i + 1) * ((y + x * 10) / 4294967296) = 10 * vl 4294967296 (o.take (i + 1)) + d:=by
 refine ⟨hD.set i ⟨by omega,by omega⟩,by omega,?_⟩
 rw [vl_take_set hi,vl_take_succ,hx,Int.toNat_natCast,Nat.pow_succ,Nat.mul_assoc,Nat.add_assoc,← Nat.mul_add,Nat.mod_add_div,Nat.mul_add,Nat.mul_add]
 have:4294967296 ^ i * (x * 10) = 10 * (4294967296 ^ i * x):=by rw [Nat.mul_comm x,← Nat.mul_assoc,Nat.mul_comm _ 10,Nat.mul_assoc]
 omega
theorem read_more {s : Str} {k y d : Nat} {q : List Int} (hD : Dg 4294967296 q) (hl : q.length = (dg 4294967296 (dv (s.take k))).length) (hd : dv (s.take (k + 1)) = dv (s.take k) * 10 + d)
  (hv:vl 4294967296 q + 4294967296 ^ q.length * y = 10 * dv (s.take k) + d):(0 < y→y≤9→q++[(y:Int)] = dg 4294967296 (dv (s.take (k + 1))))∧(y = 0→q = dg 4294967296 (dv (s.take (k + 1)))):=by
 refine ⟨fun h h9=>?_,fun h=>?_⟩
 ·have:=canon b32 (l:=q++[(y:Int)]) (hD.snoc ⟨by omega,by omega⟩) (by simp; omega)
  rw [vl_snoc,Int.toNat_natCast,hv] at this
  rw [← this,hd]
  congr 1
  omega
 ·subst h
  rw [Nat.mul_zero,Nat.add_zero] at hv
  have:=canonLen b32 hD (by
   rcases Nat.eq_zero_or_pos (dv (s.take k)) with h | h
   ·rw [h] at hl; exact .inl (List.eq_nil_of_length_eq_zero hl)
   ·have h1:=dg_ge b32 h
    rw [← hl] at h1
    exact .inr (by omega))
  rw [hv] at this
  rw [← this,hd]
  congr 1
  omega
section
variable [G:Globs]
theorem w_read (s:Str):vc Tryd.prog Γ 70 [0,2,3,4,6,7,8,11,23,25,26,27,28,36,41,42,43,62] (Tryd.f113.body.getD .skip) (postK Γ [.tmp 2,.tmp 3] (fun v=>v = readR s)) ⟨argSlots 0 [.s s],[]⟩:=by
 intro hlen
 refine aN (fun h1=>?_) (fun h1=>?_)
 · have h1 : 1000 < s.length := by have : (1000 : Int) < (s.length : Int) := of_decide_eq_true h1
                                   omega
   show _ = readR s
   rw [readR,if_pos h1]
   rfl
 · have h1 : ¬ 1000 < s.length := by have : ¬ (1000 : Int) < (s.length : Int) := of_decide_eq_false h1
                                     omega
   have bad:badN s→AV.tup [.nl,.i .i64 4] = readR s:=fun h=>by rw [readR,if_neg h1,if_pos h]
   have good:¬ badN s→AV.tup [.rd .u32 (dg 4294967296 (dv s)),.i .i64 0] = readR s:=fun h=>by rw [readR,if_neg h1,if_neg h]
   have loop:s≠[]→¬ (s.getD 0 0 = 48∧1 < s.length)→True:=fun _ _=>trivial
   by_cases hs:s = []
   ·subst hs
    refine aN (fun h9=>absurd h9 (by decide)) (fun _=>?_)
    refine aN (fun _=>?_) (fun h9=>absurd h9 (by decide))
    exact bad (.inl rfl)
   ·have hl0:0 < s.length:=List.length_pos_iff.2 hs
    refine aN (fun _=>?_) (fun h9=>absurd (by simpa using h9) hs)
    refine bN2 ?_
    by_cases hb:s.getD 0 0 = 48∧1 < s.length
    ·refine aN (fun _=>?_) (fun h9=>absurd h9 (by rw [show (s.getD (Int.toNat 0) 0) = 48 from hb.1]; decide))
     intro _
     refine aN (fun _=>?_) (fun h9=>?_)
     ·exact bad (.inr (.inl hb))
     ·exfalso
      have h9:decide ((1:Int) < (s.length:Int)) = false:=by
       exact h9
      have:=of_decide_eq_false h9
      omega
    ·refine aN (fun h8=>?_) (fun h8=>?_)
     ·have h8 : s.getD 0 0 = 48 := by
       have h9:=eq_of_beq h8
       exact UInt8.toNat_inj.1 (by show (s.getD 0 0).toNat = 48; have h9:((s.getD 0 0).toNat:Int) = 48:=h9; omega)
      intro _
      refine aN (fun h9=>?_) (fun _=>?_)
      ·exfalso
       have h9:decide ((1:Int) < (s.length:Int)) = true:=h9
       have:=of_decide_eq_true h9
       exact hb ⟨h8,by omega⟩
      ·intro _
       refine eX [(4,4,.u32)] (eX [] (eX [] (eX Nat (eX (fun k=>k≤s.length∧∀ c ∈ s.take k,isd c) (eX (fun k=>⟨[(4,.vec 4 .u32 (dg 4294967296 (dv (s.take k)))),(25,.rd .u8 (s.map fun b=>(b.toNat:Int))),(26,.i .i64 (s.map fun b=>(b.toNat:Int)).length),(27,.i .i64 k)],[]⟩) (eX (fun k=>s.length - k) (eX 0 (aN ⟨Nat.zero_le _,by simp⟩ (aN ?_ ?_)))))))))
       ·(repeat' (first | exact trivial | exact Or.inl rfl | exact Or.inr (Or.inl ⟨rfl,_,rfl⟩) | exact Or.inr (Or.inr (Or.inr ⟨_,_,_,rfl,rfl⟩)) | refine aN ?_ ?_))
       ·rintro k ⟨hk,hd⟩
        refine aN (fun hc=>?_) (fun hc=>?_)
        ·have hkl : k < s.length := by
          have:(k:Int) < ((s.map fun b=>(b.toNat:Int)).length:Int):=of_decide_eq_true hc
          rw [List.length_map] at this
          omega
         refine aN ⟨by omega,by rw [List.length_map]; omega⟩ ?_
         have hby:(s.map fun b=>(b.toNat:Int)).getD (Int.toNat (k:Int)) (dflt .u8) = ((s.getD k 0).toNat:Int):=by
          rw [Int.toNat_natCast,List.getD_eq_getElem?_getD,List.getElem?_map,List.getElem?_eq_getElem hkl,List.getD_eq_getElem?_getD,List.getElem?_eq_getElem hkl]
          rfl
         (conv=>whnf)
         rw [hby]
         have hmem:s.getD k 0 ∈ s:=by rw [List.getD_eq_getElem?_getD,List.getElem?_eq_getElem hkl]; exact List.getElem_mem hkl
         have go:isd (s.getD k 0)→∀ c ∈ s.take (k + 1),isd c:=fun hi c hc=>by
          rw [List.take_add_one,List.getElem?_eq_getElem hkl] at hc
          rcases List.mem_append.1 hc with hc | hc
          ·exact hd c hc
          ·rw [List.getD_eq_getElem?_getD,List.getElem?_eq_getElem hkl] at hi
           have:c = s[k]:=by simpa using hc
           rw [this]; exact hi
         refine aN (fun hlo=>?_) (fun hlo=>?_)
         ·have hlo:¬ ((s.getD k 0).toNat:Int) < 48:=of_decide_eq_false hlo
          refine aN (fun hhi=>?_) (fun hhi=>?_)
          ·have hhi:(57:Int) < ((s.getD k 0).toNat:Int):=of_decide_eq_true hhi
           exact bad (.inr (.inr ⟨_,hmem,by unfold isd; omega⟩))
          ·have hhi:¬ (57:Int) < ((s.getD k 0).toNat:Int):=of_decide_eq_false hhi
           have hi:isd (s.getD k 0):=by unfold isd; omega
           have go:=go hi
           have hdv:=dv_take_succ s hkl
           have hol:=read_len hd
           have hvl:vl 4294967296 (dg 4294967296 (dv (s.take k))) = dv (s.take k):=vl_dg b32 _
           have hoD:=dg_Dg b32 (dv (s.take k))
           have more:=fun (y:Nat) (q:List Int) hD hl hv=>read_more (s:=s) (k:=k) (y:=y) (q:=q) hD hl hdv hv
           have hdl:(s.getD k 0).toNat - 48≤9:=by omega
           have ed:IntKind.u64.wrap (IntKind.u8.wrap (((s.getD k 0).toNat:Int) - 48)) = (((s.getD k 0).toNat - 48:Nat):Int):=by
            rw [IntKind.wrap_u8,IntKind.wrap_u64]; omega
           rw [List.length_take] at hol
           generalize dg 4294967296 (dv (s.take k)) = o at hvl hoD more hol
           generalize (s.getD k 0).toNat - 48 = d at hdl ed more hdv
           intro _
           refine eX [] (eX [] (eX [] (eX (Nat × Nat × List Int) (eX (fun x=>x.1≤o.length∧x.2.2.length = o.length∧Dg 4294967296 x.2.2∧x.2.1≤9∧vl 4294967296 (x.2.2.take x.1) + 4294967296 ^ x.1 * x.2.1 = 10 * vl 4294967296 (o.take x.1) + d∧∀ t,x.1≤t→x.2.2.getD t 0 = o.getD t 0) (eX (fun ⟨i,y,q⟩=>⟨[(4,.vec 4 .u32 q),(7,.i .u64 y),(25,.rd .u8 (s.map fun b=>(b.toNat:Int))),(26,.i .i64 (s.map fun b=>(b.toNat:Int)).length),(27,.i .i64 k),(41,.i .i64 o.length),(42,.i .i64 i)],[]⟩) (eX (fun x=>o.length - x.1) (eX (0,d,o) (aN ⟨Nat.zero_le _,rfl,hoD,hdl,by simp [vl],fun _ _=>rfl⟩ (aN ?_ ?_)))))))))
           ·(repeat' (first | exact trivial | exact Or.inl rfl | exact Or.inl ((congrArg (AV.i .u64) ed)) | refine aN ?_ ?_))
           ·rintro ⟨i,y,q⟩ ⟨f1,f2,f3,f4,f5,f6⟩
            dsimp only at f1 f2 f3 f4 f5 f6
            refine aN (fun hx=>?_) (fun hx=>?_)
            · have hil : i < o.length := by have : (i : Int) < (o.length : Int) := of_decide_eq_true hx
                                            omega
              obtain ⟨x,hx,hxl,hxn⟩:=get32 hoD i
              have st:=read_step (o:=o) (by omega) f3 hxn f4 hxl f5
              have ev:=read_val hxl f4
              rw [← hx,← f6 i (Nat.le_refl _)] at ev
              have ev:IntKind.u64.wrap ((y:Int) + IntKind.u64.wrap (IntKind.u64.wrap (q.getD (Int.toNat (i:Int)) (dflt .u32)) * 10)) = ((y + x * 10:Nat):Int):=ev
              refine bN2 ?_
              (conv=>whnf)
              rw [ev]
              generalize hT:y + x * 10 = T at st
              have e7:IntKind.u32.wrap (T:Int) = ((T % 4294967296:Nat):Int):=by rw [IntKind.wrap_u32']; rfl
              refine bN2 ?_
              refine aN (by decide) ?_
              (refine rNG ?_)
              refine eX [] (eX (i + 1,T / 4294967296,q.set i ((T % 4294967296:Nat):Int)) (aN ⟨hil,by simp [f2],st.1,st.2.1,st.2.2,fun t ht=>by rw [getD_set_ne (by dsimp only at ht; omega)]; exact f6 t (by dsimp only at ht; omega)⟩ (aN ?_ ?_)))
              ·(repeat' (first | exact trivial | exact Or.inl rfl | exact Or.inl ((by first | exact congrArg (fun v=>AV.vec 4 .u32 (q.set i v)) e7 | exact congrArg (AV.i .u64) (shr32 T))) | refine aN ?_ ?_))
              ·show o.length - (i + 1) < o.length - i
               omega
            · have hil : i = o.length := by have : ¬ (i : Int) < (o.length : Int) := of_decide_eq_false hx
                                            omega
              subst hil
              rw [List.take_of_length_le (l:=q) (by omega),List.take_length,hvl] at f5
              have mo:=more y q f3 f2 (by rw [f2]; exact f5)
              have hlen:((s.map fun b=>(b.toNat:Int)).length:Int) = s.length:=by rw [List.length_map]
              refine aN (fun hy=>?_) (fun hy=>?_)
              · have hy : 0 < y := by have : (0 : Int) < (y : Int) := of_decide_eq_true hy
                                      omega
                refine aN (by show (q.length + 1) * 4≤_; omega) ?_
                (refine rNG ?_)
                refine eX [(67,4)] (eX (k + 1) (aN ⟨hkl,go⟩ (aN ?_ ?_)))
                ·(repeat' (first | exact trivial | exact Or.inl rfl | exact Or.inl ((by rw [← mo.1 hy f4]; exact congrArg (fun v:Int=>AV.vec 4 .u32 (q++[v])) (wrap32 (by omega)))) | refine aN ?_ ?_))
                ·show s.length - (k + 1) < s.length - k
                 omega
              · have hy : y = 0 := by have : ¬ (0 : Int) < (y : Int) := of_decide_eq_false hy
                                      omega
                (refine rNG ?_)
                refine eX [] (eX (k + 1) (aN ⟨hkl,go⟩ (aN ?_ ?_)))
                ·(repeat' (first | exact trivial | exact Or.inl rfl | exact Or.inl ((congrArg (AV.vec 4 .u32) (mo.2 hy))) | refine aN ?_ ?_))
                ·show s.length - (k + 1) < s.length - k
                 omega
         ·have hlo:((s.getD k 0).toNat:Int) < 48:=of_decide_eq_true hlo
          refine aN (fun _=>?_) (fun h9=>absurd h9 (by decide))
          exact bad (.inr (.inr ⟨_,hmem,by unfold isd; omega⟩))
        ·have hkl : k = s.length := by
          have:¬ (k:Int) < ((s.map fun b=>(b.toNat:Int)).length:Int):=of_decide_eq_false hc
          rw [List.length_map] at this
          omega
         subst hkl
         rw [List.take_length] at hd
         refine Eq.trans ?_ (good fun h=>?_)
         ·rw [List.take_length]; rfl
         ·rcases h with h | h | ⟨c,hc,hn⟩
          ·exact hs h
          ·exact hb h
          ·exact hn (hd c hc)
     ·refine aN (fun h9=>?_) (fun _=>?_)
      ·exfalso
       have h9:(bif false then true else bif ((((s.getD (Int.toNat 0) 0).toNat:Int) == 48):Bool) then false else false) = true:=by
        cases h7:((((s.getD (Int.toNat 0) 0).toNat:Int) == 48):Bool)<;>simp_all
       cases h7:((((s.getD (Int.toNat 0) 0).toNat:Int) == 48):Bool)<;>simp_all
      ·intro _
       refine eX [(4,4,.u32)] (eX [] (eX [] (eX Nat (eX (fun k=>k≤s.length∧∀ c ∈ s.take k,isd c) (eX (fun k=>⟨[(4,.vec 4 .u32 (dg 4294967296 (dv (s.take k)))),(25,.rd .u8 (s.map fun b=>(b.toNat:Int))),(26,.i .i64 (s.map fun b=>(b.toNat:Int)).length),(27,.i .i64 k)],[]⟩) (eX (fun k=>s.length - k) (eX 0 (aN ⟨Nat.zero_le _,by simp⟩ (aN ?_ ?_)))))))))
       ·(repeat' (first | exact trivial | exact Or.inl rfl | exact Or.inr (Or.inl ⟨rfl,_,rfl⟩) | exact Or.inr (Or.inr (Or.inr ⟨_,_,_,rfl,rfl⟩)) | refine aN ?_ ?_))
       ·rintro k ⟨hk,hd⟩
        refine aN (fun hc=>?_) (fun hc=>?_)
        ·have hkl : k < s.length := by
          have:(k:Int) < ((s.map fun b=>(b.toNat:Int)).length:Int):=of_decide_eq_true hc
          rw [List.length_map] at this
          omega
         refine aN ⟨by omega,by rw [List.length_map]; omega⟩ ?_
         have hby:(s.map fun b=>(b.toNat:Int)).getD (Int.toNat (k:Int)) (dflt .u8) = ((s.getD k 0).toNat:Int):=by
          rw [Int.toNat_natCast,List.getD_eq_getElem?_getD,List.getElem?_map,List.getElem?_eq_getElem hkl,List.getD_eq_getElem?_getD,List.getElem?_eq_getElem hkl]
          rfl
         (conv=>whnf)
         rw [hby]
         have hmem:s.getD k 0 ∈ s:=by rw [List.getD_eq_getElem?_getD,List.getElem?_eq_getElem hkl]; exact List.getElem_mem hkl
         have go:isd (s.getD k 0)→∀ c ∈ s.take (k + 1),isd c:=fun hi c hc=>by
          rw [List.take_add_one,List.getElem?_eq_getElem hkl] at hc
          rcases List.mem_append.1 hc with hc | hc
          ·exact hd c hc
          ·rw [List.getD_eq_getElem?_getD,List.getElem?_eq_getElem hkl] at hi
           have:c = s[k]:=by simpa using hc
           rw [this]; exact hi
         refine aN (fun hlo=>?_) (fun hlo=>?_)
         ·have hlo:¬ ((s.getD k 0).toNat:Int) < 48:=of_decide_eq_false hlo
          refine aN (fun hhi=>?_) (fun hhi=>?_)
          ·have hhi:(57:Int) < ((s.getD k 0).toNat:Int):=of_decide_eq_true hhi
           exact bad (.inr (.inr ⟨_,hmem,by unfold isd; omega⟩))
          ·have hhi:¬ (57:Int) < ((s.getD k 0).toNat:Int):=of_decide_eq_false hhi
           have hi:isd (s.getD k 0):=by unfold isd; omega
           have go:=go hi
           have hdv:=dv_take_succ s hkl
           have hol:=read_len hd
           have hvl:vl 4294967296 (dg 4294967296 (dv (s.take k))) = dv (s.take k):=vl_dg b32 _
           have hoD:=dg_Dg b32 (dv (s.take k))
           have more:=fun (y:Nat) (q:List Int) hD hl hv=>read_more (s:=s) (k:=k) (y:=y) (q:=q) hD hl hdv hv
           have hdl:(s.getD k 0).toNat - 48≤9:=by omega
           have ed:IntKind.u64.wrap (IntKind.u8.wrap (((s.getD k 0).toNat:Int) - 48)) = (((s.getD k 0).toNat - 48:Nat):Int):=by
            rw [IntKind.wrap_u8,IntKind.wrap_u64]; omega
           rw [List.length_take] at hol
           generalize dg 4294967296 (dv (s.take k)) = o at hvl hoD more hol
           generalize (s.getD k 0).toNat - 48 = d at hdl ed more hdv
           intro _
           refine eX [] (eX [] (eX [] (eX (Nat × Nat × List Int) (eX (fun x=>x.1≤o.length∧x.2.2.length = o.length∧Dg 4294967296 x.2.2∧x.2.1≤9∧vl 4294967296 (x.2.2.take x.1) + 4294967296 ^ x.1 * x.2.1 = 10 * vl 4294967296 (o.take x.1) + d∧∀ t,x.1≤t→x.2.2.getD t 0 = o.getD t 0) (eX (fun ⟨i,y,q⟩=>⟨[(4,.vec 4 .u32 q),(7,.i .u64 y),(25,.rd .u8 (s.map fun b=>(b.toNat:Int))),(26,.i .i64 (s.map fun b=>(b.toNat:Int)).length),(27,.i .i64 k),(41,.i .i64 o.length),(42,.i .i64 i)],[]⟩) (eX (fun x=>o.length - x.1) (eX (0,d,o) (aN ⟨Nat.zero_le _,rfl,hoD,hdl,by simp [vl],fun _ _=>rfl⟩ (aN ?_ ?_)))))))))
           ·(repeat' (first | exact trivial | exact Or.inl rfl | exact Or.inl ((congrArg (AV.i .u64) ed)) | refine aN ?_ ?_))
           ·rintro ⟨i,y,q⟩ ⟨f1,f2,f3,f4,f5,f6⟩
            dsimp only at f1 f2 f3 f4 f5 f6
            refine aN (fun hx=>?_) (fun hx=>?_)
            · have hil : i < o.length := by have : (i : Int) < (o.length : Int) := of_decide_eq_true hx
                                            omega
              obtain ⟨x,hx,hxl,hxn⟩:=get32 hoD i
              have st:=read_step (o:=o) (by omega) f3 hxn f4 hxl f5
              have ev:=read_val hxl f4
              rw [← hx,← f6 i (Nat.le_refl _)] at ev
              have ev:IntKind.u64.wrap ((y:Int) + IntKind.u64.wrap (IntKind.u64.wrap (q.getD (Int.toNat (i:Int)) (dflt .u32)) * 10)) = ((y + x * 10:Nat):Int):=ev
              refine bN2 ?_
              (conv=>whnf)
              rw [ev]
              generalize hT:y + x * 10 = T at st
              have e7:IntKind.u32.wrap (T:Int) = ((T % 4294967296:Nat):Int):=by rw [IntKind.wrap_u32']; rfl
              refine bN2 ?_
              refine aN (by decide) ?_
              (refine rNG ?_)
              refine eX [] (eX (i + 1,T / 4294967296,q.set i ((T % 4294967296:Nat):Int)) (aN ⟨hil,by simp [f2],st.1,st.2.1,st.2.2,fun t ht=>by rw [getD_set_ne (by dsimp only at ht; omega)]; exact f6 t (by dsimp only at ht; omega)⟩ (aN ?_ ?_)))
              ·(repeat' (first | exact trivial | exact Or.inl rfl | exact Or.inl ((by first | exact congrArg (fun v=>AV.vec 4 .u32 (q.set i v)) e7 | exact congrArg (AV.i .u64) (shr32 T))) | refine aN ?_ ?_))
              ·show o.length - (i + 1) < o.length - i
               omega
            · have hil : i = o.length := by have : ¬ (i : Int) < (o.length : Int) := of_decide_eq_false hx
                                            omega
              subst hil
              rw [List.take_of_length_le (l:=q) (by omega),List.take_length,hvl] at f5
              have mo:=more y q f3 f2 (by rw [f2]; exact f5)
              have hlen:((s.map fun b=>(b.toNat:Int)).length:Int) = s.length:=by rw [List.length_map]
              refine aN (fun hy=>?_) (fun hy=>?_)
              · have hy : 0 < y := by have : (0 : Int) < (y : Int) := of_decide_eq_true hy
                                      omega
                refine aN (by show (q.length + 1) * 4≤_; omega) ?_
                (refine rNG ?_)
                refine eX [(67,4)] (eX (k + 1) (aN ⟨hkl,go⟩ (aN ?_ ?_)))
                ·(repeat' (first | exact trivial | exact Or.inl rfl | exact Or.inl ((by rw [← mo.1 hy f4]; exact congrArg (fun v:Int=>AV.vec 4 .u32 (q++[v])) (wrap32 (by omega)))) | refine aN ?_ ?_))
                ·show s.length - (k + 1) < s.length - k
                 omega
              · have hy : y = 0 := by have : ¬ (0 : Int) < (y : Int) := of_decide_eq_false hy
                                      omega
                (refine rNG ?_)
                refine eX [] (eX (k + 1) (aN ⟨hkl,go⟩ (aN ?_ ?_)))
                ·(repeat' (first | exact trivial | exact Or.inl rfl | exact Or.inl ((congrArg (AV.vec 4 .u32) (mo.2 hy))) | refine aN ?_ ?_))
                ·show s.length - (k + 1) < s.length - k
                 omega
         ·have hlo:((s.getD k 0).toNat:Int) < 48:=of_decide_eq_true hlo
          refine aN (fun _=>?_) (fun h9=>absurd h9 (by decide))
          exact bad (.inr (.inr ⟨_,hmem,by unfold isd; omega⟩))
        ·have hkl : k = s.length := by
          have:¬ (k:Int) < ((s.map fun b=>(b.toNat:Int)).length:Int):=of_decide_eq_false hc
          rw [List.length_map] at this
          omega
         subst hkl
         rw [List.take_length] at hd
         refine Eq.trans ?_ (good fun h=>?_)
         ·rw [List.take_length]; rfl
         ·rcases h with h | h | ⟨c,hc,hn⟩
          ·exact hs h
          ·exact hb h
          ·exact hn (hd c hc)
theorem s_read (s:Str):PSpec Tryd.prog 113 [.s s] (readR s) :=
 pspec_of_vc Γ_good Tryd.func113 rfl Tryd.call113 Tryd.results113 Tryd.ntmps113 (Nat.le_of_ble_eq_true rfl) (w_read s)
end
end Go.Proofs.YtdcdmojbkmedpaaDoor
end
section
namespace Go.Proofs.YtdcdmojbkmedpaaDoor
open Go Go.SX Go.Bg Go.Fl Go.Nm
set_option maxRecDepth 100000
set_option maxHeartbeats 4000000
def clampE (x:Int):Int:=if (if 1000 < x then 1000 else x) < -1000 then -1000 else (if 1000 < x then 1000 else x)
def sgB (s:Str):Nat:=if isPre [45] s then 9223372036854775808 else 0
def bitsP (x:LitF):Nat:=nearF (dv (x.w++x.f)) (clampE (expP x))
def rdP (s:Str):Nat × Int :=
 if 80 < s.length then (0,2) else if s = [110,97,110] then (9221120237041090561,0) else if cutP [45] s = [105,110,102] then (9218868437227405312 + sgB s,0) else
  match litP (cutP [45] s) with
  | none=>(0,4)
  | some x=>if bitsP x = 9218868437227405312 then (0,7) else (bitsP x + sgB s,0)
def rdR (s:Str):Nat × Int :=
 if 80 < s.length then (0,2) else if s = [110,97,110] then (9221120237041090561,0) else if cutP [45] s = [105,110,102] then (9218868437227405312 + sgB s,0) else
  match litP (cutP [45] s) with
  | none=>(0,4)
  | some x=>if dv (x.w++x.f) = 0∨expR x < -500 then (sgB s,0) else if 400 < expR x then (0,7) else if nearF (dv (x.w++x.f)) (expR x) = 9218868437227405312 then (0,7) else (nearF (dv (x.w++x.f)) (expR x) + sgB s,0)
def rdA (p:Nat × Int):AV:=.tup [.i .u64 p.1,.i .i64 p.2]
theorem nearF_zero {m:Nat} {x:Int} (hm:m < 10 ^ 80) (h1:x < -500):nearF m x = 0:=by
 unfold nearF
 split
 ·rfl
 ·rename_i h
  unfold ratN ratD
  rw [if_pos (by omega),if_pos (by omega)]
  exact near_zero (by omega) hm (by omega)
theorem nearF_inf {m:Nat} {x:Int} (hm:0 < m) (h1:400 < x):nearF m x = 9218868437227405312:=by
 unfold nearF
 rw [if_neg (by omega)]
 unfold ratN ratD
 rw [if_neg (by omega),if_neg (by omega)]
 exact near_inf hm (by omega)
theorem nearF_le (m:Nat) (x:Int):nearF m x≤9218868437227405312:=by
 unfold nearF
 split
 ·exact Nat.zero_le _
 ·exact near_le _ _ (ratN_pos (by omega) _) (ratD_pos _)
theorem cut_len (s:Str):(cutP [45] s).length≤s.length:=by
 unfold cutP
 split
 ·rw [List.length_drop]; omega
 ·exact Nat.le_refl _
theorem dv80 {x:LitF} {r:Str} (h:litP r = some x) (hl:r.length≤80):dv (x.w++x.f) < 10 ^ 80:=by
 obtain ⟨h1,h2,h3⟩:=litP_good h
 exact Nat.lt_of_lt_of_le (dv_lt h1) (Nat.pow_le_pow_right (by decide) (by omega))
theorem rd_same (s:Str):rdP s = rdR s:=by
 unfold rdP rdR
 split
 ·rfl
 rename_i h80
 split
 ·rfl
 split
 ·rfl
 cases hl:litP (cutP [45] s) with
 | none=>rfl
 | some x =>
  dsimp only
  have hm:=dv80 hl (by have:=cut_len s; omega)
  obtain ⟨g1,g2,g3⟩:=litP_good hl
  have hc:=cut_len s
  have he:=exp_same g2 (by rw [List.length_append] at g3; omega)
  unfold bitsP
  generalize dv (x.w++x.f) = m at *
  generalize expP x = a at *
  generalize expR x = b at *
  by_cases hm0:m = 0
  ·subst hm0
   have h0:∀ e,nearF 0 e = 0:=fun e=>rfl
   rw [h0,if_neg (by decide),if_pos (.inl rfl),Nat.zero_add]
  by_cases hb:b < -500
  ·have ha:clampE a < -500:=by unfold clampE; split<;>(try split at *)<;>omega
   rw [nearF_zero hm ha,if_neg (by decide),if_pos (.inr hb),Nat.zero_add]
  by_cases hb2:400 < b
  ·have ha:400 < clampE a:=by unfold clampE; split<;>(try split at *)<;>omega
   rw [nearF_inf (by omega) ha,if_pos rfl,if_neg (by omega),if_pos hb2]
  ·have ha:clampE a = b:=by unfold clampE; split<;>(try split at *)<;>omega
   rw [ha,if_neg (show ¬ (m = 0∨b < -500) by omega),if_neg hb2]
theorem trim_dv (d:Str):dv (Lib.trimLeftB d 48) = dv d:=by
 unfold Lib.trimLeftB
 induction d with
 | nil=>rfl
 | cons c r ih =>
  rw [List.dropWhile_cons]
  split
  ·rename_i h
   rw [ih,eq_of_beq h]
   simp [dv]
  ·rfl
theorem trim_mem {d:Str}:∀ c ∈ Lib.trimLeftB d 48,c ∈ d:=fun c hc=>(List.dropWhile_sublist _).subset hc
theorem trim_head {d:Str} (h:Lib.trimLeftB d 48≠[]):(Lib.trimLeftB d 48).getD 0 0≠48:=by
 unfold Lib.trimLeftB at h ⊢
 induction d with
 | nil=>exact absurd rfl h
 | cons c r ih =>
  rw [List.dropWhile_cons] at h ⊢
  split
  ·rename_i h2
   rw [if_pos h2] at h
   exact ih h
  ·rename_i h2
   intro h3
   have h3:c = 48:=h3
   exact h2 (by rw [h3]; decide)
theorem or_sign {b:Nat} (h:b < 9223372036854775808):bits .or .u64 (b:Int) 9223372036854775808 = ((b + 9223372036854775808:Nat):Int):=by
 have h1:(BitVec.ofInt 64 9223372036854775808).toNat = 9223372036854775808:=by decide
 have h2:(BitVec.ofInt 64 (b:Int)).toNat = b:=by rw [BitVec.toNat_ofInt]; omega
 have key:(BitVec.ofInt 64 (b:Int) ||| BitVec.ofInt 64 9223372036854775808).toNat = b + 9223372036854775808:=by
  rw [BitVec.toNat_or,h1,h2]
  have:=Nat.two_pow_add_eq_or_of_lt (i:=63) (b:=b) (by simpa using h) 1
  rw [Nat.or_comm]
  simp at this
  omega
 show IntKind.u64.wrap ((BitVec.ofInt 64 (b:Int) ||| BitVec.ofInt 64 9223372036854775808).toNat:Nat) = ((b + 9223372036854775808:Nat):Int)
 rw [key,IntKind.wrap_u64]
 omega
end Go.Proofs.YtdcdmojbkmedpaaDoor
end
section
namespace Go.Proofs.YtdcdmojbkmedpaaDoor
open Go Go.SX Go.Bg Go.Fl Go.Nm
set_option maxRecDepth 100000
set_option maxHeartbeats 4000000
theorem bl_ten {n:Nat} (h:n < 10 ^ 80):bl n≤320:=by
 obtain ⟨j,hj⟩:∃ j:Nat,j = 80:=⟨_,rfl⟩
 rw [← hj] at h
 have h2:n < 2 ^ (4 * j):=by
  rw [Nat.pow_mul]
  exact Nat.lt_of_lt_of_le h (Nat.pow_le_pow_left (by decide) _)
 rcases Nat.eq_zero_or_pos n with h0 | h0
 ·subst h0; exact Nat.zero_le _
 ·obtain ⟨k,k1,k2,_⟩:=bl_bounds h0
  have:=(Nat.pow_lt_pow_iff_right (a:=2) (by decide)).1 (Nat.lt_of_le_of_lt k2 h2)
  omega
theorem clamp_rng (x:Int) : -1000≤clampE x∧clampE x≤1000:=by unfold clampE; split<;>(try split)<;>(try split at *)<;>omega
section
variable [G:Globs]
theorem w_read2 (s:Str) (hs:s.length≤1048576):VCs Tryd.prog Γ 58 [0,2,3,4,5,6,7,8,9,10,11,15,28,32,47,48,51,54] (Tryd.f52.body.getD .skip) (postK Γ [.tmp 2,.tmp 3] (fun v=>v = rdA (rdP s))) ⟨argSlots 0 [.s s],[]⟩:=by
 refine VCs.seq (by first | exact Γ_good | exact Ctx.good_kp Γ_good _) ?_
 refine VCs.seq (by first | exact Γ_good | exact Ctx.good_kp Γ_good _) ?_
 intro _
 by_cases h80:80 < s.length
 ·rw [rdP,if_pos h80]
  (repeat' (first | (refine aN (fun h=>?_) (fun h=>?_)<;>(try simp [-List.getD_eq_getElem?_getD,-Int.pred_toNat] at h)<;>(try (exfalso; first | omega | contradiction))) | (refine rNG ?_) | (refine bN2 ?_) | (refine bN3 ?_) | (intro _)))
  rfl
 refine aN (fun h9=>absurd (of_decide_eq_true h9) (by omega)) (fun _=>?_)
 have hcl:=cut_len s
 refine VCs.seq (by first | exact Γ_good | exact Ctx.good_kp Γ_good _) ?_
 refine Or.inl (eX _ (aN (s_cutPre s [45]) ?_))
 refine VCs.seq (by first | exact Γ_good | exact Ctx.good_kp Γ_good _) ?_
 refine VCs.cut (by first | exact Γ_good | exact Ctx.good_kp Γ_good _) Nat (fun b=>b < 9223372036854775808∧rdP s = (b + sgB s,0)) (fun b=>⟨[(5,.b (isPre [45] s)),(6,.i .u64 b)],[]⟩) ?_ ?_
 ·by_cases hn:s = [110,97,110]
  ·have hR:rdP s = (9221120237041090561,0):=by rw [rdP,if_neg h80,if_pos hn]
   rw [hR,hn]
   (focus (refine aN ?_ (fun h9=>?_); rotate_left 1; (focus (exfalso; revert h9; first | decide | (simp<;>omega) | (intro h9; simp at h9<;>omega))); refine fun _=>?_))
   rfl
  refine aN (fun h9=>absurd (eq_of_beq h9) hn) (fun _=>?_)
  by_cases hi:cutP [45] s = [105,110,102]
  ·have hR:rdP s = (9218868437227405312 + sgB s,0):=by rw [rdP,if_neg h80,if_neg hn,if_pos hi]
   refine aN (fun _=>?_) (fun h9=>absurd hi (ne_of_beq_false h9))
   refine eX 9218868437227405312 (aN ⟨by decide,hR⟩ ?_)
   (repeat' (first | exact trivial | exact Or.inl rfl | exact Or.inr (Or.inl ⟨rfl,_,rfl⟩) | exact Or.inr (Or.inr (Or.inr ⟨_,_,_,rfl,rfl⟩)) | refine aN ?_ ?_))
  refine aN (fun h9=>absurd (eq_of_beq h9) hi) (fun _=>?_)
  have hR:rdP s = match litP (cutP [45] s) with
   | none=>(0,4)
   | some x=>if bitsP x = 9218868437227405312 then (0,7) else (bitsP x + sgB s,0):=by (rw [rdP,if_neg h80,if_neg hn,if_neg hi])<;>rfl
  have ql:=s_literal (cutP [45] s) (by omega)
  cases hl:litP (cutP [45] s) with
  | none =>
   rw [litA_none hl] at ql
   rw [hl] at hR
   have hR:rdP s = (0,4):=hR
   rw [hR]
   refine Or.inl (eX _ (aN (ql) ?_))
   (focus (refine aN ?_ (fun h9=>?_); rotate_left 1; (focus (exfalso; revert h9; first | decide | (simp<;>omega) | (intro h9; simp at h9<;>omega))); refine fun _=>?_))
   rfl
  | some x =>
   rw [litA_some hl] at ql
   rw [hl] at hR
   have hR:rdP s = if bitsP x = 9218868437227405312 then (0,7) else (bitsP x + sgB s,0):=hR
   have hm:=dv80 hl (by omega)
   obtain ⟨g1,g2,g3⟩:=litP_good hl
   have qt:=s_trimLeft (x.w++x.f) (by omega)
   have ht1:=trim_dv (x.w++x.f)
   have ht2:=trim_head (d:=x.w++x.f)
   have ht3:=trim_mem (d:=x.w++x.f)
   have ht4:(Lib.trimLeftB (x.w++x.f) 48).length≤80:=by
    have:(Lib.trimLeftB (x.w++x.f) 48).length≤(x.w++x.f).length:=by unfold Lib.trimLeftB; exact (List.dropWhile_sublist _).length_le
    omega
   have hbe:bitsP x = nearF (dv (x.w++x.f)) (clampE (expP x)):=rfl
   have hble:=nearF_le (dv (x.w++x.f)) (clampE (expP x))
   rw [← hbe] at hble
   have hcr:=clamp_rng (expP x)
   have hce:clampE (expP x) = if (if 1000 < expP x then 1000 else expP x) < -1000 then -1000 else (if 1000 < expP x then 1000 else expP x):=rfl
   generalize expP x = ee at *
   generalize bitsP x = b at *
   generalize x.w++x.f = d at *
   generalize Lib.trimLeftB d 48 = t at *
   refine Or.inl (eX _ (aN (ql) ?_))
   (focus (refine aN (fun h9=>?_) ?_; (focus (exfalso; revert h9; first | decide | (simp<;>omega) | (intro h9; simp at h9<;>omega))); refine fun _=>?_))
   refine Or.inl (eX _ (aN (qt) ?_))
   by_cases ht:t = []
   ·have hb0 : b = 0 := by
     rw [hbe,← ht1,ht]
     rfl
    subst hb0
    rw [if_neg (by decide)] at hR
    rw [ht]
    (focus (refine aN (fun h9=>?_) ?_; (focus (exfalso; revert h9; first | decide | (simp<;>omega) | (intro h9; simp at h9<;>omega))); refine fun _=>?_))
    (focus (refine aN (fun h9=>?_) ?_; (focus (exfalso; revert h9; first | decide | (simp<;>omega) | (intro h9; simp at h9<;>omega))); refine fun _=>?_))
    refine eX 0 (aN ⟨by decide,hR⟩ ?_)
    (repeat' (first | exact trivial | exact Or.inl rfl | exact Or.inr (Or.inl ⟨rfl,_,rfl⟩) | exact Or.inr (Or.inr (Or.inr ⟨_,_,_,rfl,rfl⟩)) | refine aN ?_ ?_))
   have hbad:¬ badN t:=by
    rintro (h | h | ⟨c,hc,h⟩)
    ·exact ht h
    ·exact ht2 ht h.1
    ·exact h (g1 c (ht3 c hc))
   have qr:=s_read t
   rw [readR,if_neg (by omega),if_neg hbad,ht1] at qr
   have hbl:=bl_ten hm
   have qn:=s_near (dg 4294967296 (dv d)) (clampE ee) (dg_Dg b32 _) (by have:=bl_len (m:=dv d) (K:=10) (by omega); omega)
   rw [vl_dg b32,nearA,if_neg (by omega),← hbe,hce] at qn
   have htn:(t != []) = true:=by
    cases t with
    | nil=>exact absurd rfl ht
    | cons _ _=>rfl
   have hf:¬ (t != []) = false:=by rw [htn]; decide
   refine aN (fun _=>?_) (fun h9=>absurd h9 hf)
   refine Or.inl (eX _ (aN (qr) ?_))
   refine Or.inl (eX _ (aN (qn) ?_))
   by_cases hb:b = 9218868437227405312
   ·rw [if_pos hb] at hR
    refine aN (fun _=>?_) (fun h9=>absurd (show (b:Int) = 9218868437227405312 by omega) (ne_of_beq_false h9))
    rw [hR]
    rfl
   ·rw [if_neg hb] at hR
    refine aN (fun h9=>absurd (show (b:Int) = 9218868437227405312 from eq_of_beq h9) (by omega)) (fun _=>?_)
    refine eX b (aN ⟨by omega,hR⟩ ?_)
    (repeat' (first | exact trivial | exact Or.inl rfl | exact Or.inr (Or.inl ⟨rfl,_,rfl⟩) | exact Or.inr (Or.inr (Or.inr ⟨_,_,_,rfl,rfl⟩)) | refine aN ?_ ?_))
 rintro b ⟨g1,g2⟩
 rw [g2]
 refine VCs.of_vc (by first | exact Γ_good | exact Ctx.good_kp Γ_good _) ?_
 have ho:=or_sign g1
 refine aN (fun h=>?_) (fun h=>?_)
 ·have h:isPre [45] s = true:=h
  have hs:sgB s = 9223372036854775808:=by rw [sgB,if_pos h]
  rw [hs]
  exact congrArg (fun z=>AV.tup [AV.i .u64 z,.i .i64 0]) ho
 ·have h:isPre [45] s = false:=h
  have hs:sgB s = 0:=by rw [sgB,if_neg (by rw [h]; decide)]
  rw [hs]
  rfl
theorem s_read2 (s:Str) (hs:s.length≤1048576):PSpec Tryd.prog 52 [.s s] (rdA (rdP s)) :=
 pspec_of_VCs Γ_good Tryd.func52 rfl Tryd.call52 Tryd.results52 Tryd.ntmps52 (Nat.le_of_ble_eq_true rfl) (w_read2 s hs) Γ_good
end
end Go.Proofs.YtdcdmojbkmedpaaDoor
end
section
namespace Go.Proofs.YtdcdmojbkmedpaaDoor
open Go Go.SX Go.Bg
set_option maxRecDepth 100000
set_option maxHeartbeats 4000000
section
variable [G:Globs]
end
end Go.Proofs.YtdcdmojbkmedpaaDoor
end
section
namespace Go.Proofs.YtdcdmojbkmedpaaDoor
open Go Go.SX Go.Bg Go.Fl
set_option maxRecDepth 100000
set_option maxHeartbeats 4000000
theorem dg_mono {a b:Nat} (h:a≤b):(dg 10000 a).length≤(dg 10000 b).length:=dg_len_le b10 _ _ (Nat.lt_of_le_of_lt h (dg_lt_pow b10 b))
theorem up_len10 {m p L:Nat} (hm:(dg 10000 m).length≤L):(dg 10000 (2 ^ p * m)).length≤L + p:=dg_len_le b10 _ _ (by
 rw [Nat.pow_add,Nat.mul_comm]
 exact Nat.mul_lt_mul_of_lt_of_le (Nat.lt_of_lt_of_le (dg_lt_pow b10 m) (Nat.pow_le_pow_right (by decide) hm)) (Nat.pow_le_pow_left (by decide) _) (Nat.pow_pos (by decide)))
theorem mul_len10 {a b j k:Nat} (ha:(dg 10000 a).length≤j) (hb:(dg 10000 b).length≤k):(dg 10000 (a * b)).length≤j + k:=dg_len_le b10 _ _ (by
 rw [Nat.pow_add]
 exact Nat.mul_lt_mul'' (Nat.lt_of_lt_of_le (dg_lt_pow b10 a) (Nat.pow_le_pow_right (by decide) ha)) (Nat.lt_of_lt_of_le (dg_lt_pow b10 b) (Nat.pow_le_pow_right (by decide) hb)))
theorem add_len10 {a b K:Nat} (ha:(dg 10000 a).length≤K) (hb:(dg 10000 b).length≤K):(dg 10000 (a + b)).length≤K + 1:=dg_len_le b10 _ _ (by
 have h1:=Nat.lt_of_lt_of_le (dg_lt_pow b10 a) (Nat.pow_le_pow_right (n:=10000) (by decide) ha)
 have h2:=Nat.lt_of_lt_of_le (dg_lt_pow b10 b) (Nat.pow_le_pow_right (n:=10000) (by decide) hb)
 rw [Nat.pow_succ]
 generalize 10000 ^ K = P at *
 omega)
theorem upN_down {n:Nat} {e:Int} (h:e≤0):upN n e + upN n e = upN n (e - 1):=by
 unfold upN
 rw [show (-(e - 1)).toNat = (-e).toNat + 1 by omega,Nat.pow_succ,Nat.mul_comm _ 2,Nat.mul_assoc]
 omega
theorem upD_up {n:Nat} {e:Int} (h:0≤e):upD n e + upD n e = upD n (e + 1):=by
 unfold upD
 rw [show (e + 1).toNat = e.toNat + 1 by omega,Nat.pow_succ,Nat.mul_comm _ 2,Nat.mul_assoc]
 omega
theorem upD_neg {n:Nat} {e:Int} (h:e≤0):upD n e = n:=by
 unfold upD
 rw [show e.toNat = 0 by omega,Nat.pow_zero,Nat.one_mul]
theorem upN_nn {n:Nat} {e:Int} (h:0≤e):upN n e = n:=by
 unfold upN
 rw [show (-e).toNat = 0 by omega,Nat.pow_zero,Nat.one_mul]
theorem near_fin (N D:Nat):near N D = finE (sc N D (ex N D)) (ex N D):=rfl
theorem pow_bits64 {i:Nat} (h:i < 54):IntKind.u64.wrap (1 * 2 ^ (min (Int.toNat (IntKind.u64.wrap (i:Int))) IntKind.u64.bits)) = ((2 ^ i:Nat):Int):=by
 rw [show IntKind.u64.wrap (i:Int) = (i:Int) by rw [IntKind.wrap_u64]; omega]
 have h1:min (Int.toNat (i:Int)) IntKind.u64.bits = i:=Nat.min_eq_left (by show i≤64; omega)
 have h2:2 ^ i < 2 ^ 54:=Nat.pow_lt_pow_right (by decide) h
 rw [h1,Int.one_mul,show (2:Int) ^ i = ((2 ^ i:Nat):Int) by rw [Int.natCast_pow]; rfl,IntKind.wrap_u64]
 generalize 2 ^ i = p at *
 omega
theorem pow53 {i:Nat} (h:i < 54):2 ^ i < 18446744073709551616:=Nat.lt_trans (Nat.pow_lt_pow_right (by decide) h) (show 2 ^ 54 < 18446744073709551616 by decide)
theorem bit_yes {A D q r i:Nat} (h1:A = D * q + r) (h2:r < D * 2 ^ (i + 1)) (h3:D * 2 ^ i≤r):A = D * (q + 2 ^ i) + (r - D * 2 ^ i)∧r - D * 2 ^ i < D * 2 ^ i:=by
 rw [Nat.pow_succ,← Nat.mul_assoc] at h2
 rw [Nat.mul_add]
 generalize D * 2 ^ i = p at *
 omega
theorem bits_fin2 {q : Nat} {e : Int} (he : -1074 ≤ e) (h : e ≤ 971) (h1 : 4503599627370496 ≤ q) (h2 : q < 9007199254740992) :
  IntKind.u64.wrap (IntKind.u64.wrap (IntKind.u64.wrap (e + 1074) * 2 ^ (min (Int.toNat 52) IntKind.u64.bits)) + q) = (((e + 1075).toNat * 4503599627370496 + (q - 4503599627370496):Nat):Int):=by
 obtain ⟨k,hk⟩:∃ k:Nat,e + 1074 = k:=⟨(e + 1074).toNat,by omega⟩
 have hp:(2:Int) ^ (min (Int.toNat 52) IntKind.u64.bits) = 4503599627370496:=rfl
 rw [show e + 1075 = (k:Int) + 1 by omega,hk,hp]
 rw [show ((k:Int) + 1).toNat = k + 1 by omega]
 simp only [IntKind.wrap_u64]
 omega
section
variable [G:Globs]
theorem w_nearest (N D:Nat) (hN:0 < N) (hD:0 < D) (hNl:(dg 10000 N).length≤100000) (hDl:(dg 10000 D).length≤100000) (hNb:bl N≤2000000):VCs Tryd.prog Γ 91 [0,1,4,5,6,7,8,9,19,30,37,49,73,77,81,83] (Tryd.f190.body.getD .skip) (postK Γ [.tmp 4] (fun v=>v = .i .u64 (near N D:Nat))) ⟨argSlots 0 [.rd .int (dg 10000 N),.rd .int (dg 10000 D)],[]⟩:=by
 obtain ⟨c52,h52⟩:∃ c:Nat,c = 4503599627370496:=⟨_,rfl⟩
 obtain ⟨c53,h53⟩:∃ c:Nat,c = 9007199254740992:=⟨_,rfl⟩
 have q52:PSpec Tryd.prog 133 [.i .u64 4503599627370496] (.rd .int (dg 10000 c52)):=by subst h52; exact s_small _ (by decide)
 have q53:PSpec Tryd.prog 133 [.i .u64 9007199254740992] (.rd .int (dg 10000 c53)):=by subst h53; exact s_small _ (by decide)
 have l52:(dg 10000 c52).length≤5:=dg_len_le b10 _ _ (by subst h52; decide)
 have l53:(dg 10000 c53).length≤5:=dg_len_le b10 _ _ (by subst h53; decide)
 refine VCs.seq (by first | exact Γ_good | exact Ctx.good_kp Γ_good _) ?_
 refine VCs.seq (by first | exact Γ_good | exact Ctx.good_kp Γ_good _) ?_
 refine VCs.cut (by first | exact Γ_good | exact Ctx.good_kp Γ_good _) Int (fun e=>-1074≤e∧e≤0∧(e < 0→upN N e < upD D e * c53)∧(e = -1074∨upD D e * c52≤upN N e)) (fun e=>⟨[(0,.rd .int (dg 10000 (upN N e))),(1,.rd .int (dg 10000 D)),(5,.i .i64 e)],[]⟩) ?_ ?_
 ·refine eX [] (eX [] (eX [] (eX Int (eX (fun e=>-1074≤e∧e≤0∧(e < 0→upN N e < upD D e * c53)) (eX (fun e=>⟨[(0,.rd .int (dg 10000 (upN N e))),(1,.rd .int (dg 10000 D)),(5,.i .i64 e)],[]⟩) (eX (fun e=>(e + 1074).toNat) (eX 0 (aN ⟨by decide,by decide,fun h=>absurd h (by decide)⟩ (aN ?_ ?_)))))))))
  ·(repeat' (first | exact trivial | exact Or.inl rfl | exact Or.inl ((congrArg (fun n=>AV.rd .int (dg 10000 n)) (upN_nn (n:=N) (Int.le_refl 0)).symm)) | refine aN ?_ ?_))
  rintro e ⟨i1,i2,i3⟩
  have hnl:(dg 10000 (upN N e)).length≤101074:=Nat.le_trans (up_len10 hNl) (by omega)
  have qb:=s_By (dg 10000 D) (dg 10000 c52) (dg_Dg b10 _) (dg_Dg b10 _) (by omega) (by omega)
  have qa:=s_against (dg 10000 (upN N e)) (dg 10000 (D * c52)) (dg_Dg b10 _) (dg_Dg b10 _) (by omega) (by have:=mul_len10 hDl l52; omega)
  have qp:=s_plus (dg 10000 (upN N e)) (dg 10000 (upN N e)) (dg_Dg b10 _) (dg_Dg b10 _) (by omega) (by omega)
  rw [vl_dg b10,vl_dg b10] at qb qa
  rw [vl_dg b10,upN_down i2] at qp
  have hdn:=upD_neg (n:=D) i2
  have hdn1:=upD_neg (n:=D) (e:=e - 1) (by omega)
  have hnd:=upN_down (n:=N) i2
  have hle:=cmpN_lt (m:=upN N e) (n:=D * c52)
  have hnl:=cmpN_nlt (m:=upN N e) (n:=D * c52)
  have hp53:D * c53 = 2 * (D * c52):=by subst h52 h53; omega
  refine Or.inl (eX _ (aN (q52) ?_))
  refine Or.inl (eX _ (aN (qb) ?_))
  refine Or.inl (eX _ (aN (qa) ?_))
  refine aN (fun hc=>?_) (fun hc=>?_)
  ·have hc:=hle (of_decide_eq_true hc)
   by_cases he:e = -1074
   ·refine aN (fun h9=>absurd (of_decide_eq_true h9) (by omega)) (fun _=>?_)
    refine eX e (aN ⟨i1,i2,i3,.inl he⟩ ?_)
    (repeat' (first | exact trivial | exact Or.inl rfl | exact Or.inr (Or.inl ⟨rfl,_,rfl⟩) | exact Or.inr (Or.inr (Or.inr ⟨_,_,_,rfl,rfl⟩)) | refine aN ?_ ?_))
   ·refine aN (fun _=>?_) (fun h9=>absurd (show -1074 < e by omega) (of_decide_eq_false h9))
    refine Or.inl (eX _ (aN (qp) ?_))
    (repeat' (first | (refine aN (fun h=>?_) (fun h=>?_)<;>(try simp [-List.getD_eq_getElem?_getD,-Int.pred_toNat] at h)<;>(try (exfalso; first | omega | contradiction))) | (refine rNG ?_) | (refine bN2 ?_) | (refine bN3 ?_) | (intro _)))
    refine eX [] (eX (e - 1) (aN ⟨by omega,by omega,fun _=>by rw [hdn1,← hnd,hp53]; omega⟩ (aN ?_ ?_)))
    ·(repeat' (first | exact trivial | exact Or.inl rfl | exact Or.inr (Or.inl ⟨rfl,_,rfl⟩) | exact Or.inr (Or.inr (Or.inr ⟨_,_,_,rfl,rfl⟩)) | refine aN ?_ ?_))
    ·show (e - 1 + 1074).toNat < (e + 1074).toNat
     omega
  ·have hc:=hnl (of_decide_eq_false hc)
   refine aN (fun h9=>absurd h9 (by decide)) (fun _=>?_)
   refine eX e (aN ⟨i1,i2,i3,.inr (by rw [hdn]; exact hc)⟩ ?_)
   (repeat' (first | exact trivial | exact Or.inl rfl | exact Or.inr (Or.inl ⟨rfl,_,rfl⟩) | exact Or.inr (Or.inr (Or.inr ⟨_,_,_,rfl,rfl⟩)) | refine aN ?_ ?_))
 rintro e ⟨i1,i2,i3,i4⟩
 refine VCs.cut (by first | exact Γ_good | exact Ctx.good_kp Γ_good _) Int (fun e=>IsE N D e∧(dg 10000 (upD D e)).length≤100000∧(dg 10000 (upN N e)).length≤101074∧e≤2000000) (fun e=>⟨[(0,.rd .int (dg 10000 (upN N e))),(1,.rd .int (dg 10000 (upD D e))),(5,.i .i64 e)],[]⟩) ?_ ?_
 ·have hbl:=bl_lt N
  refine eX [] (eX [] (eX [] (eX Int (eX (fun e=>-1074≤e∧(e≤0∨e≤bl N)∧(e < 0→upN N e < upD D e * c53)∧(e = -1074∨upD D e * c52≤upN N e)) (eX (fun e=>⟨[(0,.rd .int (dg 10000 (upN N e))),(1,.rd .int (dg 10000 (upD D e))),(5,.i .i64 e)],[]⟩) (eX (fun e=>((bl N:Int) + 1 - e).toNat) (eX e (aN ⟨i1,.inl i2,i3,i4⟩ (aN ?_ ?_)))))))))
  ·(repeat' (first | exact trivial | exact Or.inl rfl | exact Or.inl ((congrArg (fun n=>AV.rd .int (dg 10000 n)) (upD_neg (n:=D) i2).symm)) | refine aN ?_ ?_))
  clear i1 i2 i3 i4
  rintro e ⟨i1,i2,i3,i4⟩
  have hnl:(dg 10000 (upN N e)).length≤101074:=Nat.le_trans (up_len10 hNl) (by omega)
  have hdl:(dg 10000 (upD D e)).length≤100000:=by
   by_cases he:e≤0
   ·rw [upD_neg he]; exact hDl
   ·have h1 : upD D e * c52 ≤ upN N e := by
     rcases i4 with h | h
     ·omega
     ·exact h
    rw [upN_nn (by omega)] at h1
    have h2:=Nat.mul_le_mul_left (upD D e) (show 1≤c52 by omega)
    exact Nat.le_trans (dg_mono (by omega)) hNl
  have qb:=s_By (dg 10000 (upD D e)) (dg 10000 c53) (dg_Dg b10 _) (dg_Dg b10 _) (by omega) (by omega)
  have qa:=s_against (dg 10000 (upN N e)) (dg 10000 (upD D e * c53)) (dg_Dg b10 _) (dg_Dg b10 _) (by omega) (by have:=mul_len10 hdl l53; omega)
  have qp:=s_plus (dg 10000 (upD D e)) (dg 10000 (upD D e)) (dg_Dg b10 _) (dg_Dg b10 _) (by omega) (by omega)
  rw [vl_dg b10,vl_dg b10] at qb qa
  rw [vl_dg b10] at qp
  have hle:=cmpN_lt (m:=upN N e) (n:=upD D e * c53)
  have hge:=cmpN_nlt (m:=upN N e) (n:=upD D e * c53)
  refine Or.inl (eX _ (aN (q53) ?_))
  refine Or.inl (eX _ (aN (qb) ?_))
  refine Or.inl (eX _ (aN (qa) ?_))
  refine aN (fun hc=>?_) (fun hc=>?_)
  ·have hc:=hge (Int.not_lt.2 (of_decide_eq_true hc))
   have he:0≤e:=by
    rcases Int.lt_or_le e 0 with h | h
    ·have:=i3 h; omega
    ·exact h
   have hu:=upD_up (n:=D) he
   rw [hu] at qp
   have hn:=upN_nn (n:=N) he
   have hn1:=upN_nn (n:=N) (e:=e + 1) (by omega)
   have hb:e < bl N:=by
    have h1:2 ^ e.toNat * 1≤upD D e:=Nat.mul_le_mul_left _ hD
    have h2:=Nat.mul_le_mul_left (upD D e) (show 1≤c53 by omega)
    have h3:2 ^ e.toNat < 2 ^ bl N:=by omega
    have:=(Nat.pow_lt_pow_iff_right (a:=2) (by decide)).1 h3
    omega
   have hp53:upD D e * c53 = 2 * (upD D e * c52):=by subst h52 h53; omega
   refine Or.inl (eX _ (aN (qp) ?_))
   (repeat' (first | (refine aN (fun h=>?_) (fun h=>?_)<;>(try simp [-List.getD_eq_getElem?_getD,-Int.pred_toNat] at h)<;>(try (exfalso; first | omega | contradiction))) | (refine rNG ?_) | (refine bN2 ?_) | (refine bN3 ?_) | (intro _)))
   refine eX [] (eX (e + 1) (aN ⟨by omega,.inr (by omega),fun h=>by omega,.inr (by rw [hn1,← hn,← hu,Nat.add_mul]; omega)⟩ (aN ?_ ?_)))
   ·(repeat' (first | exact trivial | exact Or.inl rfl | exact Or.inl ((congrArg (fun n=>AV.rd .int (dg 10000 n)) (hn.trans hn1.symm))) | refine aN ?_ ?_))
   ·show ((bl N:Int) + 1 - (e + 1)).toNat < ((bl N:Int) + 1 - e).toNat
    omega
  ·have hc:=hle (Int.not_le.1 (of_decide_eq_false hc))
   refine eX e (aN ⟨⟨i1,by subst h53; exact hc,by subst h52; exact i4⟩,hdl,hnl,by omega⟩ ?_)
   (repeat' (first | exact trivial | exact Or.inl rfl | exact Or.inr (Or.inl ⟨rfl,_,rfl⟩) | exact Or.inr (Or.inr (Or.inr ⟨_,_,_,rfl,rfl⟩)) | refine aN ?_ ?_))
 rintro e ⟨hE,hdl,hnl,hub⟩
 have hex:=(ex_is hN hD).uniq hD hE
 have hD0:=upD_pos hD e
 obtain ⟨z1,z2,_⟩:=hE
 rw [near_fin,hex]
 unfold sc
 clear hex i1 i2 i3 i4
 generalize upD D e = B at *
 generalize upN N e = A at *
 refine VCs.seq (by first | exact Γ_good | exact Ctx.good_kp Γ_good _) ?_
 refine VCs.cut (by first | exact Γ_good | exact Ctx.good_kp Γ_good _) Unit (fun _=>True) (fun _=>⟨[(0,.rd .int (dg 10000 (A % B))),(1,.rd .int (dg 10000 B)),(5,.i .i64 e),(6,.i .u64 (A / B:Nat))],[]⟩) ?_ ?_
 ·refine eX [] (eX [] (eX [] (eX (Int × Nat × Nat) (eX (fun x=>-1≤x.1∧x.1≤53∧A = B * x.2.2 + x.2.1∧x.2.1 < B * 2 ^ (x.1 + 1).toNat) (eX (fun ⟨i,r,q⟩=>⟨[(0,.rd .int (dg 10000 r)),(1,.rd .int (dg 10000 B)),(5,.i .i64 e),(6,.i .u64 q),(7,.i .i64 i)],[]⟩) (eX (fun x=>(x.1 + 1).toNat) (eX (53,A,0) (aN ⟨by dsimp only; decide,by dsimp only; decide,by dsimp only; rw [Nat.mul_zero,Nat.zero_add],by dsimp only; rw [show ((53:Int) + 1).toNat = 54 from rfl]; exact Nat.lt_of_lt_of_le z2 (Nat.mul_le_mul_left B (by decide))⟩ (aN ?_ ?_)))))))))
  ·(repeat' (first | exact trivial | exact Or.inl rfl | exact Or.inr (Or.inl ⟨rfl,_,rfl⟩) | exact Or.inr (Or.inr (Or.inr ⟨_,_,_,rfl,rfl⟩)) | refine aN ?_ ?_))
  rintro ⟨i,r,q⟩ ⟨i1,i2,i3,i4⟩
  dsimp only at i1 i2 i3 i4
  refine aN (fun hc=>?_) (fun hc=>?_)
  ·obtain ⟨k,rfl⟩:=nn_of hc
   rw [show ((k:Int) + 1).toNat = k + 1 by omega] at i4
   have hk:k < 54:=by omega
   have qs:=s_small (2 ^ k) (pow53 hk)
   rw [← pow_bits64 hk] at qs
   have lk:(dg 10000 (2 ^ k)).length≤54:=by have:=up_len10 (m:=1) (p:=k) (L:=1) (dg_len_le b10 _ _ (by decide)); rw [Nat.mul_one] at this; omega
   have qb:=s_By (dg 10000 B) (dg 10000 (2 ^ k)) (dg_Dg b10 _) (dg_Dg b10 _) (by omega) (by omega)
   have hrl:(dg 10000 r).length≤101074:=Nat.le_trans (dg_mono (by omega)) hnl
   have qa:=s_against (dg 10000 r) (dg 10000 (B * 2 ^ k)) (dg_Dg b10 _) (dg_Dg b10 _) (by omega) (by have:=mul_len10 hdl lk; omega)
   rw [vl_dg b10,vl_dg b10] at qb qa
   have hle:=cmpN_lt (m:=r) (n:=B * 2 ^ k)
   have hge:=cmpN_nlt (m:=r) (n:=B * 2 ^ k)
   refine aN (by rw [IntKind.wrap_u64]; omega) ?_
   refine Or.inl (eX _ (aN (qs) ?_))
   refine Or.inl (eX _ (aN (qb) ?_))
   refine Or.inl (eX _ (aN (qa) ?_))
   refine aN (fun hd=>?_) (fun hd=>?_)
   ·have hd:=hge (Int.not_lt.2 (of_decide_eq_true hd))
    have qm:=s_minus (dg 10000 r) (dg 10000 (B * 2 ^ k)) (dg_Dg b10 _) (dg_Dg b10 _) (by omega) (by rw [vl_dg b10,vl_dg b10]; exact hd)
    rw [vl_dg b10,vl_dg b10] at qm
    obtain ⟨y1,y2⟩:=bit_yes i3 i4 hd
    have hqk:q + 2 ^ k < 9007199254740992:=by
     refine Nat.lt_of_mul_lt_mul_left (a:=B) (Nat.lt_of_le_of_lt ?_ z2)
     rw [y1]; exact Nat.le_add_right _ _
    have e10:IntKind.u64.wrap ((q:Int) + IntKind.u64.wrap (1 * 2 ^ (min (Int.toNat (IntKind.u64.wrap (k:Int))) IntKind.u64.bits))) = ((q + 2 ^ k:Nat):Int):=by
     rw [pow_bits64 hk,IntKind.wrap_u64]
     generalize 2 ^ k = p at *
     omega
    refine Or.inl (eX _ (aN (qm) ?_))
    refine aN (by rw [IntKind.wrap_u64]; omega) ?_
    (repeat' (first | (refine aN (fun h=>?_) (fun h=>?_)<;>(try simp [-List.getD_eq_getElem?_getD,-Int.pred_toNat] at h)<;>(try (exfalso; first | omega | contradiction))) | (refine rNG ?_) | (refine bN2 ?_) | (refine bN3 ?_) | (intro _)))
    refine eX [] (eX ((k:Int) - 1,r - B * 2 ^ k,q + 2 ^ k) (aN ⟨by dsimp only; omega,by dsimp only; omega,y1,by dsimp only; rw [show ((k:Int) - 1 + 1).toNat = k by omega]; exact y2⟩ (aN ?_ ?_)))
    ·(repeat' (first | exact trivial | exact Or.inl rfl | exact Or.inl ((congrArg (AV.i .u64) e10)) | refine aN ?_ ?_))
    ·show ((k:Int) - 1 + 1).toNat < ((k:Int) + 1).toNat
     omega
   ·have hd:=hle (Int.not_le.1 (of_decide_eq_false hd))
    (repeat' (first | (refine aN (fun h=>?_) (fun h=>?_)<;>(try simp [-List.getD_eq_getElem?_getD,-Int.pred_toNat] at h)<;>(try (exfalso; first | omega | contradiction))) | (refine rNG ?_) | (refine bN2 ?_) | (refine bN3 ?_) | (intro _)))
    refine eX [] (eX ((k:Int) - 1,r,q) (aN ⟨by dsimp only; omega,by dsimp only; omega,i3,by dsimp only; rw [show ((k:Int) - 1 + 1).toNat = k by omega]; exact hd⟩ (aN ?_ ?_)))
    ·(repeat' (first | exact trivial | exact Or.inl rfl | exact Or.inr (Or.inl ⟨rfl,_,rfl⟩) | exact Or.inr (Or.inr (Or.inr ⟨_,_,_,rfl,rfl⟩)) | refine aN ?_ ?_))
    ·show ((k:Int) - 1 + 1).toNat < ((k:Int) + 1).toNat
     omega
  · have hj : i = -1 := by have : ¬ 0 ≤ i := of_decide_eq_false hc
                           omega
    subst hj
    rw [show ((-1:Int) + 1).toNat = 0 from rfl,Nat.pow_zero,Nat.mul_one] at i4
    have hdq:A / B = q:=by rw [i3,Nat.mul_add_div hD0,Nat.div_eq_of_lt i4,Nat.add_zero]
    have hdr:A % B = r:=by rw [i3,Nat.mul_add_mod,Nat.mod_eq_of_lt i4]
    rw [hdq,hdr]
    refine eX () (aN trivial ?_)
    (repeat' (first | exact trivial | exact Or.inl rfl | exact Or.inr (Or.inl ⟨rfl,_,rfl⟩) | exact Or.inr (Or.inr (Or.inr ⟨_,_,_,rfl,rfl⟩)) | refine aN ?_ ?_))
 rintro ⟨⟩ _
 have hR:=Nat.mod_lt A hD0
 have hq:=div_lt_of hD0 z2
 have hRl:(dg 10000 (A % B)).length≤100000:=Nat.le_trans (dg_mono (Nat.le_of_lt hR)) hdl
 have qa:=s_plus (dg 10000 (A % B)) (dg 10000 (A % B)) (dg_Dg b10 _) (dg_Dg b10 _) (by omega) (by omega)
 rw [vl_dg b10] at qa
 have hSl:=add_len10 hRl hRl
 have qc:=s_against (dg 10000 (A % B + A % B)) (dg 10000 B) (dg_Dg b10 _) (dg_Dg b10 _) (by omega) (by omega)
 rw [vl_dg b10,vl_dg b10] at qc
 have hrhe:rhe A B = if B < 2 * (A % B)∨(2 * (A % B) = B∧A / B % 2 = 1) then A / B + 1 else A / B:=rfl
 generalize rhe A B = T at *
 generalize A / B = Q at *
 generalize A % B = R at *
 refine VCs.cut (by first | exact Γ_good | exact Ctx.good_kp Γ_good _) Unit (fun _=>True) (fun _=>⟨[(5,.i .i64 e),(6,.i .u64 T)],[]⟩) ?_ ?_
 ·have ei:=inc64 (q:=Q) (by omega)
  refine Or.inl (eX _ (aN (qa) ?_))
  refine Or.inl (eX _ (aN (qc) ?_))
  rcases Nat.lt_trichotomy (R + R) B with h | h | h
  ·have hc:cmpN (R + R) B = -1:=by unfold cmpN; rw [if_pos h]
   rw [hc]
   rw [if_neg (by omega)] at hrhe
   (focus (refine aN ?_ (fun h9=>?_); rotate_left 1; (focus (exfalso; revert h9; first | decide | (simp<;>omega) | (intro h9; simp at h9<;>omega))); refine fun _=>?_))
   (focus (refine aN (fun h9=>?_) ?_; (focus (exfalso; revert h9; first | decide | (simp<;>omega) | (intro h9; simp at h9<;>omega))); refine fun _=>?_))
   (focus (refine aN (fun h9=>?_) ?_; (focus (exfalso; revert h9; first | decide | (simp<;>omega) | (intro h9; simp at h9<;>omega))); refine fun _=>?_))
   rw [hrhe]
   refine eX () (aN trivial ?_)
   (repeat' (first | exact trivial | exact Or.inl rfl | exact Or.inr (Or.inl ⟨rfl,_,rfl⟩) | exact Or.inr (Or.inr (Or.inr ⟨_,_,_,rfl,rfl⟩)) | refine aN ?_ ?_))
  ·have hc:cmpN (R + R) B = 0:=by unfold cmpN; rw [if_neg (by omega),if_neg (by omega)]
   rw [hc]
   (focus (refine aN ?_ (fun h9=>?_); rotate_left 1; (focus (exfalso; revert h9; first | decide | (simp<;>omega) | (intro h9; simp at h9<;>omega))); refine fun _=>?_))
   (focus (refine aN ?_ (fun h9=>?_); rotate_left 1; (focus (exfalso; revert h9; first | decide | (simp<;>omega) | (intro h9; simp at h9<;>omega))); refine fun _=>?_))
   refine aN (by decide) ?_
   refine aN (fun hc=>?_) (fun hc=>?_)
   ·have hc:((Q:Int).tmod 2 == 1) = true:=hc
    rw [tmod2] at hc
    have hc:=eq_of_beq hc
    rw [if_pos (by omega)] at hrhe
    rw [hrhe]
    refine eX () (aN trivial ?_)
    (repeat' (first | exact trivial | exact Or.inl rfl | exact Or.inl ((congrArg (AV.i .u64) ei)) | refine aN ?_ ?_))
   ·have hc:((Q:Int).tmod 2 == 1) = false:=hc
    rw [tmod2] at hc
    have hc:=ne_of_beq_false hc
    rw [if_neg (by omega)] at hrhe
    rw [hrhe]
    refine eX () (aN trivial ?_)
    (repeat' (first | exact trivial | exact Or.inl rfl | exact Or.inr (Or.inl ⟨rfl,_,rfl⟩) | exact Or.inr (Or.inr (Or.inr ⟨_,_,_,rfl,rfl⟩)) | refine aN ?_ ?_))
  ·have hc:cmpN (R + R) B = 1:=by unfold cmpN; rw [if_neg (by omega),if_pos h]
   rw [hc]
   rw [if_pos (by omega)] at hrhe
   (focus (refine aN (fun h9=>?_) ?_; (focus (exfalso; revert h9; first | decide | (simp<;>omega) | (intro h9; simp at h9<;>omega))); refine fun _=>?_))
   (focus (refine aN ?_ (fun h9=>?_); rotate_left 1; (focus (exfalso; revert h9; first | decide | (simp<;>omega) | (intro h9; simp at h9<;>omega))); refine fun _=>?_))
   rw [hrhe]
   refine eX () (aN trivial ?_)
   (repeat' (first | exact trivial | exact Or.inl rfl | exact Or.inl ((congrArg (AV.i .u64) ei)) | refine aN ?_ ?_))
 rintro ⟨⟩ _
 have hT:T≤9007199254740992:=by
  rw [hrhe]
  split<;>omega
 refine VCs.cut (by first | exact Γ_good | exact Ctx.good_kp Γ_good _) (Nat × Int) (fun x=>x.1 < 9007199254740992∧-1074≤x.2∧finE T e = bitsE x.1 x.2) (fun ⟨q,e⟩=>⟨[(5,.i .i64 e),(6,.i .u64 q)],[]⟩) ?_ ?_
 ·by_cases h:T = 9007199254740992
  ·have hf:finE T e = bitsE 4503599627370496 (e + 1):=by rw [finE,if_pos h]
   refine aN (fun _=>?_) (fun h9=>absurd (show (T:Int) = 9007199254740992 by omega) (ne_of_beq_false h9))
   (refine rNG ?_)
   refine eX (4503599627370496,e + 1) (aN ⟨by dsimp only; decide,by dsimp only; omega,hf⟩ ?_)
   (repeat' (first | exact trivial | exact Or.inl rfl | exact Or.inr (Or.inl ⟨rfl,_,rfl⟩) | exact Or.inr (Or.inr (Or.inr ⟨_,_,_,rfl,rfl⟩)) | refine aN ?_ ?_))
  ·refine aN (fun h9=>absurd (eq_of_beq h9) (show ¬ (T:Int) = 9007199254740992 by omega)) (fun _=>?_)
   refine eX (T,e) (aN ⟨by dsimp only; omega,z1,by rw [finE,if_neg h]⟩ ?_)
   (repeat' (first | exact trivial | exact Or.inl rfl | exact Or.inr (Or.inl ⟨rfl,_,rfl⟩) | exact Or.inr (Or.inr (Or.inr ⟨_,_,_,rfl,rfl⟩)) | refine aN ?_ ?_))
 rintro ⟨q,e'⟩ ⟨g1,g2,g3⟩
 dsimp only at g1 g2 g3
 rw [g3]
 refine VCs.of_vc (by first | exact Γ_good | exact Ctx.good_kp Γ_good _) ?_
 refine aN (fun hd=>?_) (fun hd=>?_)
 ·rw [bitsE,if_pos (of_decide_eq_true hd)]
  rfl
 have hd:¬ 971 < e':=of_decide_eq_false hd
 rw [bitsE,if_neg hd]
 refine aN (fun hf=>?_) (fun hf=>?_)
 ·have hf:(q:Int) < 4503599627370496:=of_decide_eq_true hf
  have hf:q < 4503599627370496:=by omega
  rw [if_pos hf]
  rfl
 have hf:¬ (q:Int) < 4503599627370496:=of_decide_eq_false hf
 have hf:¬ q < 4503599627370496:=by omega
 rw [if_neg hf]
 (repeat' (first | (refine aN (fun h=>?_) (fun h=>?_)<;>(try simp [-List.getD_eq_getElem?_getD,-Int.pred_toNat] at h)<;>(try (exfalso; first | omega | contradiction))) | (refine rNG ?_) | (refine bN2 ?_) | (refine bN3 ?_) | (intro _)))
 refine aN (by decide) ?_
 exact congrArg (AV.i .u64) (bits_fin2 (by omega) (by omega) (by omega) g1)
theorem s_nearest (N D:Nat) (hN:0 < N) (hD:0 < D) (hNl:(dg 10000 N).length≤100000) (hDl:(dg 10000 D).length≤100000) (hNb:bl N≤2000000):PSpec Tryd.prog 190 [.rd .int (dg 10000 N),.rd .int (dg 10000 D)] (.i .u64 (near N D:Nat)) :=
 pspec_of_VCs Γ_good Tryd.func190 rfl Tryd.call190 Tryd.results190 Tryd.ntmps190 (Nat.le_of_ble_eq_true rfl) (w_nearest N D hN hD hNl hDl hNb) Γ_good
end
end Go.Proofs.YtdcdmojbkmedpaaDoor
end
section
namespace Go.Proofs.YtdcdmojbkmedpaaDoor
open Go Go.SX Go.Bg Go.Fl
set_option maxRecDepth 100000
set_option maxHeartbeats 4000000
theorem ten_len (k:Nat):(dg 10000 (10 ^ k)).length≤k + 1:=dg_len_le b10 _ _ (Nat.lt_of_lt_of_le (Nat.pow_lt_pow_right (by decide) (Nat.lt_succ_self k)) (Nat.pow_le_pow_left (by decide) _))
theorem len10_bl {n K:Nat} (h:(dg 10000 n).length≤K):bl n≤14 * K:=by
 rcases Nat.eq_zero_or_pos n with h0 | h0
 ·subst h0; exact Nat.zero_le _
 ·have h1:=Nat.lt_of_lt_of_le (dg_lt_pow b10 n) (Nat.pow_le_pow_right (n:=10000) (by decide) h)
  have h2:10000 ^ K≤2 ^ (14 * K):=by rw [Nat.pow_mul]; exact Nat.pow_le_pow_left (by decide) _
  obtain ⟨k,k1,k2,_⟩:=bl_bounds h0
  have:=(Nat.pow_lt_pow_iff_right (a:=2) (by decide)).1 (Nat.lt_of_le_of_lt k2 (Nat.lt_of_lt_of_le h1 h2))
  omega
section
variable [G:Globs]
theorem w_nearestOf (m:Nat) (e:Int) (hm:(dg 10000 m).length≤2000) (h1 : -1000≤e) (h2:e≤1000):vc Tryd.prog Γ 21 [0,1,4,7,9] (Tryd.f117.body.getD .skip) (postK Γ [.tmp 4] (fun v=>v = .i .u64 (nearF m e:Nat))) ⟨argSlots 0 [.rd .int (dg 10000 m),.i .i64 e],[]⟩:=by
 intro _
 by_cases hz:m = 0
 ·subst hz
  rw [show dg 10000 0 = [] from (dg_nil_iff b10 0).2 rfl]
  (focus (refine aN ?_ (fun h9=>?_); rotate_left 1; (focus (exfalso; revert h9; first | decide | (simp<;>omega) | (intro h9; simp at h9<;>omega))); refine fun _=>?_))
  rfl
 have hm0:0 < m:=by omega
 have hnz:(dg 10000 m).length≠0:=fun h=>hz ((dg_nil_iff b10 m).1 (List.eq_nil_of_length_eq_zero h))
 refine aN (fun h9=>absurd (eq_of_beq h9) (by omega)) (fun _=>?_)
 rw [nearF,if_neg hz]
 by_cases h:e < 0
 ·obtain ⟨p,rfl⟩:∃ p:Nat,e = -(p:Int):=⟨(-e).toNat,by omega⟩
  have hl:=ten_len p
  have qp:=s_power 10 p (by decide) (by omega) (fun k hk=>by have:=ten_len k; omega)
  have hneg:(0:Int) - -(p:Int) = (p:Int):=by omega
  rw [← hneg] at qp
  have qn:=s_nearest m (10 ^ p) hm0 (Nat.pow_pos (by decide)) (by omega) (by omega) (by have:=len10_bl hm; omega)
  rw [ratN,ratD,if_pos h,if_pos h,show (- -(p:Int)).toNat = p by omega]
  (repeat' (first | (refine aN (fun h=>?_) (fun h=>?_)<;>(try simp [-List.getD_eq_getElem?_getD,-Int.pred_toNat] at h)<;>(try (exfalso; first | omega | contradiction))) | (refine rNG ?_) | (refine bN2 ?_) | (refine bN3 ?_) | (intro _)))
  refine Or.inl (aN (rng64 (by omega) (by omega)) ?_)
  refine Or.inl (eX _ (aN (qp) ?_))
  refine Or.inl (eX _ (aN (qn) ?_))
  rfl
 ·obtain ⟨p,rfl⟩:∃ p:Nat,e = (p:Int):=⟨e.toNat,by omega⟩
  have hl:=ten_len p
  have qp:=s_power 10 p (by decide) (by omega) (fun k hk=>by have:=ten_len k; omega)
  have qb:=s_By (dg 10000 m) (dg 10000 (10 ^ p)) (dg_Dg b10 _) (dg_Dg b10 _) (by omega) (by omega)
  rw [vl_dg b10,vl_dg b10] at qb
  have hml:=mul_len10 hm hl
  have qn:=s_nearest (m * 10 ^ p) 1 (Nat.mul_pos hm0 (Nat.pow_pos (by decide))) (by decide) (by omega) (Nat.le_trans (dg_len_le b10 1 1 (by decide)) (by decide)) (by have:=len10_bl hml; omega)
  rw [ratN,ratD,if_neg h,if_neg h,Int.toNat_natCast]
  (repeat' (first | (refine aN (fun h=>?_) (fun h=>?_)<;>(try simp [-List.getD_eq_getElem?_getD,-Int.pred_toNat] at h)<;>(try (exfalso; first | omega | contradiction))) | (refine rNG ?_) | (refine bN2 ?_) | (refine bN3 ?_) | (intro _)))
  refine Or.inl (eX _ (aN (qp) ?_))
  refine Or.inl (eX _ (aN (qb) ?_))
  refine Or.inl (eX _ (aN (s_small 1 (by decide)) ?_))
  refine Or.inl (eX _ (aN (qn) ?_))
  rfl
theorem s_nearestOf (m:Nat) (e:Int) (hm:(dg 10000 m).length≤2000) (h1 : -1000≤e) (h2:e≤1000):PSpec Tryd.prog 117 [.rd .int (dg 10000 m),.i .i64 e] (.i .u64 (nearF m e:Nat)) :=
 pspec_of_vc Γ_good Tryd.func117 rfl Tryd.call117 Tryd.results117 Tryd.ntmps117 (Nat.le_of_ble_eq_true rfl) (w_nearestOf m e hm h1 h2)
end
end Go.Proofs.YtdcdmojbkmedpaaDoor
end
