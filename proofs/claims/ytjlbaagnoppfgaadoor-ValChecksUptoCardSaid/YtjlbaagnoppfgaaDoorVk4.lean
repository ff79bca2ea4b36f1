/-
  'typecaselaw.ValChecks' returns true, whatever the input, where what comes in is of bulk at most 1048576, and the input reads as it did. No conditions.
-/
import Derived.Test.YtjlbaagnoppfgaaDoorVk3
import Derived.Shelf.Strings.Builder1
import Derived.Shelf.Unicode.DecodeSlow
import Derived.Shelf.Unicode.DecodeAny
import Derived.Test.YtjlbaagnoppfgaaDoorProg
import Derived.IntWalk
import Derived.Lib.RuneBytes
import Derived.Deep.Slices
import Derived.Carry
import Derived.DataReads
import Derived.Laws.Bits64
import Derived.Laws.Bits64b
import Derived.Test.YtjlbaagnoppfgaaDoorRows
import Derived.WalkKit
import Derived.ProofKit
import Derived.OpenShut
import Derived.JoinedCond
import Derived.ChangeMaps5
import Derived.Test.YtjlbaagnoppfgaaDoorCards
import Derived.Test.YtjlbaagnoppfgaaDoorTie
import Derived.Deep.DeepHandedRow
import Derived.Lib.LaidU8
import Derived.PinnedBridge
set_option linter.constructorNameAsVariable false
set_option linter.unusedVariables false
set_option linter.unusedSimpArgs false
set_option linter.unusedSectionVars false
section
namespace Go.Proofs.YtjlbaagnoppfgaaDoor
set_option linter.unusedSectionVars false
set_option linter.unusedSimpArgs false
set_option linter.unusedVariables false
open Go Go.SX Go.Ck
set_option maxRecDepth 100000
set_option maxHeartbeats 1000000
section
variable [G : Globs]
theorem depth_step (y : Val) (hn : (sizV y).2 ≤ 1000000000) (hc : ∀ x ∈ partsOf y, PSpec Tryd.prog 20 [.agg (encVal x)] (.i .i64 (sizV x).1)) : PSpec Tryd.prog 20 [.agg (encVal y)] (.i .i64 (sizV y).1) := by
  have hlen := siz_len y
  have hfin := siz_pre (v := y) (l := partsOf y) (k := []) (by simp)
  refine pspec_of_cspec (cspec_of_VCf (L := [1, 2, 3, 4, 5, 6, 7, 1001, 1003]) (N := 14) Γ_good Tryd.func20 rfl Tryd.call20 Tryd.ntmps20 (Nat.le_of_ble_eq_true rfl) rfl ?_) rfl rfl
  refine VCf.seq Γ_good (by decide) ?_
  refine VCf.seq Γ_good (by decide) ?_
  refine VCf.renB 1 1001 rfl rfl ?_
  refine VCf.renB 3 1003 rfl rfl ?_
  refine VCf.range (σ := Empty) Γ_good (by decide) [(1, .pt 1001 0), (3, .pt 1003 0), (6, .fn 52 [.rp (encVal y)])] (fun pre => [(1001, encVal y), (1003, [.i .i64 (foldS pre (0, 1)).1])]) (fun _ => False) (fun _ => [(1001, encVal y), (1003, [.i .i64 0])]) [1001, 1003] (parts_it y (by omega) (by omega)) ?_ rfl rfl rfl rfl (fun _ => rfl) (fun _ => rfl) rfl rfl rfl (fun _ => True) trivial ?_ (fun y => nomatch y) ?_
  · refine Or.inl (Exists.intro _ (And.intro (s_parts y) ?_))
    refine Exists.intro [] ?_
    (repeat' (first | exact trivial | exact Or.inl rfl | exact Or.inr (Or.inl ⟨rfl, _, rfl⟩) | exact Or.inr (Or.inr (Or.inr ⟨_, _, _, rfl, rfl⟩)) | refine And.intro ?_ ?_))
  · intro pre x post hx _
    have hm : x ∈ partsOf y := by rw [hx]; simp
    refine Exists.intro [.blk [0, 1, 2, 3], .one 4] (And.intro (by kernel_rfl) ?_)
    refine Exists.intro _ (And.intro (hc x hm) ?_)
    refine And.intro trivial (Exists.intro [] ?_)
    (repeat' (first | exact trivial | exact Or.inl rfl | exact Or.inl ((congrArg (AV.i .i64) (by rw [foldS_snoc]; rfl))) | refine And.intro ?_ ?_))
  · intro _
    refine And.intro (rng64 (by omega) (by omega)) ?_
    refine Exists.intro [] (And.intro ?_ ?_)
    · rw [sizV_eq]; rfl
    · exact trivial
theorem s_Depth : ∀ (n : Nat) (y : Val), SizeOf.sizeOf y < n → (sizV y).2 ≤ 1000000000 → PSpec Tryd.prog 20 [.agg (encVal y)] (.i .i64 (sizV y).1) := by
  intro n
  induction n with
  | zero => intro y h; exact absurd h (Nat.not_lt_zero _)
  | succ n ih => intro y h hn; exact depth_step y hn fun x hx => ih x (by have := parts_sz hx; omega) (by have := (siz_parts y).2 x hx; omega)
theorem nodes_step (y : Val) (hn : (sizV y).2 ≤ 1000000000) (hc : ∀ x ∈ partsOf y, PSpec Tryd.prog 21 [.agg (encVal x)] (.i .i64 (sizV x).2)) : PSpec Tryd.prog 21 [.agg (encVal y)] (.i .i64 (sizV y).2) := by
  have hlen := siz_len y
  refine pspec_of_cspec (cspec_of_VCf (L := [1, 2, 3, 4, 5, 6, 7, 1001, 1003]) (N := 13) Γ_good Tryd.func21 rfl Tryd.call21 Tryd.ntmps21 (Nat.le_of_ble_eq_true rfl) rfl ?_) rfl rfl
  refine VCf.seq Γ_good (by decide) ?_
  refine VCf.seq Γ_good (by decide) ?_
  refine VCf.renB 1 1001 rfl rfl ?_
  refine VCf.renB 3 1003 rfl rfl ?_
  refine VCf.range (σ := Empty) Γ_good (by decide) [(1, .pt 1001 0), (3, .pt 1003 0), (6, .fn 52 [.rp (encVal y)])] (fun pre => [(1001, encVal y), (1003, [.i .i64 (foldS pre (0, 1)).2])]) (fun _ => False) (fun _ => [(1001, encVal y), (1003, [.i .i64 0])]) [1001, 1003] (parts_it y (by omega) (by omega)) ?_ rfl rfl rfl rfl (fun _ => rfl) (fun _ => rfl) rfl rfl rfl (fun _ => True) trivial ?_ (fun y => nomatch y) ?_
  · refine Or.inl (Exists.intro _ (And.intro (s_parts y) ?_))
    refine Exists.intro [] ?_
    (repeat' (first | exact trivial | exact Or.inl rfl | exact Or.inr (Or.inl ⟨rfl, _, rfl⟩) | exact Or.inr (Or.inr (Or.inr ⟨_, _, _, rfl, rfl⟩)) | refine And.intro ?_ ?_))
  · intro pre x post hx _
    have hm : x ∈ partsOf y := by rw [hx]; simp
    have h1 := siz_pre (v := y) (l := pre) (k := x :: post) hx
    have h2 := siz_pre (v := y) (l := pre ++ [x]) (k := post) (by rw [hx]; simp)
    have h3 : (foldS (pre ++ [x]) (0, 1)).2 = (foldS pre (0, 1)).2 + (sizV x).2 := by rw [foldS_snoc]; rfl
    refine Exists.intro [.blk [0, 1, 2, 3], .one 4] (And.intro (by kernel_rfl) ?_)
    refine Exists.intro _ (And.intro (hc x hm) ?_)
    refine And.intro (rng64 (by omega) (by omega)) ?_
    refine And.intro trivial (Exists.intro [] ?_)
    (repeat' (first | exact trivial | exact Or.inl rfl | exact Or.inl ((congrArg (AV.i .i64) h3.symm)) | refine And.intro ?_ ?_))
  · intro _
    refine Exists.intro [] (And.intro ?_ ?_)
    · rw [sizV_eq]; rfl
    · exact trivial
theorem s_Nodes : ∀ (n : Nat) (y : Val), SizeOf.sizeOf y < n → (sizV y).2 ≤ 1000000000 → PSpec Tryd.prog 21 [.agg (encVal y)] (.i .i64 (sizV y).2) := by
  intro n
  induction n with
  | zero => intro y h; exact absurd h (Nat.not_lt_zero _)
  | succ n ih => intro y h hn; exact nodes_step y hn fun x hx => ih x (by have := parts_sz hx; omega) (by have := (siz_parts y).2 x hx; omega)
end
end Go.Proofs.YtjlbaagnoppfgaaDoor
end
section
namespace Go.Proofs
set_option linter.unusedSectionVars false
set_option linter.unusedSimpArgs false
set_option linter.unusedVariables false
open Go.Shelf
def Tryd.lays169_ren : Go.Shelf.Ren := ⟨fun | 169 => 39 | n => n, fun | 70 => 70 | 9 => 9 | 0 => 0 | 72 => 72 | 37 => 60 | 127 => 91 | 3 => 3 | 5 => 5 | n => n, fun | n => n⟩
theorem Tryd.lays169 : Go.Proofs.Lays.n169 Tryd.prog Tryd.lays169_ren := {
  mixed := by kernel_rfl
  f169 := Tryd.func39.trans (congrArg some (by kernel_rfl))
  t0 := Tryd.underlying0
  a0 := Tryd.isAgg0
  z0 := Tryd.sizeOf0
  v0 := Tryd.zeroValue0
  t3 := Tryd.underlying3
  a3 := Tryd.isAgg3
  z3 := Tryd.sizeOf3
  v3 := Tryd.zeroValue3
  t9 := Tryd.underlying9
  a9 := Tryd.isAgg9
  z9 := Tryd.sizeOf9
  v9 := Tryd.zeroValue9
  t37 := Tryd.underlying60
  a37 := Tryd.isAgg60
  z37 := Tryd.sizeOf60
  v37 := Tryd.zeroValue60
  t70 := Tryd.underlying70
  a70 := Tryd.isAgg70
  z70 := Tryd.sizeOf70
  v70 := Tryd.zeroValue70
  t72 := Tryd.underlying72
  a72 := Tryd.isAgg72
  z72 := Tryd.sizeOf72
  v72 := Tryd.zeroValue72
  t127 := Tryd.underlying91
  a127 := Tryd.isAgg91
  z127 := Tryd.sizeOf91
  v127 := Tryd.zeroValue91 }
theorem Tryd.Builder_Extra_169 : Builder.Extra Tryd.prog Tryd.lays169_ren := {
  sizeBuilder := by kernel_rfl
  liesBuilder := by kernel_rfl
  t5 := Tryd.underlying5
  a5 := Tryd.isAgg5
  z5 := Tryd.sizeOf5
  v5 := Tryd.zeroValue5
  infoByte := by kernel_rfl
  cellsByte := by kernel_rfl
  sizeByte := by kernel_rfl
  neB5 := by decide }
open Go.RowKit in
/-- (*strings.Builder).String: "String returns the accumulated string.": OF A BUILDER THAT HOLDS AT LEAST ONE BYTE. ✋ THE MODEL FREEZES THOSE BYTES IN THE BUFFER (unsafe.String): a later write INTO them ends the model's run without an answer; a later append BEHIND them goes on. The statement's order of evaluation is drawn: one draw. (LAID: no walk: one application.) -/
theorem Tryd.Builder_String (B b : Nat) (l : List UInt8) (w : World) (h : Lib.IsBuilder 72 5 B b (Lib.byteCells l) w) (h0 : l ≠ []) :
    Calls Tryd.prog 39 #[.pointer (some ⟨b, 0, none⟩)] w fun e w' => e = .returned (.string ⟨l.toArray⟩) ∧ Below B w w' := Any.Builder_String Tryd.lays169 Tryd.Builder_Extra_169 B b l w h h0
open Go.RowKit in
/-- (*strings.Builder).String OF A BUILDER THAT HOLDS NO BYTE: the empty string. (Its buffer is nil, or a row of which it has taken nothing yet; where that row has NO capacity the model lays one new block for unsafe.SliceData's 'some address'.) One draw. (LAID: no walk: one application.) -/
theorem Tryd.Builder_String_empty (B b : Nat) (w : World) (h : Lib.IsBuilder 72 5 B b [] w) (hBw : B ≤ w.heap.size) :
    Calls Tryd.prog 39 #[.pointer (some ⟨b, 0, none⟩)] w fun e w' => e = .returned (.string ⟨#[]⟩) ∧ Below B w w' := Any.Builder_String_empty Tryd.lays169 Tryd.Builder_Extra_169 B b w h hBw
open Go.RowKit in
/-- (*strings.Builder).String: "String returns the accumulated string.": WHATEVER THE BUILDER HOLDS. (LAID: no walk: one application.) -/
theorem Tryd.Builder_String_any (B b : Nat) (l : List UInt8) (w : World) (h : Lib.IsBuilder 72 5 B b (Lib.byteCells l) w) (hBw : B ≤ w.heap.size) :
    Calls Tryd.prog 39 #[.pointer (some ⟨b, 0, none⟩)] w fun e w' => e = .returned (.string ⟨l.toArray⟩) ∧ Below B w w' := Any.Builder_String_any Tryd.lays169 Tryd.Builder_Extra_169 B b l w h hBw
def Tryd.lays260_ren : Go.Shelf.Ren := ⟨fun | 260 => 49 | n => n, fun | 9 => 9 | 21 => 21 | 3 => 3 | 4 => 4 | 5 => 5 | 119 => 95 | 0 => 0 | 46 => 94 | 139 => 98 | 138 => 97 | n => n, fun | 3 => 0 | 4 => 1 | n => n⟩
theorem Tryd.lays260 : Go.Proofs.Lays.n260 Tryd.prog Tryd.lays260_ren := {
  mixed := by kernel_rfl
  f260 := Tryd.func49.trans (congrArg some (by kernel_rfl))
  t0 := Tryd.underlying0
  a0 := Tryd.isAgg0
  z0 := Tryd.sizeOf0
  v0 := Tryd.zeroValue0
  t3 := Tryd.underlying3
  a3 := Tryd.isAgg3
  z3 := Tryd.sizeOf3
  v3 := Tryd.zeroValue3
  t4 := Tryd.underlying4
  a4 := Tryd.isAgg4
  z4 := Tryd.sizeOf4
  v4 := Tryd.zeroValue4
  t5 := Tryd.underlying5
  a5 := Tryd.isAgg5
  z5 := Tryd.sizeOf5
  v5 := Tryd.zeroValue5
  t9 := Tryd.underlying9
  a9 := Tryd.isAgg9
  z9 := Tryd.sizeOf9
  v9 := Tryd.zeroValue9
  t21 := Tryd.underlying21
  a21 := Tryd.isAgg21
  z21 := Tryd.sizeOf21
  v21 := Tryd.zeroValue21
  t46 := Tryd.underlying94
  a46 := Tryd.isAgg94
  z46 := Tryd.sizeOf94
  v46 := Tryd.zeroValue94
  t119 := Tryd.underlying95
  a119 := Tryd.isAgg95
  z119 := Tryd.sizeOf95
  t138 := Tryd.underlying97
  a138 := Tryd.isAgg97
  z138 := Tryd.sizeOf97
  v138 := Tryd.zeroValue97
  t139 := Tryd.underlying98
  a139 := Tryd.isAgg98
  z139 := Tryd.sizeOf98
  v139 := Tryd.zeroValue98
  g3 := by kernel_rfl
  g4 := by kernel_rfl }
open Go.RowKit Go.Lib in
theorem Tryd.utf8_decodeRuneInStringSlow (s : ByteArray) (w : World) (hT : Lib.Utf8Tabs 0 1 w) :
    Calls Tryd.prog 49 #[.string s] w fun e w' => e = .returned (.tuple #[.int .i32 (Lib.decodeGo s).1, .int .i64 (Lib.decodeGo s).2]) ∧ Below w.heap.size w w' := Any.utf8_decodeRuneInStringSlow Tryd.lays260 s w hT
def Tryd.lays197_ren : Go.Shelf.Ren := ⟨fun | 197 => 33 | 260 => 49 | n => n, fun | 9 => 9 | 21 => 21 | 3 => 3 | 4 => 4 | 5 => 5 | 105 => 22 | 119 => 95 | 0 => 0 | 46 => 94 | 139 => 98 | 138 => 97 | n => n, fun | 3 => 0 | 4 => 1 | n => n⟩
theorem Tryd.lays197 : Go.Proofs.Lays.n197 Tryd.prog Tryd.lays197_ren := {
  mixed := by kernel_rfl
  f197 := Tryd.func33.trans (congrArg some (by kernel_rfl))
  f260 := Tryd.func49.trans (congrArg some (by kernel_rfl))
  t0 := Tryd.underlying0
  a0 := Tryd.isAgg0
  z0 := Tryd.sizeOf0
  v0 := Tryd.zeroValue0
  t3 := Tryd.underlying3
  a3 := Tryd.isAgg3
  z3 := Tryd.sizeOf3
  v3 := Tryd.zeroValue3
  t4 := Tryd.underlying4
  a4 := Tryd.isAgg4
  z4 := Tryd.sizeOf4
  v4 := Tryd.zeroValue4
  t5 := Tryd.underlying5
  a5 := Tryd.isAgg5
  z5 := Tryd.sizeOf5
  v5 := Tryd.zeroValue5
  t9 := Tryd.underlying9
  a9 := Tryd.isAgg9
  z9 := Tryd.sizeOf9
  v9 := Tryd.zeroValue9
  t21 := Tryd.underlying21
  a21 := Tryd.isAgg21
  z21 := Tryd.sizeOf21
  v21 := Tryd.zeroValue21
  t46 := Tryd.underlying94
  a46 := Tryd.isAgg94
  z46 := Tryd.sizeOf94
  v46 := Tryd.zeroValue94
  t105 := Tryd.underlying22
  a105 := Tryd.isAgg22
  z105 := Tryd.sizeOf22
  v105 := Tryd.zeroValue22
  t119 := Tryd.underlying95
  a119 := Tryd.isAgg95
  z119 := Tryd.sizeOf95
  t138 := Tryd.underlying97
  a138 := Tryd.isAgg97
  z138 := Tryd.sizeOf97
  v138 := Tryd.zeroValue97
  t139 := Tryd.underlying98
  a139 := Tryd.isAgg98
  z139 := Tryd.sizeOf98
  v139 := Tryd.zeroValue98
  g3 := by kernel_rfl
  g4 := by kernel_rfl }
open Go.RowKit Go.Lib in
/-- **unicode/utf8.DecodeRuneInString AT EVERY STRING.** (LAID: no walk: one application.) -/
theorem Tryd.utf8_DecodeRuneInString (s : ByteArray) (w : World) (hT : Lib.Utf8Tabs 0 1 w) :
    Calls Tryd.prog 33 #[.string s] w fun e w' => e = .returned (.tuple #[.int .i32 (Lib.decodeGo s).1, .int .i64 (Lib.decodeGo s).2]) ∧ Below w.heap.size w w' := Any.utf8_DecodeRuneInString Tryd.lays197 s w hT
end Go.Proofs
end
section
namespace Go.Proofs.YtjlbaagnoppfgaaDoor
set_option linter.unusedSectionVars false
set_option linter.unusedSimpArgs false
set_option linter.unusedVariables false
open Go Go.SX Go.Ut Go.RowKit
set_option maxRecDepth 100000
set_option maxHeartbeats 0
/-- what is said of unicode/utf8's tables: they lie in the two first variables' blocks -/
def HasU8 [G : Globs] : Prop := ∃ o0 o1 : Obj, (0, o0) ∈ G.gl ∧ (1, o1) ∈ G.gl ∧ ∀ w : World, w.heap[0]? = some o0 → w.heap[1]? = some o1 → Lib.Utf8Tabs 0 1 w
section
variable [G : Globs]
def decG (s : Str) : Nat × Nat := if s = [] then (65533, 0) else decAt s 0
theorem s_Decode (hu : HasU8) (s : Str) : PSpec Tryd.prog 33 [.s s] (.tup [.i .i32 (decG s).1, .i .i64 (decG s).2]) := by
  refine ⟨Tryd.call33, fun O w vs hO hG hargs => ?_⟩
  obtain ⟨v0, vs0, rfl, h0, h⟩ := hargs.cons_inv
  obtain rfl := h.nil_inv
  cases h0
  obtain ⟨o0, o1, m0, m1, ht⟩ := hu
  have hT := ht w (hG _ m0).2 (hG _ m1).2
  have hd : Lib.decodeGo ⟨s.toArray⟩ = decG s := by
    unfold Lib.decodeGo decG
    have hsz : (⟨s.toArray⟩ : ByteArray).size = s.length := by simp [ByteArray.size]
    rw [hsz]
    by_cases h : s = []
    · subst h; rfl
    · rw [if_neg (by simpa using h), if_neg h]
      exact decAt_eq s 0
  refine (Tryd.utf8_DecodeRuneInString ⟨s.toArray⟩ w hT).mono fun e w' ⟨he, hw⟩ => ?_
  subst he
  rw [hd]
  refine ⟨_, rfl, ⟨hw.os, hw.tape, hw.output, hw.size, fun k hk _ => hw.block k hk⟩, .tup _ [_, _] rfl fun j av v hav hv => ?_⟩
  match j with
  | 0 => simp at hav hv; subst hav hv; exact .i _ _
  | 1 => simp at hav hv; subst hav hv; exact .i _ _
  | j + 2 => simp at hav
def codeR (s : Str) : AV := .tup [.i .i32 (code s).1, .i .i64 (code s).2]
theorem w_Next (hu : HasU8) (s : Str) : vc Tryd.prog Γ 20 [0, 2, 3, 4, 5, 16] (Tryd.f7.body.getD .skip) (postK Γ [.tmp 2, .tmp 3] (fun v => v = codeR s)) ⟨argSlots 0 [.s s], []⟩ := by
  have qd := s_Decode hu s
  by_cases h : s = []
  · subst h
    refine Or.inl (Exists.intro _ (And.intro (qd) ?_))
    repeat (first | (focus (refine And.intro ?_ (fun h9 => ?_); rotate_left 1; (focus (exfalso; revert h9; first | decide | (simp <;> omega) | (intro h9; simp at h9 <;> omega))); refine fun _ => ?_)) | (focus (refine And.intro (fun h9 => ?_) ?_; (focus (exfalso; revert h9; first | decide | (simp <;> omega) | (intro h9; simp at h9 <;> omega))); refine fun _ => ?_)))
    rfl
  · have hd : decG s = decAt s 0 := by unfold decG; rw [if_neg h]
    rw [hd] at qd
    have hp := dec_pos s 0
    by_cases hb : (decAt s 0).1 = 65533 ∧ (decAt s 0).2 = 1
    · have hc : code s = (-1, 1) := by unfold code; rw [if_neg h, if_pos hb]
      rw [hb.1, hb.2] at qd
      unfold codeR
      rw [hc]
      refine Or.inl (Exists.intro _ (And.intro (qd) ?_))
      repeat (first | (focus (refine And.intro ?_ (fun h9 => ?_); rotate_left 1; (focus (exfalso; revert h9; first | decide | (simp <;> omega) | (intro h9; simp at h9 <;> omega))); refine fun _ => ?_)) | (focus (refine And.intro (fun h9 => ?_) ?_; (focus (exfalso; revert h9; first | decide | (simp <;> omega) | (intro h9; simp at h9 <;> omega))); refine fun _ => ?_)))
      rfl
    · have hc : code s = (((decAt s 0).1 : Int), (decAt s 0).2) := by unfold code; rw [if_neg h, if_neg hb]
      unfold codeR
      rw [hc]
      refine Or.inl (Exists.intro _ (And.intro (qd) ?_))
      refine And.intro (fun h1 => ?_) (fun h1 => ?_)
      · have h1 : (decAt s 0).1 = 65533 := by have := eq_of_beq h1; omega
        have h2 : (decAt s 0).2 ≠ 1 := fun e => hb ⟨h1, e⟩
        refine And.intro (fun h3 => ?_) (fun h3 => ?_)
        · exfalso
          have : (((decAt s 0).2 : Int) < 2) := of_decide_eq_true (show decide (((decAt s 0).2 : Int) < 2) = true from h3)
          omega
        · rfl
      · (focus (refine And.intro (fun h9 => ?_) ?_; (focus (exfalso; revert h9; first | decide | (simp <;> omega) | (intro h9; simp at h9 <;> omega))); refine fun _ => ?_))
        rfl
theorem s_Next (hu : HasU8) (s : Str) : PSpec Tryd.prog 7 [.s s] (codeR s) :=
  pspec_of_vc Γ_good Tryd.func7 rfl Tryd.call7 Tryd.results7 Tryd.ntmps7 (Nat.le_of_ble_eq_true rfl) (w_Next hu s)
theorem w_Scalar (n : Int) : vc Tryd.prog Γ 17 [0, 2] (Tryd.f9.body.getD .skip) (postK Γ [.tmp 2] (fun v => v = .b (decide (scalar n)))) ⟨argSlots 0 [.i .i64 n], []⟩ := by
  repeat' (refine And.intro (fun h => ?_) (fun h => ?_) <;> (try simp [-List.getD_eq_getElem?_getD, -Int.pred_toNat] at h))
  all_goals
    refine congrArg AV.b ?_
    rw [Bool.eq_iff_iff]
    simp only [cond_true, cond_false, decide_eq_true_eq, Bool.false_eq_true, true_iff, false_iff]
    unfold scalar
    first | omega | (constructor <;> intro h9 <;> (try (exfalso; exact h9)) <;> omega)
theorem s_Scalar (n : Int) : PSpec Tryd.prog 9 [.i .i64 n] (.b (decide (scalar n))) :=
  pspec_of_vc Γ_good Tryd.func9 rfl Tryd.call9 Tryd.results9 Tryd.ntmps9 (Nat.le_of_ble_eq_true rfl) (w_Scalar n)
theorem w_Size (n : Int) : vc Tryd.prog Γ 23 [0, 2, 3, 14, 17, 20] (Tryd.f13.body.getD .skip) (postK Γ [.tmp 2] (fun v => v = .i .i64 (sizeR n))) ⟨argSlots 0 [.i .i32 n], []⟩ := by
  repeat' (refine And.intro (fun h => ?_) (fun h => ?_) <;> (try simp [-List.getD_eq_getElem?_getD, -Int.pred_toNat] at h) <;> (try (exfalso; omega)))
  all_goals
    refine congrArg (AV.i .i64) ?_
    unfold sizeR
    by_cases hs : scalar n
    · rw [if_pos hs]
      unfold scalar at hs
      (repeat' split) <;> omega
    · rw [if_neg hs]
      all_goals
        unfold scalar at hs
        omega
theorem s_Size (n : Int) : PSpec Tryd.prog 13 [.i .i32 n] (.i .i64 (sizeR n)) :=
  pspec_of_vc Γ_good Tryd.func13 rfl Tryd.call13 Tryd.results13 Tryd.ntmps13 (Nat.le_of_ble_eq_true rfl) (w_Size n)
end
end Go.Proofs.YtjlbaagnoppfgaaDoor
end
section
namespace Go.Proofs.YtjlbaagnoppfgaaDoor
set_option linter.unusedSectionVars false
set_option linter.unusedSimpArgs false
set_option linter.unusedVariables false
open Go Go.SX Go.Ut Go.RowKit
set_option maxRecDepth 100000
set_option maxHeartbeats 0
section
variable [G : Globs]
theorem acc_bnd {s : Str} {r : Int} (h0 : 0 ≤ r) (h1 : r ≤ 63) : ∀ (i : Nat), i ≤ 4 → (∀ j, 1 ≤ j → j < i → cont s j) → 0 ≤ acc s r i ∧ acc s r i ≤ 16777215 := by
  intro i hi hc
  have key : ∀ j, 1 ≤ j → j < i → 128 ≤ b8 s j ∧ b8 s j < 192 := hc
  match i, hi with
  | 0, _ => exact ⟨h0, by simp only [acc]; omega⟩
  | 1, _ => exact ⟨h0, by simp only [acc]; omega⟩
  | 2, _ => have k1 := key 1 (by decide) (by decide); simp only [acc]; omega
  | 3, _ => have k1 := key 1 (by decide) (by decide); have k2 := key 2 (by decide) (by decide); simp only [acc]; omega
  | 4, _ => have k1 := key 1 (by decide) (by decide); have k2 := key 2 (by decide) (by decide); have k3 := key 3 (by decide) (by decide); simp only [acc]; omega
  | i + 5, h => exfalso; omega
theorem i32_in (n : Int) (h0 : 0 ≤ n) (h1 : n ≤ 2147483647) : IntKind.i32.wrap n = n := IntWalk.i32_in n ⟨by omega, h1⟩
theorem w_Code (s : Str) : vc Tryd.prog Γ 90 [0, 2, 3, 4, 5, 6, 7, 9, 13, 19, 30, 41, 55, 58, 70, 86] (Tryd.f8.body.getD .skip) (postK Γ [.tmp 2, .tmp 3] (fun v => v = codeR s)) ⟨argSlots 0 [.s s], []⟩ := by
  by_cases h0 : s = []
  · subst h0
    (focus (refine And.intro ?_ (fun h9 => ?_); rotate_left 1; (focus (exfalso; revert h9; first | decide | (simp <;> omega) | (intro h9; simp at h9 <;> omega))); refine fun _ => ?_))
    rfl
  have hl : 1 ≤ s.length := by cases s with
    | nil => exact absurd rfl h0
    | cons c r => simp
  have hb := b8_rng s 0
  have hw : IntKind.i64.wrap (((s.getD (Int.toNat 0) 0).toNat : Nat) : Int) = b8 s 0 := IntWalk.i64_in _ ⟨by show _ ≤ b8 s 0; omega, by show b8 s 0 ≤ _; omega⟩
  refine And.intro (fun h9 => absurd (eq_of_beq h9) h0) (fun _ => ?_)
  rcases (show b8 s 0 < 128 ∨ (128 ≤ b8 s 0 ∧ b8 s 0 < 192) ∨ (192 ≤ b8 s 0 ∧ b8 s 0 < 224) ∨ (224 ≤ b8 s 0 ∧ b8 s 0 < 240) ∨ (240 ≤ b8 s 0 ∧ b8 s 0 < 248) ∨ 248 ≤ b8 s 0 by omega) with hc | hc | hc | hc | hc | hc
  · refine Exists.intro [.blk [0, 1, 2, 3, 4, 5]] (And.intro (by kernel_rfl) ?_)
    refine And.intro ⟨by omega, by omega⟩ ?_
    refine And.intro ⟨by omega, by omega⟩ ?_
    rw [hw]
    refine And.intro (fun _ => ?_) (fun h9 => absurd (show b8 s 0 < 128 by omega) (of_decide_eq_false h9))
    rw [codeR, code1 h0 hc]
    show AV.tup [.i .i32 (IntKind.i32.wrap (b8 s 0)), .i .i64 1] = _
    rw [i32_in _ (by omega) (by omega)]
    all_goals rfl
  · have hbad : code s = (-1, 1) := code_bad h0 (by omega)
    refine Exists.intro [.blk [0, 1, 2, 3, 4, 5]] (And.intro (by kernel_rfl) ?_)
    refine And.intro ⟨by omega, by omega⟩ ?_
    refine And.intro ⟨by omega, by omega⟩ ?_
    rw [hw]
    refine And.intro (fun h9 => absurd (of_decide_eq_true h9) (show ¬ (b8 s 0 < 128) by omega)) (fun _ => ?_)
    refine And.intro ⟨by omega, by omega⟩ ?_
    refine And.intro (fun h9 => absurd (of_decide_eq_true h9) (show ¬ (192 ≤ b8 s 0) by omega)) (fun _ => ?_)
    (focus (refine And.intro (fun h9 => ?_) ?_; (focus (exfalso; revert h9; first | decide | (simp <;> omega) | (intro h9; simp at h9 <;> omega))); refine fun _ => ?_))
    refine And.intro ⟨by omega, by omega⟩ ?_
    refine And.intro (fun h9 => absurd (of_decide_eq_true h9) (show ¬ (224 ≤ b8 s 0) by omega)) (fun _ => ?_)
    (focus (refine And.intro (fun h9 => ?_) ?_; (focus (exfalso; revert h9; first | decide | (simp <;> omega) | (intro h9; simp at h9 <;> omega))); refine fun _ => ?_))
    refine And.intro ⟨by omega, by omega⟩ ?_
    refine And.intro (fun h9 => absurd (of_decide_eq_true h9) (show ¬ (240 ≤ b8 s 0) by omega)) (fun _ => ?_)
    (focus (refine And.intro (fun h9 => ?_) ?_; (focus (exfalso; revert h9; first | decide | (simp <;> omega) | (intro h9; simp at h9 <;> omega))); refine fun _ => ?_))
    rw [codeR, hbad]
    rfl
  · have hlead : lead s = (2, 128, b8 s 0 - 192) := by unfold lead; rw [if_pos (by omega)]
    have hg : good s ↔ (2 ≤ s.length ∧ (∀ i, 1 ≤ i → i < 2 → cont s i) ∧ 128 ≤ acc s (b8 s 0 - 192) 2 ∧ scalar (acc s (b8 s 0 - 192) 2)) := by unfold good; rw [hlead]
    have hbad : ¬ good s → code s = (-1, 1) := (code_many h0 (by omega) (by omega)).2
    refine Exists.intro [.blk [0, 1, 2, 3, 4, 5]] (And.intro (by kernel_rfl) ?_)
    refine And.intro ⟨by omega, by omega⟩ ?_
    refine And.intro ⟨by omega, by omega⟩ ?_
    rw [hw]
    refine And.intro (fun h9 => absurd (of_decide_eq_true h9) (show ¬ (b8 s 0 < 128) by omega)) (fun _ => ?_)
    refine And.intro ⟨by omega, by omega⟩ ?_
    refine And.intro (fun _ => ?_) (fun h9 => absurd (show 192 ≤ b8 s 0 by omega) (of_decide_eq_false h9))
    refine And.intro ⟨by omega, by omega⟩ ?_
    refine And.intro (fun _ => ?_) (fun h9 => absurd (show b8 s 0 < 224 by omega) (of_decide_eq_false h9))
    refine And.intro ⟨by omega, by omega⟩ ?_
    intro _
    refine And.intro (fun hs => ?_) (fun hs => ?_)
    · have hs : (s.length : Int) < 2 := of_decide_eq_true hs
      show AV.tup [.i .i32 (-1), .i .i64 1] = codeR s
      rw [codeR, hbad (fun h => by have := (hg.1 h).1; omega)]
      all_goals rfl
    · have hs : ¬ (s.length : Int) < 2 := of_decide_eq_false hs
      refine Exists.intro [] (Exists.intro [] (Exists.intro [] (Exists.intro Nat (Exists.intro (fun i => 1 ≤ i ∧ i ≤ 2 ∧ ∀ j, 1 ≤ j → j < i → cont s j) (Exists.intro (fun i => ⟨[(0, .s s), (4, .i .i64 2), (5, .i .i64 128), (6, .i .i64 (acc s (b8 s 0 - 192) i)), (7, .i .i64 i)], []⟩) (Exists.intro (fun i => 2 - i) (Exists.intro 1 (And.intro ⟨Nat.le_refl _, by decide, fun j h1 h2 => by omega⟩ (And.intro ?_ ?_)))))))))
      · (repeat' (first | exact trivial | exact Or.inl rfl | exact Or.inr (Or.inl ⟨rfl, _, rfl⟩) | exact Or.inr (Or.inr (Or.inr ⟨_, _, _, rfl, rfl⟩)) | refine And.intro ?_ ?_))
      · rintro i ⟨hi1, hin, hcs⟩
        have hab := acc_bnd (s := s) (r := (b8 s 0 - 192)) (by omega) (by omega) i (by omega) hcs
        have hbi := b8_rng s i
        refine And.intro (fun hc => ?_) (fun hc => ?_)
        · have hc : i < 2 := by have : (i : Int) < 2 := of_decide_eq_true hc; omega
          refine And.intro ⟨by omega, by omega⟩ ?_
          refine And.intro (fun h1 => ?_) (fun h1 => ?_)
          · have h1 : ¬ b8 s i < 128 := of_decide_eq_false h1
            refine And.intro ⟨by omega, by omega⟩ ?_
            refine And.intro (fun h2 => ?_) (fun h2 => ?_)
            · have h2 : 192 ≤ b8 s i := of_decide_eq_true h2
              show AV.tup [.i .i32 (-1), .i .i64 1] = codeR s
              rw [codeR, hbad (fun h => by have := (hg.1 h).2.1 i hi1 hc; unfold cont at this; omega)]
              all_goals rfl
            · have h2 : ¬ 192 ≤ b8 s i := of_decide_eq_false h2
              have hwi : IntKind.i64.wrap (((s.getD (Int.toNat (i : Int)) 0).toNat : Nat) : Int) = b8 s i := IntWalk.i64_in _ ⟨by show _ ≤ b8 s i; omega, by show b8 s i ≤ _; omega⟩
              have hacc : acc s (b8 s 0 - 192) (i + 1) = acc s (b8 s 0 - 192) i * 64 + b8 s i - 128 := by
                obtain ⟨k, rfl⟩ : ∃ k, i = k + 1 := ⟨i - 1, by omega⟩
                rfl
              refine And.intro ⟨by omega, by omega⟩ ?_
              refine And.intro ⟨by omega, by omega⟩ ?_
              refine And.intro ⟨by rw [hwi]; omega, by rw [hwi]; omega⟩ ?_
              rw [hwi]
              refine And.intro ⟨by omega, by omega⟩ ?_
              refine And.intro ⟨by omega, by omega⟩ ?_
              have hcs' : ∀ j, 1 ≤ j → j < i + 1 → cont s j := fun j h3 h4 => by
                rcases Nat.lt_or_ge j i with h | h
                · exact hcs j h3 h
                · have : j = i := by omega
                  subst this
                  exact ⟨by omega, by omega⟩
              refine Exists.intro [] (Exists.intro (i + 1) (And.intro ⟨by omega, by omega, hcs'⟩ (And.intro ?_ ?_)))
              · (repeat' (first | exact trivial | exact Or.inl rfl | exact Or.inl (congrArg (AV.i .i64) hacc.symm) | refine And.intro ?_ ?_))
              · show 2 - (i + 1) < 2 - i
                omega
          · have h1 : b8 s i < 128 := of_decide_eq_true (show decide (b8 s i < 128) = true from h1)
            (focus (refine And.intro ?_ (fun h9 => ?_); rotate_left 1; (focus (exfalso; revert h9; first | decide | (simp <;> omega) | (intro h9; simp at h9 <;> omega))); refine fun _ => ?_))
            show AV.tup [.i .i32 (-1), .i .i64 1] = codeR s
            rw [codeR, hbad (fun h => by have := (hg.1 h).2.1 i hi1 hc; unfold cont at this; omega)]
            all_goals rfl
        · have hc : i = 2 := by have : ¬ (i : Int) < 2 := of_decide_eq_false hc; omega
          subst hc
          refine And.intro (fun h1 => ?_) (fun h1 => ?_)
          · have h1 : ¬ acc s (b8 s 0 - 192) 2 < 128 := of_decide_eq_false h1
            refine Or.inl (Exists.intro _ (And.intro (s_Scalar (acc s (b8 s 0 - 192) 2)) ?_))
            refine And.intro (fun h2 => ?_) (fun h2 => ?_)
            · have h2 : ¬ scalar (acc s (b8 s 0 - 192) 2) := by simpa using h2
              show AV.tup [.i .i32 (-1), .i .i64 1] = codeR s
              rw [codeR, hbad (fun h => h2 (hg.1 h).2.2.2)]
              all_goals rfl
            · have h2 : scalar (acc s (b8 s 0 - 192) 2) := by simpa using h2
              have hgood : good s := hg.2 ⟨by omega, hcs, by omega, h2⟩
              have hw2 : IntKind.i32.wrap (acc s (b8 s 0 - 192) 2) = acc s (b8 s 0 - 192) 2 := i32_in _ (by omega) (by unfold scalar at h2; omega)
              have hcd := (code_many h0 (by omega) (by omega)).1 hgood
              rw [hlead] at hcd
              rw [codeR, hcd]
              show AV.tup [.i .i32 (IntKind.i32.wrap (acc s (b8 s 0 - 192) 2)), .i .i64 2] = _
              rw [hw2]
              all_goals rfl
          · have h1 : acc s (b8 s 0 - 192) 2 < 128 := of_decide_eq_true (show decide (acc s (b8 s 0 - 192) 2 < 128) = true from h1)
            (focus (refine And.intro ?_ (fun h9 => ?_); rotate_left 1; (focus (exfalso; revert h9; first | decide | (simp <;> omega) | (intro h9; simp at h9 <;> omega))); refine fun _ => ?_))
            show AV.tup [.i .i32 (-1), .i .i64 1] = codeR s
            rw [codeR, hbad (fun h => by have := (hg.1 h).2.2.1; omega)]
            all_goals rfl
  · have hlead : lead s = (3, 2048, b8 s 0 - 224) := by unfold lead; rw [if_neg (by omega), if_pos (by omega)]
    have hg : good s ↔ (3 ≤ s.length ∧ (∀ i, 1 ≤ i → i < 3 → cont s i) ∧ 2048 ≤ acc s (b8 s 0 - 224) 3 ∧ scalar (acc s (b8 s 0 - 224) 3)) := by unfold good; rw [hlead]
    have hbad : ¬ good s → code s = (-1, 1) := (code_many h0 (by omega) (by omega)).2
    refine Exists.intro [.blk [0, 1, 2, 3, 4, 5]] (And.intro (by kernel_rfl) ?_)
    refine And.intro ⟨by omega, by omega⟩ ?_
    refine And.intro ⟨by omega, by omega⟩ ?_
    rw [hw]
    refine And.intro (fun h9 => absurd (of_decide_eq_true h9) (show ¬ (b8 s 0 < 128) by omega)) (fun _ => ?_)
    refine And.intro ⟨by omega, by omega⟩ ?_
    refine And.intro (fun _ => ?_) (fun h9 => absurd (show 192 ≤ b8 s 0 by omega) (of_decide_eq_false h9))
    refine And.intro ⟨by omega, by omega⟩ ?_
    refine And.intro (fun h9 => absurd (of_decide_eq_true h9) (show ¬ (b8 s 0 < 224) by omega)) (fun _ => ?_)
    refine And.intro ⟨by omega, by omega⟩ ?_
    refine And.intro (fun _ => ?_) (fun h9 => absurd (show 224 ≤ b8 s 0 by omega) (of_decide_eq_false h9))
    refine And.intro ⟨by omega, by omega⟩ ?_
    refine And.intro (fun _ => ?_) (fun h9 => absurd (show b8 s 0 < 240 by omega) (of_decide_eq_false h9))
    refine And.intro ⟨by omega, by omega⟩ ?_
    intro _
    refine And.intro (fun hs => ?_) (fun hs => ?_)
    · have hs : (s.length : Int) < 3 := of_decide_eq_true hs
      show AV.tup [.i .i32 (-1), .i .i64 1] = codeR s
      rw [codeR, hbad (fun h => by have := (hg.1 h).1; omega)]
      all_goals rfl
    · have hs : ¬ (s.length : Int) < 3 := of_decide_eq_false hs
      refine Exists.intro [] (Exists.intro [] (Exists.intro [] (Exists.intro Nat (Exists.intro (fun i => 1 ≤ i ∧ i ≤ 3 ∧ ∀ j, 1 ≤ j → j < i → cont s j) (Exists.intro (fun i => ⟨[(0, .s s), (4, .i .i64 3), (5, .i .i64 2048), (6, .i .i64 (acc s (b8 s 0 - 224) i)), (7, .i .i64 i)], []⟩) (Exists.intro (fun i => 3 - i) (Exists.intro 1 (And.intro ⟨Nat.le_refl _, by decide, fun j h1 h2 => by omega⟩ (And.intro ?_ ?_)))))))))
      · (repeat' (first | exact trivial | exact Or.inl rfl | exact Or.inr (Or.inl ⟨rfl, _, rfl⟩) | exact Or.inr (Or.inr (Or.inr ⟨_, _, _, rfl, rfl⟩)) | refine And.intro ?_ ?_))
      · rintro i ⟨hi1, hin, hcs⟩
        have hab := acc_bnd (s := s) (r := (b8 s 0 - 224)) (by omega) (by omega) i (by omega) hcs
        have hbi := b8_rng s i
        refine And.intro (fun hc => ?_) (fun hc => ?_)
        · have hc : i < 3 := by have : (i : Int) < 3 := of_decide_eq_true hc; omega
          refine And.intro ⟨by omega, by omega⟩ ?_
          refine And.intro (fun h1 => ?_) (fun h1 => ?_)
          · have h1 : ¬ b8 s i < 128 := of_decide_eq_false h1
            refine And.intro ⟨by omega, by omega⟩ ?_
            refine And.intro (fun h2 => ?_) (fun h2 => ?_)
            · have h2 : 192 ≤ b8 s i := of_decide_eq_true h2
              show AV.tup [.i .i32 (-1), .i .i64 1] = codeR s
              rw [codeR, hbad (fun h => by have := (hg.1 h).2.1 i hi1 hc; unfold cont at this; omega)]
              all_goals rfl
            · have h2 : ¬ 192 ≤ b8 s i := of_decide_eq_false h2
              have hwi : IntKind.i64.wrap (((s.getD (Int.toNat (i : Int)) 0).toNat : Nat) : Int) = b8 s i := IntWalk.i64_in _ ⟨by show _ ≤ b8 s i; omega, by show b8 s i ≤ _; omega⟩
              have hacc : acc s (b8 s 0 - 224) (i + 1) = acc s (b8 s 0 - 224) i * 64 + b8 s i - 128 := by
                obtain ⟨k, rfl⟩ : ∃ k, i = k + 1 := ⟨i - 1, by omega⟩
                rfl
              refine And.intro ⟨by omega, by omega⟩ ?_
              refine And.intro ⟨by omega, by omega⟩ ?_
              refine And.intro ⟨by rw [hwi]; omega, by rw [hwi]; omega⟩ ?_
              rw [hwi]
              refine And.intro ⟨by omega, by omega⟩ ?_
              refine And.intro ⟨by omega, by omega⟩ ?_
              have hcs' : ∀ j, 1 ≤ j → j < i + 1 → cont s j := fun j h3 h4 => by
                rcases Nat.lt_or_ge j i with h | h
                · exact hcs j h3 h
                · have : j = i := by omega
                  subst this
                  exact ⟨by omega, by omega⟩
              refine Exists.intro [] (Exists.intro (i + 1) (And.intro ⟨by omega, by omega, hcs'⟩ (And.intro ?_ ?_)))
              · (repeat' (first | exact trivial | exact Or.inl rfl | exact Or.inl (congrArg (AV.i .i64) hacc.symm) | refine And.intro ?_ ?_))
              · show 3 - (i + 1) < 3 - i
                omega
          · have h1 : b8 s i < 128 := of_decide_eq_true (show decide (b8 s i < 128) = true from h1)
            (focus (refine And.intro ?_ (fun h9 => ?_); rotate_left 1; (focus (exfalso; revert h9; first | decide | (simp <;> omega) | (intro h9; simp at h9 <;> omega))); refine fun _ => ?_))
            show AV.tup [.i .i32 (-1), .i .i64 1] = codeR s
            rw [codeR, hbad (fun h => by have := (hg.1 h).2.1 i hi1 hc; unfold cont at this; omega)]
            all_goals rfl
        · have hc : i = 3 := by have : ¬ (i : Int) < 3 := of_decide_eq_false hc; omega
          subst hc
          refine And.intro (fun h1 => ?_) (fun h1 => ?_)
          · have h1 : ¬ acc s (b8 s 0 - 224) 3 < 2048 := of_decide_eq_false h1
            refine Or.inl (Exists.intro _ (And.intro (s_Scalar (acc s (b8 s 0 - 224) 3)) ?_))
            refine And.intro (fun h2 => ?_) (fun h2 => ?_)
            · have h2 : ¬ scalar (acc s (b8 s 0 - 224) 3) := by simpa using h2
              show AV.tup [.i .i32 (-1), .i .i64 1] = codeR s
              rw [codeR, hbad (fun h => h2 (hg.1 h).2.2.2)]
              all_goals rfl
            · have h2 : scalar (acc s (b8 s 0 - 224) 3) := by simpa using h2
              have hgood : good s := hg.2 ⟨by omega, hcs, by omega, h2⟩
              have hw2 : IntKind.i32.wrap (acc s (b8 s 0 - 224) 3) = acc s (b8 s 0 - 224) 3 := i32_in _ (by omega) (by unfold scalar at h2; omega)
              have hcd := (code_many h0 (by omega) (by omega)).1 hgood
              rw [hlead] at hcd
              rw [codeR, hcd]
              show AV.tup [.i .i32 (IntKind.i32.wrap (acc s (b8 s 0 - 224) 3)), .i .i64 3] = _
              rw [hw2]
              all_goals rfl
          · have h1 : acc s (b8 s 0 - 224) 3 < 2048 := of_decide_eq_true (show decide (acc s (b8 s 0 - 224) 3 < 2048) = true from h1)
            (focus (refine And.intro ?_ (fun h9 => ?_); rotate_left 1; (focus (exfalso; revert h9; first | decide | (simp <;> omega) | (intro h9; simp at h9 <;> omega))); refine fun _ => ?_))
            show AV.tup [.i .i32 (-1), .i .i64 1] = codeR s
            rw [codeR, hbad (fun h => by have := (hg.1 h).2.2.1; omega)]
            all_goals rfl
  · have hlead : lead s = (4, 65536, b8 s 0 - 240) := by unfold lead; rw [if_neg (by omega), if_neg (by omega)]
    have hg : good s ↔ (4 ≤ s.length ∧ (∀ i, 1 ≤ i → i < 4 → cont s i) ∧ 65536 ≤ acc s (b8 s 0 - 240) 4 ∧ scalar (acc s (b8 s 0 - 240) 4)) := by unfold good; rw [hlead]
    have hbad : ¬ good s → code s = (-1, 1) := (code_many h0 (by omega) (by omega)).2
    refine Exists.intro [.blk [0, 1, 2, 3, 4, 5]] (And.intro (by kernel_rfl) ?_)
    refine And.intro ⟨by omega, by omega⟩ ?_
    refine And.intro ⟨by omega, by omega⟩ ?_
    rw [hw]
    refine And.intro (fun h9 => absurd (of_decide_eq_true h9) (show ¬ (b8 s 0 < 128) by omega)) (fun _ => ?_)
    refine And.intro ⟨by omega, by omega⟩ ?_
    refine And.intro (fun _ => ?_) (fun h9 => absurd (show 192 ≤ b8 s 0 by omega) (of_decide_eq_false h9))
    refine And.intro ⟨by omega, by omega⟩ ?_
    refine And.intro (fun h9 => absurd (of_decide_eq_true h9) (show ¬ (b8 s 0 < 224) by omega)) (fun _ => ?_)
    refine And.intro ⟨by omega, by omega⟩ ?_
    refine And.intro (fun _ => ?_) (fun h9 => absurd (show 224 ≤ b8 s 0 by omega) (of_decide_eq_false h9))
    refine And.intro ⟨by omega, by omega⟩ ?_
    refine And.intro (fun h9 => absurd (of_decide_eq_true h9) (show ¬ (b8 s 0 < 240) by omega)) (fun _ => ?_)
    refine And.intro ⟨by omega, by omega⟩ ?_
    refine And.intro (fun _ => ?_) (fun h9 => absurd (show 240 ≤ b8 s 0 by omega) (of_decide_eq_false h9))
    refine And.intro ⟨by omega, by omega⟩ ?_
    refine And.intro (fun _ => ?_) (fun h9 => absurd (show b8 s 0 < 248 by omega) (of_decide_eq_false h9))
    refine And.intro ⟨by omega, by omega⟩ ?_
    intro _
    refine And.intro (fun hs => ?_) (fun hs => ?_)
    · have hs : (s.length : Int) < 4 := of_decide_eq_true hs
      show AV.tup [.i .i32 (-1), .i .i64 1] = codeR s
      rw [codeR, hbad (fun h => by have := (hg.1 h).1; omega)]
      all_goals rfl
    · have hs : ¬ (s.length : Int) < 4 := of_decide_eq_false hs
      refine Exists.intro [] (Exists.intro [] (Exists.intro [] (Exists.intro Nat (Exists.intro (fun i => 1 ≤ i ∧ i ≤ 4 ∧ ∀ j, 1 ≤ j → j < i → cont s j) (Exists.intro (fun i => ⟨[(0, .s s), (4, .i .i64 4), (5, .i .i64 65536), (6, .i .i64 (acc s (b8 s 0 - 240) i)), (7, .i .i64 i)], []⟩) (Exists.intro (fun i => 4 - i) (Exists.intro 1 (And.intro ⟨Nat.le_refl _, by decide, fun j h1 h2 => by omega⟩ (And.intro ?_ ?_)))))))))
      · (repeat' (first | exact trivial | exact Or.inl rfl | exact Or.inr (Or.inl ⟨rfl, _, rfl⟩) | exact Or.inr (Or.inr (Or.inr ⟨_, _, _, rfl, rfl⟩)) | refine And.intro ?_ ?_))
      · rintro i ⟨hi1, hin, hcs⟩
        have hab := acc_bnd (s := s) (r := (b8 s 0 - 240)) (by omega) (by omega) i (by omega) hcs
        have hbi := b8_rng s i
        refine And.intro (fun hc => ?_) (fun hc => ?_)
        · have hc : i < 4 := by have : (i : Int) < 4 := of_decide_eq_true hc; omega
          refine And.intro ⟨by omega, by omega⟩ ?_
          refine And.intro (fun h1 => ?_) (fun h1 => ?_)
          · have h1 : ¬ b8 s i < 128 := of_decide_eq_false h1
            refine And.intro ⟨by omega, by omega⟩ ?_
            refine And.intro (fun h2 => ?_) (fun h2 => ?_)
            · have h2 : 192 ≤ b8 s i := of_decide_eq_true h2
              show AV.tup [.i .i32 (-1), .i .i64 1] = codeR s
              rw [codeR, hbad (fun h => by have := (hg.1 h).2.1 i hi1 hc; unfold cont at this; omega)]
              all_goals rfl
            · have h2 : ¬ 192 ≤ b8 s i := of_decide_eq_false h2
              have hwi : IntKind.i64.wrap (((s.getD (Int.toNat (i : Int)) 0).toNat : Nat) : Int) = b8 s i := IntWalk.i64_in _ ⟨by show _ ≤ b8 s i; omega, by show b8 s i ≤ _; omega⟩
              have hacc : acc s (b8 s 0 - 240) (i + 1) = acc s (b8 s 0 - 240) i * 64 + b8 s i - 128 := by
                obtain ⟨k, rfl⟩ : ∃ k, i = k + 1 := ⟨i - 1, by omega⟩
                rfl
              refine And.intro ⟨by omega, by omega⟩ ?_
              refine And.intro ⟨by omega, by omega⟩ ?_
              refine And.intro ⟨by rw [hwi]; omega, by rw [hwi]; omega⟩ ?_
              rw [hwi]
              refine And.intro ⟨by omega, by omega⟩ ?_
              refine And.intro ⟨by omega, by omega⟩ ?_
              have hcs' : ∀ j, 1 ≤ j → j < i + 1 → cont s j := fun j h3 h4 => by
                rcases Nat.lt_or_ge j i with h | h
                · exact hcs j h3 h
                · have : j = i := by omega
                  subst this
                  exact ⟨by omega, by omega⟩
              refine Exists.intro [] (Exists.intro (i + 1) (And.intro ⟨by omega, by omega, hcs'⟩ (And.intro ?_ ?_)))
              · (repeat' (first | exact trivial | exact Or.inl rfl | exact Or.inl (congrArg (AV.i .i64) hacc.symm) | refine And.intro ?_ ?_))
              · show 4 - (i + 1) < 4 - i
                omega
          · have h1 : b8 s i < 128 := of_decide_eq_true (show decide (b8 s i < 128) = true from h1)
            (focus (refine And.intro ?_ (fun h9 => ?_); rotate_left 1; (focus (exfalso; revert h9; first | decide | (simp <;> omega) | (intro h9; simp at h9 <;> omega))); refine fun _ => ?_))
            show AV.tup [.i .i32 (-1), .i .i64 1] = codeR s
            rw [codeR, hbad (fun h => by have := (hg.1 h).2.1 i hi1 hc; unfold cont at this; omega)]
            all_goals rfl
        · have hc : i = 4 := by have : ¬ (i : Int) < 4 := of_decide_eq_false hc; omega
          subst hc
          refine And.intro (fun h1 => ?_) (fun h1 => ?_)
          · have h1 : ¬ acc s (b8 s 0 - 240) 4 < 65536 := of_decide_eq_false h1
            refine Or.inl (Exists.intro _ (And.intro (s_Scalar (acc s (b8 s 0 - 240) 4)) ?_))
            refine And.intro (fun h2 => ?_) (fun h2 => ?_)
            · have h2 : ¬ scalar (acc s (b8 s 0 - 240) 4) := by simpa using h2
              show AV.tup [.i .i32 (-1), .i .i64 1] = codeR s
              rw [codeR, hbad (fun h => h2 (hg.1 h).2.2.2)]
              all_goals rfl
            · have h2 : scalar (acc s (b8 s 0 - 240) 4) := by simpa using h2
              have hgood : good s := hg.2 ⟨by omega, hcs, by omega, h2⟩
              have hw2 : IntKind.i32.wrap (acc s (b8 s 0 - 240) 4) = acc s (b8 s 0 - 240) 4 := i32_in _ (by omega) (by unfold scalar at h2; omega)
              have hcd := (code_many h0 (by omega) (by omega)).1 hgood
              rw [hlead] at hcd
              rw [codeR, hcd]
              show AV.tup [.i .i32 (IntKind.i32.wrap (acc s (b8 s 0 - 240) 4)), .i .i64 4] = _
              rw [hw2]
              all_goals rfl
          · have h1 : acc s (b8 s 0 - 240) 4 < 65536 := of_decide_eq_true (show decide (acc s (b8 s 0 - 240) 4 < 65536) = true from h1)
            (focus (refine And.intro ?_ (fun h9 => ?_); rotate_left 1; (focus (exfalso; revert h9; first | decide | (simp <;> omega) | (intro h9; simp at h9 <;> omega))); refine fun _ => ?_))
            show AV.tup [.i .i32 (-1), .i .i64 1] = codeR s
            rw [codeR, hbad (fun h => by have := (hg.1 h).2.2.1; omega)]
            all_goals rfl
  · have hbad : code s = (-1, 1) := code_bad h0 (by omega)
    refine Exists.intro [.blk [0, 1, 2, 3, 4, 5]] (And.intro (by kernel_rfl) ?_)
    refine And.intro ⟨by omega, by omega⟩ ?_
    refine And.intro ⟨by omega, by omega⟩ ?_
    rw [hw]
    refine And.intro (fun h9 => absurd (of_decide_eq_true h9) (show ¬ (b8 s 0 < 128) by omega)) (fun _ => ?_)
    refine And.intro ⟨by omega, by omega⟩ ?_
    refine And.intro (fun _ => ?_) (fun h9 => absurd (show 192 ≤ b8 s 0 by omega) (of_decide_eq_false h9))
    refine And.intro ⟨by omega, by omega⟩ ?_
    refine And.intro (fun h9 => absurd (of_decide_eq_true h9) (show ¬ (b8 s 0 < 224) by omega)) (fun _ => ?_)
    refine And.intro ⟨by omega, by omega⟩ ?_
    refine And.intro (fun _ => ?_) (fun h9 => absurd (show 224 ≤ b8 s 0 by omega) (of_decide_eq_false h9))
    refine And.intro ⟨by omega, by omega⟩ ?_
    refine And.intro (fun h9 => absurd (of_decide_eq_true h9) (show ¬ (b8 s 0 < 240) by omega)) (fun _ => ?_)
    refine And.intro ⟨by omega, by omega⟩ ?_
    refine And.intro (fun _ => ?_) (fun h9 => absurd (show 240 ≤ b8 s 0 by omega) (of_decide_eq_false h9))
    refine And.intro ⟨by omega, by omega⟩ ?_
    refine And.intro (fun h9 => absurd (of_decide_eq_true h9) (show ¬ (b8 s 0 < 248) by omega)) (fun _ => ?_)
    rw [codeR, hbad]
    rfl
theorem s_Code (s : Str) : PSpec Tryd.prog 8 [.s s] (codeR s) :=
  pspec_of_vc Γ_good Tryd.func8 rfl Tryd.call8 Tryd.results8 Tryd.ntmps8 (Nat.le_of_ble_eq_true rfl) (w_Code s)
end
end Go.Proofs.YtjlbaagnoppfgaaDoor
end
section
namespace Go.Ut
set_option linter.unusedSectionVars false
set_option linter.unusedSimpArgs false
set_option linter.unusedVariables false
open Go.SX

def eb (x : Int) : UInt8 := UInt8.ofNat (IntKind.u8.wrap x).toNat
def encS (n : Int) : Str := if n < 128 then [eb n] else if n < 2048 then [eb (192 + n.tdiv 64)] ++ [eb (128 + n.tmod 64)] else if n < 65536 then ([eb (224 + n.tdiv 4096)] ++ [eb (128 + (n.tdiv 64).tmod 64)]) ++ [eb (128 + n.tmod 64)]
  else (([eb (240 + n.tdiv 262144)] ++ [eb (128 + (n.tdiv 4096).tmod 64)]) ++ [eb (128 + (n.tdiv 64).tmod 64)]) ++ [eb (128 + n.tmod 64)]
theorem encS_len {n : Int} (h : scalar n) : ((encS n).length : Int) = sizeR n := by
  unfold encS sizeR
  rw [if_pos h]
  (repeat' split) <;> rfl
theorem eb_eq {c : UInt8} {x : Int} (h : x = (c.toNat : Int)) : eb x = c := by
  have := c.toNat_lt
  unfold eb
  rw [IntWalk.u8_in x ⟨by omega, by omega⟩, h, Int.toNat_natCast]
  exact UInt8.ofNat_toNat
theorem eb_nat {x : Int} (h0 : 0 ≤ x) (h1 : x ≤ 255) : eb x = x.toNat.toUInt8 := by
  unfold eb
  rw [IntWalk.u8_in x ⟨h0, h1⟩]
/-- the library's code of a rune -/
theorem encode_scalar {n : Int} (h : scalar n) : Lib.encodeRune n = encS n := by
  unfold scalar at h
  have d1 : n.tdiv 64 = n / 64 := Int.tdiv_eq_ediv_of_nonneg h.1
  have d2 : n.tdiv 4096 = n / 4096 := Int.tdiv_eq_ediv_of_nonneg h.1
  have d3 : n.tdiv 262144 = n / 262144 := Int.tdiv_eq_ediv_of_nonneg h.1
  have m1 : n.tmod 64 = n % 64 := Int.tmod_eq_emod_of_nonneg h.1
  have m2 : (n / 64).tmod 64 = (n / 64) % 64 := Int.tmod_eq_emod_of_nonneg (by omega)
  have m3 : (n / 4096).tmod 64 = (n / 4096) % 64 := Int.tmod_eq_emod_of_nonneg (by omega)
  unfold Lib.encodeRune Lib.encodeRuneZ encS
  rw [d1, d2, d3, m1, m2, m3]
  by_cases h1 : n < 128
  · rw [if_pos (by omega), if_pos h1, eb_nat (by omega) (by omega)]; rfl
  rw [if_neg (by omega), if_neg h1]
  by_cases h2 : n < 2048
  · rw [if_pos (by omega), if_pos h2, eb_nat (by omega) (by omega), eb_nat (by omega) (by omega)]; rfl
  rw [if_neg (by omega), if_neg h2]
  by_cases h3 : n < 65536
  · rw [if_pos (by omega), if_pos h3, eb_nat (by omega) (by omega), eb_nat (by omega) (by omega), eb_nat (by omega) (by omega)]; rfl
  rw [if_neg (by omega), if_neg h3, if_pos (by omega), eb_nat (by omega) (by omega), eb_nat (by omega) (by omega), eb_nat (by omega) (by omega), eb_nat (by omega) (by omega)]
  rfl
theorem encode_bad {n : Int} (h : ¬ scalar n) : Lib.encodeRune n = encS 65533 := by
  unfold scalar at h
  unfold Lib.encodeRune Lib.encodeRuneZ
  rw [if_neg (by omega), if_neg (by omega), if_neg (by omega), if_neg (by omega)]
  decide
theorem take_get (s : Str) (i : Nat) : ∀ (n : Nat), i + n ≤ s.length → (s.drop i).take n = (List.range n).map fun k => s.getD (i + k) 0 := by
  intro n h
  apply List.ext_getElem
  · simp; omega
  · intro k h1 h2
    simp at h1 h2 ⊢
    simp [List.getD_eq_getElem?_getD, List.getElem?_eq_getElem (show i + k < s.length by omega)]
/-- where a rune begins -/
theorem good_at {s : Str} {i : Nat} (hk : i < s.length) (hnb : ¬ ((decAt s i).1 = 65533 ∧ (decAt s i).2 = 1)) :
    scalar ((decAt s i).1 : Int) ∧ ((decAt s i).2 : Int) = sizeR ((decAt s i).1 : Int) ∧ (s.drop i).take (decAt s i).2 = encS ((decAt s i).1 : Int) := by
  have r0 := (s.getD i 0).toNat_lt
  have r1 := (s.getD (i + 1) 0).toNat_lt
  have r2 := (s.getD (i + 2) 0).toNat_lt
  have r3 := (s.getD (i + 3) 0).toNat_lt
  have hd : decAt s i = Lib.decodeN (s.length - i) (s.getD i 0).toNat (s.getD (i + 1) 0).toNat (s.getD (i + 2) 0).toNat (s.getD (i + 3) 0).toNat := rfl
  have fin : ∀ v k : Nat, decAt s i = (v, k) → scalar (v : Int) → (k : Int) = sizeR v → (s.drop i).take k = encS v → scalar ((decAt s i).1 : Int) ∧ ((decAt s i).2 : Int) = sizeR ((decAt s i).1 : Int) ∧ (s.drop i).take (decAt s i).2 = encS ((decAt s i).1 : Int) := by
    intro v k e h1 h2 h3
    rw [e]
    exact ⟨h1, h2, h3⟩
  have td : ∀ (v m : Nat), (v : Int).tdiv (m : Int) = ((v / m : Nat) : Int) := fun v m => rfl
  have tm : ∀ (v m : Nat), (v : Int).tmod (m : Int) = ((v % m : Nat) : Int) := fun v m => rfl
  by_cases c0 : (s.getD i 0).toNat < 128
  · have e : decAt s i = ((s.getD i 0).toNat, 1) := by rw [hd]; unfold Lib.decodeN; rw [if_pos c0]
    refine fin _ _ e (by unfold scalar; omega) (by unfold sizeR; rw [if_pos (by unfold scalar; omega), if_pos (by omega)]; rfl) ?_
    rw [take_get s i 1 (by omega)]
    unfold encS
    rw [if_pos (by omega), eb_eq rfl]
    rfl
  by_cases c1 : (s.getD i 0).toNat < 192 ∨ 248 ≤ (s.getD i 0).toNat
  · exfalso
    refine hnb ?_
    have e : decAt s i = (65533, 1) := by rw [hd]; unfold Lib.decodeN; rw [if_neg (by omega), if_neg (by omega), if_neg (by omega), if_neg (by omega)]
    rw [e]
    exact ⟨rfl, rfl⟩
  by_cases c2 : (s.getD i 0).toNat < 224
  · rw [dec2 (by omega) c2 r1] at hd
    by_cases g : 2 ≤ s.length - i ∧ (128 ≤ (s.getD (i + 1) 0).toNat ∧ (s.getD (i + 1) 0).toNat < 192) ∧ 128 ≤ ((s.getD i 0).toNat - 192) * 64 + ((s.getD (i + 1) 0).toNat - 128)
    · rw [if_pos g] at hd
      have hs : scalar ((((s.getD i 0).toNat - 192) * 64 + ((s.getD (i + 1) 0).toNat - 128) : Nat) : Int) := by unfold scalar; omega
      refine fin _ _ hd hs (by unfold sizeR; rw [if_pos hs, if_neg (by omega), if_pos (by omega)]; rfl) ?_
      rw [take_get s i 2 (by omega)]
      unfold encS
      rw [if_neg (by omega), if_pos (by omega), eb_eq (c := s.getD i 0) (by rw [show (64 : Int) = ((64 : Nat) : Int) from rfl, td]; omega), eb_eq (c := s.getD (i + 1) 0) (by rw [show (64 : Int) = ((64 : Nat) : Int) from rfl, tm]; omega)]
      rfl
    · exact absurd (by rw [hd, if_neg g]; exact ⟨rfl, rfl⟩) hnb
  by_cases c3 : (s.getD i 0).toNat < 240
  · rw [dec3 (by omega) c3 r1 r2] at hd
    by_cases g : (3 ≤ s.length - i ∧ (128 ≤ (s.getD (i + 1) 0).toNat ∧ (s.getD (i + 1) 0).toNat < 192) ∧ (128 ≤ (s.getD (i + 2) 0).toNat ∧ (s.getD (i + 2) 0).toNat < 192)) ∧ 2048 ≤ ((s.getD i 0).toNat - 224) * 4096 + ((s.getD (i + 1) 0).toNat - 128) * 64 + ((s.getD (i + 2) 0).toNat - 128) ∧ (((s.getD i 0).toNat - 224) * 4096 + ((s.getD (i + 1) 0).toNat - 128) * 64 + ((s.getD (i + 2) 0).toNat - 128) < 55296 ∨ 57343 < ((s.getD i 0).toNat - 224) * 4096 + ((s.getD (i + 1) 0).toNat - 128) * 64 + ((s.getD (i + 2) 0).toNat - 128))
    · rw [if_pos g] at hd
      have hs : scalar ((((s.getD i 0).toNat - 224) * 4096 + ((s.getD (i + 1) 0).toNat - 128) * 64 + ((s.getD (i + 2) 0).toNat - 128) : Nat) : Int) := by unfold scalar; omega
      refine fin _ _ hd hs (by unfold sizeR; rw [if_pos hs, if_neg (by omega), if_neg (by omega), if_pos (by omega)]; rfl) ?_
      rw [take_get s i 3 (by omega)]
      unfold encS
      rw [if_neg (by omega), if_neg (by omega), if_pos (by omega), eb_eq (c := s.getD i 0) (by rw [show (4096 : Int) = ((4096 : Nat) : Int) from rfl, td]; omega), eb_eq (c := s.getD (i + 1) 0) (by rw [show (64 : Int) = ((64 : Nat) : Int) from rfl, td, tm]; omega), eb_eq (c := s.getD (i + 2) 0) (by rw [show (64 : Int) = ((64 : Nat) : Int) from rfl, tm]; omega)]
      rfl
    · exact absurd (by rw [hd, if_neg g]; exact ⟨rfl, rfl⟩) hnb
  · rw [dec4 (by omega) (by omega) r1 r2 r3] at hd
    by_cases g : (4 ≤ s.length - i ∧ (128 ≤ (s.getD (i + 1) 0).toNat ∧ (s.getD (i + 1) 0).toNat < 192) ∧ (128 ≤ (s.getD (i + 2) 0).toNat ∧ (s.getD (i + 2) 0).toNat < 192) ∧ (128 ≤ (s.getD (i + 3) 0).toNat ∧ (s.getD (i + 3) 0).toNat < 192)) ∧ 65536 ≤ ((s.getD i 0).toNat - 240) * 262144 + ((s.getD (i + 1) 0).toNat - 128) * 4096 + ((s.getD (i + 2) 0).toNat - 128) * 64 + ((s.getD (i + 3) 0).toNat - 128) ∧ ((s.getD i 0).toNat - 240) * 262144 + ((s.getD (i + 1) 0).toNat - 128) * 4096 + ((s.getD (i + 2) 0).toNat - 128) * 64 + ((s.getD (i + 3) 0).toNat - 128) ≤ 1114111
    · rw [if_pos g] at hd
      have hs : scalar ((((s.getD i 0).toNat - 240) * 262144 + ((s.getD (i + 1) 0).toNat - 128) * 4096 + ((s.getD (i + 2) 0).toNat - 128) * 64 + ((s.getD (i + 3) 0).toNat - 128) : Nat) : Int) := by unfold scalar; omega
      refine fin _ _ hd hs (by unfold sizeR; rw [if_pos hs, if_neg (by omega), if_neg (by omega), if_neg (by omega)]; rfl) ?_
      rw [take_get s i 4 (by omega)]
      unfold encS
      rw [if_neg (by omega), if_neg (by omega), if_neg (by omega), eb_eq (c := s.getD i 0) (by rw [show (262144 : Int) = ((262144 : Nat) : Int) from rfl, td]; omega), eb_eq (c := s.getD (i + 1) 0) (by rw [show (4096 : Int) = ((4096 : Nat) : Int) from rfl, td, show (64 : Int) = ((64 : Nat) : Int) from rfl, tm]; omega), eb_eq (c := s.getD (i + 2) 0) (by rw [show (64 : Int) = ((64 : Nat) : Int) from rfl, td, tm]; omega), eb_eq (c := s.getD (i + 3) 0) (by rw [show (64 : Int) = ((64 : Nat) : Int) from rfl, tm]; omega)]
      rfl
    · exact absurd (by rw [hd, if_neg g]; exact ⟨rfl, rfl⟩) hnb
end Go.Ut
end
section
namespace Go.Proofs.YtjlbaagnoppfgaaDoor
set_option linter.unusedSectionVars false
set_option linter.unusedSimpArgs false
set_option linter.unusedVariables false
open Go Go.SX Go.Ut Go.RowKit
set_option maxRecDepth 100000
set_option maxHeartbeats 0
section
variable [G : Globs]
theorem w_one (n : Int) : vc Tryd.prog Γ 7 [0, 2] (Tryd.f34.body.getD .skip) (postK Γ [.tmp 2] (fun v => v = .s [eb n])) ⟨argSlots 0 [.i .i64 n], []⟩ := by
  show _ = _
  rfl
theorem s_one (n : Int) : PSpec Tryd.prog 34 [.i .i64 n] (.s [eb n]) :=
  pspec_of_vc Γ_good Tryd.func34 rfl Tryd.call34 Tryd.results34 Tryd.ntmps34 (Nat.le_of_ble_eq_true rfl) (w_one n)
theorem w_CodeOf (n : Int) (h : scalar n) : vc Tryd.prog Γ 70 [0, 2, 3, 4, 10, 24] (Tryd.f10.body.getD .skip) (postK Γ [.tmp 2] (fun v => v = .s (encS n))) ⟨argSlots 0 [.i .i64 n], []⟩ := by
  unfold scalar at h
  have d1 : n.tdiv 64 = n / 64 := Int.tdiv_eq_ediv_of_nonneg h.1
  have d2 : n.tdiv 4096 = n / 4096 := Int.tdiv_eq_ediv_of_nonneg h.1
  have d3 : n.tdiv 262144 = n / 262144 := Int.tdiv_eq_ediv_of_nonneg h.1
  have m1 : n.tmod 64 = n % 64 := Int.tmod_eq_emod_of_nonneg h.1
  have m2 : (n / 64).tmod 64 = (n / 64) % 64 := Int.tmod_eq_emod_of_nonneg (by omega)
  have m3 : (n / 4096).tmod 64 = (n / 4096) % 64 := Int.tmod_eq_emod_of_nonneg (by omega)
  refine And.intro (fun h1 => ?_) (fun h1 => ?_)
  · have h1 : n < 128 := of_decide_eq_true h1
    have e : encS n = [eb n] := by unfold encS; rw [if_pos h1]
    refine Or.inl (Exists.intro _ (And.intro (s_one n) ?_))
    rw [e]
    rfl
  · have h1 : ¬ n < 128 := of_decide_eq_false h1
    refine And.intro (fun h2 => ?_) (fun h2 => ?_)
    · have h2 : n < 2048 := of_decide_eq_true h2
      have e : encS n = [eb (192 + n.tdiv 64)] ++ [eb (128 + n.tmod 64)] := by unfold encS; rw [if_neg h1, if_pos h2]
      refine And.intro (by decide) ?_
      refine And.intro ⟨by rw [d1]; omega, by rw [d1]; omega⟩ ?_
      refine And.intro ⟨by rw [d1]; omega, by rw [d1]; omega⟩ ?_
      refine Or.inl (Exists.intro _ (And.intro (s_one (192 + n.tdiv 64)) ?_))
      refine And.intro (by decide) ?_
      refine And.intro ⟨by rw [m1]; omega, by rw [m1]; omega⟩ ?_
      refine Or.inl (Exists.intro _ (And.intro (s_one (128 + n.tmod 64)) ?_))
      refine And.intro (by show 1 + 1 ≤ maxLen; unfold maxLen; omega) ?_
      rw [e]
      rfl
    · have h2 : ¬ n < 2048 := of_decide_eq_false h2
      refine And.intro (fun h3 => ?_) (fun h3 => ?_)
      · have h3 : n < 65536 := of_decide_eq_true h3
        have e : encS n = ([eb (224 + n.tdiv 4096)] ++ [eb (128 + (n.tdiv 64).tmod 64)]) ++ [eb (128 + n.tmod 64)] := by unfold encS; rw [if_neg h1, if_neg h2, if_pos h3]
        refine And.intro (by decide) ?_
        refine And.intro ⟨by rw [d2]; omega, by rw [d2]; omega⟩ ?_
        refine And.intro ⟨by rw [d2]; omega, by rw [d2]; omega⟩ ?_
        refine Or.inl (Exists.intro _ (And.intro (s_one (224 + n.tdiv 4096)) ?_))
        refine And.intro (by decide) ?_
        refine And.intro ⟨by rw [d1]; omega, by rw [d1]; omega⟩ ?_
        refine And.intro (by decide) ?_
        refine And.intro ⟨by rw [d1, m2]; omega, by rw [d1, m2]; omega⟩ ?_
        refine Or.inl (Exists.intro _ (And.intro (s_one (128 + (n.tdiv 64).tmod 64)) ?_))
        refine And.intro (by show 1 + 1 ≤ maxLen; unfold maxLen; omega) ?_
        refine And.intro (by decide) ?_
        refine And.intro ⟨by rw [m1]; omega, by rw [m1]; omega⟩ ?_
        refine Or.inl (Exists.intro _ (And.intro (s_one (128 + n.tmod 64)) ?_))
        refine And.intro (by show 2 + 1 ≤ maxLen; unfold maxLen; omega) ?_
        rw [e]
        rfl
      · have h3 : ¬ n < 65536 := of_decide_eq_false h3
        have e : encS n = (([eb (240 + n.tdiv 262144)] ++ [eb (128 + (n.tdiv 4096).tmod 64)]) ++ [eb (128 + (n.tdiv 64).tmod 64)]) ++ [eb (128 + n.tmod 64)] := by unfold encS; rw [if_neg h1, if_neg h2, if_neg h3]
        refine And.intro (by decide) ?_
        refine And.intro ⟨by rw [d3]; omega, by rw [d3]; omega⟩ ?_
        refine And.intro ⟨by rw [d3]; omega, by rw [d3]; omega⟩ ?_
        refine Or.inl (Exists.intro _ (And.intro (s_one (240 + n.tdiv 262144)) ?_))
        refine And.intro (by decide) ?_
        refine And.intro ⟨by rw [d2]; omega, by rw [d2]; omega⟩ ?_
        refine And.intro (by decide) ?_
        refine And.intro ⟨by rw [d2, m3]; omega, by rw [d2, m3]; omega⟩ ?_
        refine Or.inl (Exists.intro _ (And.intro (s_one (128 + (n.tdiv 4096).tmod 64)) ?_))
        refine And.intro (by show 1 + 1 ≤ maxLen; unfold maxLen; omega) ?_
        refine And.intro (by decide) ?_
        refine And.intro ⟨by rw [d1]; omega, by rw [d1]; omega⟩ ?_
        refine And.intro (by decide) ?_
        refine And.intro ⟨by rw [d1, m2]; omega, by rw [d1, m2]; omega⟩ ?_
        refine Or.inl (Exists.intro _ (And.intro (s_one (128 + (n.tdiv 64).tmod 64)) ?_))
        refine And.intro (by show 2 + 1 ≤ maxLen; unfold maxLen; omega) ?_
        refine And.intro (by decide) ?_
        refine And.intro ⟨by rw [m1]; omega, by rw [m1]; omega⟩ ?_
        refine Or.inl (Exists.intro _ (And.intro (s_one (128 + n.tmod 64)) ?_))
        refine And.intro (by show 3 + 1 ≤ maxLen; unfold maxLen; omega) ?_
        rw [e]
        rfl
theorem s_CodeOf (n : Int) (h : scalar n) : PSpec Tryd.prog 10 [.i .i64 n] (.s (encS n)) :=
  pspec_of_vc Γ_good Tryd.func10 rfl Tryd.call10 Tryd.results10 Tryd.ntmps10 (Nat.le_of_ble_eq_true rfl) (w_CodeOf n h)
theorem w_BadPlace (s : Str) : vc Tryd.prog Γ 23 [0, 2, 3, 4, 5, 9, 18] (Tryd.f12.body.getD .skip) (postK Γ [.tmp 2] (fun v => v = .i .i64 (bad s))) ⟨argSlots 0 [.s s], []⟩ := by
  refine Exists.intro [] (Exists.intro [] (Exists.intro [] (Exists.intro Nat (Exists.intro (fun i => i ≤ s.length ∧ badFrom s i = bad s) (Exists.intro (fun i => ⟨[(0, .s s), (3, .i .i64 i)], []⟩) (Exists.intro (fun i => s.length - i) (Exists.intro 0 (And.intro ⟨Nat.zero_le _, rfl⟩ (And.intro ?_ ?_)))))))))
  · (repeat' (first | exact trivial | exact Or.inl rfl | exact Or.inr (Or.inl ⟨rfl, _, rfl⟩) | exact Or.inr (Or.inr (Or.inr ⟨_, _, _, rfl, rfl⟩)) | refine And.intro ?_ ?_))
  · rintro i ⟨hi, heq⟩
    intro hml
    unfold maxLen at hml
    refine And.intro (fun hc => ?_) (fun hc => ?_)
    · have hk : i < s.length := by have : (i : Int) < s.length := of_decide_eq_true hc; omega
      rw [bad_step hk] at heq
      have hp := dec_pos s i
      have hle := dec_le hk
      have ht : (s.take (Int.toNat (s.length : Int))).drop (Int.toNat i) = s.drop i := by simp only [Int.toNat_natCast, List.take_length]
      have qc := s_Code (s.drop i)
      unfold codeR at qc
      rw [code_at hk] at qc
      refine And.intro ⟨by omega, by omega, Int.le_refl _⟩ ?_
      rw [ht]
      by_cases hb : (decAt s i).1 = 65533 ∧ (decAt s i).2 = 1
      · rw [if_pos hb] at qc heq
        refine Or.inl (Exists.intro _ (And.intro (qc) ?_))
        (focus (refine And.intro ?_ (fun h9 => ?_); rotate_left 1; (focus (exfalso; revert h9; first | decide | (simp <;> omega) | (intro h9; simp at h9 <;> omega))); refine fun _ => ?_))
        exact congrArg (AV.i .i64) heq
      · rw [if_neg hb] at qc heq
        refine Or.inl (Exists.intro _ (And.intro (qc) ?_))
        refine And.intro (fun h9 => absurd (of_decide_eq_true h9) (by simp only; omega)) (fun _ => ?_)
        refine And.intro ⟨by simp only; omega, by simp only; omega⟩ ?_
        refine Exists.intro [] (Exists.intro (i + (decAt s i).2) (And.intro ⟨hle, heq⟩ (And.intro ?_ ?_)))
        · (repeat' (first | exact trivial | exact Or.inl rfl | exact Or.inr (Or.inl ⟨rfl, _, rfl⟩) | exact Or.inr (Or.inr (Or.inr ⟨_, _, _, rfl, rfl⟩)) | refine And.intro ?_ ?_))
        · show s.length - (i + (decAt s i).2) < s.length - i
          omega
    · have hk : s.length ≤ i := by have : ¬ (i : Int) < s.length := of_decide_eq_false hc; omega
      rw [bad_end hk] at heq
      exact congrArg (AV.i .i64) heq
theorem s_BadPlace (s : Str) : PSpec Tryd.prog 12 [.s s] (.i .i64 (bad s)) :=
  pspec_of_vc Γ_good Tryd.func12 rfl Tryd.call12 Tryd.results12 Tryd.ntmps12 (Nat.le_of_ble_eq_true rfl) (w_BadPlace s)
theorem w_Bad (hu : HasU8) (s : Str) : vc Tryd.prog Γ 25 [0, 2, 3, 4, 6, 8, 9, 10, 14, 23] (Tryd.f14.body.getD .skip) (postK Γ [.tmp 2] (fun v => v = .i .i64 (bad s))) ⟨argSlots 0 [.s s], []⟩ := by
  refine Exists.intro [] (Exists.intro [] (Exists.intro [] (Exists.intro Nat (Exists.intro (fun i => i ≤ s.length ∧ badFrom s i = bad s) (Exists.intro (fun i => ⟨[(0, .s s), (8, .ob 8 8 (.it s i))], []⟩) (Exists.intro (fun i => s.length - i) (Exists.intro 0 (And.intro ⟨Nat.zero_le _, rfl⟩ (And.intro ?_ ?_)))))))))
  · (repeat' (first | exact trivial | exact Or.inl rfl | exact Or.inr (Or.inl ⟨rfl, _, rfl⟩) | exact Or.inr (Or.inr (Or.inr ⟨_, _, _, rfl, rfl⟩)) | refine And.intro ?_ ?_))
  · rintro i ⟨hi, heq⟩
    refine And.intro (fun hk => ?_) (fun hk => ?_)
    · rw [bad_step hk] at heq
      have hp := dec_pos s i
      have hle := dec_le hk
      have ht : (s.take (Int.toNat (s.length : Int))).drop (Int.toNat i) = s.drop i := by simp only [Int.toNat_natCast, List.take_length]
      have qc := s_Next hu (s.drop i)
      unfold codeR at qc
      rw [code_at hk] at qc
      (focus (refine And.intro ?_ (fun h9 => ?_); rotate_left 1; (focus (exfalso; revert h9; first | decide | (simp <;> omega) | (intro h9; simp at h9 <;> omega))); refine fun _ => ?_))
      refine And.intro (fun h1 => ?_) (fun h1 => ?_)
      · have h1 : (decAt s i).1 = 65533 := by have := eq_of_beq h1; omega
        refine And.intro ⟨by omega, by omega, Int.le_refl _⟩ ?_
        rw [ht]
        by_cases hb : (decAt s i).1 = 65533 ∧ (decAt s i).2 = 1
        · rw [if_pos hb] at qc heq
          refine Or.inl (Exists.intro _ (And.intro (qc) ?_))
          (focus (refine And.intro ?_ (fun h9 => ?_); rotate_left 1; (focus (exfalso; revert h9; first | decide | (simp <;> omega) | (intro h9; simp at h9 <;> omega))); refine fun _ => ?_))
          exact congrArg (AV.i .i64) heq
        · rw [if_neg hb] at qc heq
          refine Or.inl (Exists.intro _ (And.intro (qc) ?_))
          have h2 : (decAt s i).2 ≠ 1 := fun e => hb ⟨h1, e⟩
          refine And.intro (fun h9 => absurd (eq_of_beq h9) (by simp only; omega)) (fun _ => ?_)
          refine Exists.intro [] (Exists.intro (i + (decAt s i).2) (And.intro ⟨hle, heq⟩ (And.intro ?_ ?_)))
          · (repeat' (first | exact trivial | exact Or.inl rfl | exact Or.inr (Or.inl ⟨rfl, _, rfl⟩) | exact Or.inr (Or.inr (Or.inr ⟨_, _, _, rfl, rfl⟩)) | refine And.intro ?_ ?_))
          · show s.length - (i + (decAt s i).2) < s.length - i
            omega
      · have h1 : (decAt s i).1 ≠ 65533 := by have := ne_of_beq_false h1; omega
        rw [if_neg (fun h => h1 h.1)] at heq
        refine Exists.intro [] (Exists.intro (i + (decAt s i).2) (And.intro ⟨hle, heq⟩ (And.intro ?_ ?_)))
        · (repeat' (first | exact trivial | exact Or.inl rfl | exact Or.inr (Or.inl ⟨rfl, _, rfl⟩) | exact Or.inr (Or.inr (Or.inr ⟨_, _, _, rfl, rfl⟩)) | refine And.intro ?_ ?_))
        · show s.length - (i + (decAt s i).2) < s.length - i
          omega
    · rw [bad_end (by omega)] at heq
      (focus (refine And.intro (fun h9 => ?_) ?_; (focus (exfalso; revert h9; first | decide | (simp <;> omega) | (intro h9; simp at h9 <;> omega))); refine fun _ => ?_))
      exact congrArg (AV.i .i64) heq
theorem s_Bad (hu : HasU8) (s : Str) : PSpec Tryd.prog 14 [.s s] (.i .i64 (bad s)) :=
  pspec_of_vc Γ_good Tryd.func14 rfl Tryd.call14 Tryd.results14 Tryd.ntmps14 (Nat.le_of_ble_eq_true rfl) (w_Bad hu s)
theorem w_Runes (hu : HasU8) (s : Str) (hs : s.length ≤ 1048576) : vc Tryd.prog Γ 9 [0, 2, 3, 6] (Tryd.f11.body.getD .skip) (postK Γ [.tmp 2, .tmp 3] (fun v => v = if 0 ≤ bad s then .tup [.nl, .i .i64 3] else .tup [.rd .rune (runes s), .i .i64 0])) ⟨argSlots 0 [.s s], []⟩ := by
  refine Or.inl (Exists.intro _ (And.intro (s_Bad hu s) ?_))
  refine And.intro (fun h => ?_) (fun h => ?_)
  · have h : 0 ≤ bad s := of_decide_eq_true h
    rw [if_pos h]
    rfl
  · have h : ¬ 0 ≤ bad s := of_decide_eq_false h
    rw [if_neg h]
    refine And.intro (by omega) ?_
    rfl
theorem s_Runes (hu : HasU8) (s : Str) (hs : s.length ≤ 1048576) : PSpec Tryd.prog 11 [.s s] (if 0 ≤ bad s then .tup [.nl, .i .i64 3] else .tup [.rd .rune (runes s), .i .i64 0]) :=
  pspec_of_vc Γ_good Tryd.func11 rfl Tryd.call11 Tryd.results11 Tryd.ntmps11 (Nat.le_of_ble_eq_true rfl) (w_Runes hu s hs)
theorem w_eqRune (l : List Int) : vc Tryd.prog Γ 26 [0, 1, 4, 5, 10, 12, 13, 14, 24] (Tryd.f15.body.getD .skip) (postK Γ [.tmp 4] (fun v => v = .b true)) ⟨argSlots 0 [.rd .rune l, .rd .rune l], []⟩ := by
  intro _ _
  (focus (refine And.intro (fun h9 => ?_) ?_; (focus (exfalso; revert h9; first | decide | (simp <;> omega) | (intro h9; simp at h9 <;> omega))); refine fun _ => ?_))
  intro hl
  refine Exists.intro [] (Exists.intro [] (Exists.intro [] (Exists.intro Nat (Exists.intro (fun k => k ≤ l.length) (Exists.intro (fun k => ⟨[(0, .rd .rune l), (1, .rd .rune l), (12, .i .i64 l.length), (13, .i .i64 k)], []⟩) (Exists.intro (fun k => l.length - k) (Exists.intro 0 (And.intro (Nat.zero_le _) (And.intro ?_ ?_)))))))))
  · (repeat' (first | exact trivial | exact Or.inl rfl | exact Or.inr (Or.inl ⟨rfl, _, rfl⟩) | exact Or.inr (Or.inr (Or.inr ⟨_, _, _, rfl, rfl⟩)) | refine And.intro ?_ ?_))
  · intro k hk0
    refine And.intro (fun h => ?_) (fun h => ?_)
    · have hk : k < l.length := by have : (k : Int) < l.length := of_decide_eq_true h; omega
      refine Exists.intro [.blk [0, 1, 2, 3, 4, 5, 6, 7, 8]] (And.intro (by kernel_rfl) ?_)
      refine And.intro ⟨by omega, by omega⟩ ?_
      refine And.intro ⟨by omega, by omega⟩ ?_
      (focus (refine And.intro (fun h9 => ?_) ?_; (focus (exfalso; revert h9; first | decide | (simp <;> omega) | (intro h9; simp at h9 <;> omega))); refine fun _ => ?_))
      unfold maxLen at hl
      refine And.intro ⟨by omega, by omega⟩ ?_
      refine Exists.intro [] (Exists.intro (k + 1) (And.intro hk (And.intro ?_ ?_)))
      · (repeat' (first | exact trivial | exact Or.inl rfl | exact Or.inr (Or.inl ⟨rfl, _, rfl⟩) | exact Or.inr (Or.inr (Or.inr ⟨_, _, _, rfl, rfl⟩)) | refine And.intro ?_ ?_))
      · show l.length - (k + 1) < l.length - k
        omega
    · show _ = _
      rfl
theorem s_eqRune (l : List Int) : PSpec Tryd.prog 15 [.rd .rune l, .rd .rune l] (.b true) :=
  pspec_of_vc Γ_good Tryd.func15 rfl Tryd.call15 Tryd.results15 Tryd.ntmps15 (Nat.le_of_ble_eq_true rfl) (w_eqRune l)
theorem bad_range {s : Str} {i : Nat} (h : badFrom s i < 0) (hk : i < s.length) : ¬ ((decAt s i).1 = 65533 ∧ (decAt s i).2 = 1) ∧ badFrom s (i + (decAt s i).2) < 0 := by
  rw [bad_step hk] at h
  by_cases hb : (decAt s i).1 = 65533 ∧ (decAt s i).2 = 1
  · rw [if_pos hb] at h; omega
  · rw [if_neg hb] at h; exact ⟨hb, h⟩
theorem w_Scalars (s : Str) (hs : s.length ≤ 1048576) (hb : bad s < 0) : vc Tryd.prog Γ 22 [0, 2, 3, 4, 5, 8] (Tryd.f16.body.getD .skip) (postK Γ [.tmp 2] (fun v => v = .rd .rune (runes s))) ⟨argSlots 0 [.s s], []⟩ := by
  refine Exists.intro [(3, 30, .rune)] (Exists.intro [] (Exists.intro [] (Exists.intro (List Int × Nat) (Exists.intro (fun x => x.2 ≤ s.length ∧ x.1.length ≤ x.2 ∧ badFrom s x.2 < 0 ∧ x.1 ++ runesFrom s x.2 = runes s) (Exists.intro (fun ⟨out, i⟩ => ⟨[(0, .s (s.drop i)), (3, .vec 30 .rune out)], []⟩) (Exists.intro (fun x => s.length - x.2) (Exists.intro ([], 0) (And.intro ⟨Nat.zero_le _, Nat.le_refl _, hb, rfl⟩ (And.intro ?_ ?_)))))))))
  · (repeat' (first | exact trivial | exact Or.inl rfl | exact Or.inr (Or.inl ⟨rfl, _, rfl⟩) | exact Or.inr (Or.inr (Or.inr ⟨_, _, _, rfl, rfl⟩)) | refine And.intro ?_ ?_))
  · rintro ⟨out, i⟩ ⟨hi, hol, hbi, heq⟩
    simp only at hi hol hbi heq
    have hdl : (s.drop i).length = s.length - i := List.length_drop ..
    intro _
    refine And.intro (fun hc => ?_) (fun hc => ?_)
    · have hk : i < s.length := by have : (0 : Int) < (s.drop i).length := of_decide_eq_true hc; omega
      obtain ⟨hnb, hbn⟩ := bad_range hbi hk
      have hp := dec_pos s i
      have hle := dec_le hk
      have qc := s_Code (s.drop i)
      unfold codeR at qc
      rw [code_at hk, if_neg hnb] at qc
      rw [runes_step hk, ← List.singleton_append, ← List.append_assoc] at heq
      refine Or.inl (Exists.intro _ (And.intro (qc) ?_))
      refine And.intro (by show (out.length + 1) * 4 ≤ _; omega) ?_
      refine And.intro ⟨by simp only; omega, by simp only; omega, Int.le_refl _⟩ ?_
      have ht : ((s.drop i).take (Int.toNat ((s.drop i).length : Int))).drop (Int.toNat ((decAt s i).2 : Int)) = s.drop (i + (decAt s i).2) := by simp only [Int.toNat_natCast, List.take_length, List.drop_drop]
      rw [ht]
      refine Exists.intro [(17, 30)] (Exists.intro (out ++ [((decAt s i).1 : Int)], i + (decAt s i).2) (And.intro ⟨hle, by show (out ++ [_]).length ≤ _; rw [List.length_append, List.length_singleton]; show out.length + 1 ≤ i + (decAt s i).2; omega, hbn, heq⟩ (And.intro ?_ ?_)))
      · (repeat' (first | exact trivial | exact Or.inl rfl | exact Or.inr (Or.inl ⟨rfl, _, rfl⟩) | exact Or.inr (Or.inr (Or.inr ⟨_, _, _, rfl, rfl⟩)) | refine And.intro ?_ ?_))
      · show s.length - (i + (decAt s i).2) < s.length - i
        omega
    · have hk : s.length ≤ i := by have : ¬ (0 : Int) < (s.drop i).length := of_decide_eq_false hc; omega
      rw [runes_end hk, List.append_nil] at heq
      rw [← heq]
      show _ = _
      rfl
theorem s_Scalars (s : Str) (hs : s.length ≤ 1048576) (hb : bad s < 0) : PSpec Tryd.prog 16 [.s s] (.rd .rune (runes s)) :=
  pspec_of_vc Γ_good Tryd.func16 rfl Tryd.call16 Tryd.results16 Tryd.ntmps16 (Nat.le_of_ble_eq_true rfl) (w_Scalars s hs hb)
end
end Go.Proofs.YtjlbaagnoppfgaaDoor
end
section
namespace Go.Proofs.YtjlbaagnoppfgaaDoor
set_option linter.unusedSectionVars false
set_option linter.unusedSimpArgs false
set_option linter.unusedVariables false
open Go Go.SX Go.Ck Go.Vl Go.Ut
set_option maxRecDepth 100000
set_option maxHeartbeats 1000000
section
variable [G : Globs]
/-- a fraction's parts, by the document -/
def partsR (f : Int) : AV := if (f / 4503599627370496) % 2048 = 2047 then .tup [.i .u64 0, .i .i64 0, .i .i64 (if f % 4503599627370496 = 0 then 1 else 2)] else if (f / 4503599627370496) % 2048 = 0 then .tup [.i .u64 (f % 4503599627370496), .i .i64 (-1074), .i .i64 0] else .tup [.i .u64 (f % 4503599627370496 + 4503599627370496), .i .i64 ((f / 4503599627370496) % 2048 - 1075), .i .i64 0]
theorem w_floatParts (f : Int) (h0 : 0 ≤ f) (h1 : f ≤ 18446744073709551615) : vc Tryd.prog Γ 28 [0, 2, 3, 4, 5, 6, 18, 20, 22] (Tryd.f51.body.getD .skip) (postK Γ [.tmp 2, .tmp 3, .tmp 4] (fun v => v = partsR f)) ⟨argSlots 0 [.i .u64 f], []⟩ := by
  have hq : f.tdiv 4503599627370496 = f / 4503599627370496 := Int.tdiv_eq_ediv_of_nonneg h0
  have hm : f.tmod 4503599627370496 = f % 4503599627370496 := Int.tmod_eq_emod_of_nonneg h0
  have hm2 : (f / 4503599627370496).tmod 2048 = (f / 4503599627370496) % 2048 := Int.tmod_eq_emod_of_nonneg (by omega)
  have hw : IntKind.i64.wrap ((f.tdiv 4503599627370496).tmod 2048) = (f / 4503599627370496) % 2048 := by
    rw [hq, hm2]; exact IntWalk.i64_in _ ⟨by omega, by omega⟩
  have hw2 : IntKind.u64.wrap (f.tmod 4503599627370496 + 4503599627370496) = f % 4503599627370496 + 4503599627370496 := by
    rw [hm]; exact IntWalk.u64_in _ ⟨by omega, by omega⟩
  refine And.intro (by decide) ?_
  refine And.intro (by decide) ?_
  refine And.intro ⟨by omega, by omega⟩ ?_
  refine And.intro (by decide) ?_
  refine And.intro (fun h => ?_) (fun h => ?_)
  · have h : (f / 4503599627370496) % 2048 = 2047 := by rw [← hw]; exact eq_of_beq h
    refine And.intro (fun h2 => ?_) (fun h2 => ?_)
    · have h2 : f % 4503599627370496 = 0 := by rw [← hm]; exact eq_of_beq h2
      show AV.tup [.i .u64 0, .i .i64 0, .i .i64 1] = _
      rw [partsR, if_pos h, if_pos h2]
    · have h2 : ¬ f % 4503599627370496 = 0 := by rw [← hm]; exact ne_of_beq_false h2
      refine And.intro (fun _ => ?_) (fun h3 => absurd (hw.trans h) (ne_of_beq_false h3))
      show AV.tup [.i .u64 0, .i .i64 0, .i .i64 2] = _
      rw [partsR, if_pos h, if_neg h2]
  · have h : ¬ (f / 4503599627370496) % 2048 = 2047 := by rw [← hw]; exact ne_of_beq_false h
    refine And.intro (fun h2 => Bool.noConfusion h2) (fun _ => ?_)
    refine And.intro (fun h3 => absurd (hw.symm.trans (eq_of_beq h3)) h) (fun _ => ?_)
    refine And.intro (fun h2 => ?_) (fun h2 => ?_)
    · have h2 : (f / 4503599627370496) % 2048 = 0 := by rw [← hw]; exact eq_of_beq h2
      show AV.tup [.i .u64 (f.tmod 4503599627370496), .i .i64 (-1074), .i .i64 0] = _
      rw [partsR, if_neg h, if_pos h2, hm]
    · have h2 : ¬ (f / 4503599627370496) % 2048 = 0 := by rw [← hw]; exact ne_of_beq_false h2
      refine And.intro ⟨by omega, by omega⟩ ?_
      show AV.tup [.i .u64 (IntKind.u64.wrap (f.tmod 4503599627370496 + 4503599627370496)), .i .i64 (IntKind.i64.wrap ((f.tdiv 4503599627370496).tmod 2048) - 1075), .i .i64 0] = _
      rw [partsR, if_neg h, if_neg h2, hw2, hw]
theorem s_floatParts (f : Int) (h0 : 0 ≤ f) (h1 : f ≤ 18446744073709551615) : PSpec Tryd.prog 51 [.i .u64 f] (partsR f) :=
  pspec_of_vc Γ_good Tryd.func51 rfl Tryd.call51 Tryd.results51 Tryd.ntmps51 (Nat.le_of_ble_eq_true rfl) (w_floatParts f h0 h1)
theorem partsR_eq (f : Int) : ∃ x y z, partsR f = .tup [.i .u64 x, .i .i64 y, .i .i64 z] ∧ (z = 2 ↔ ((f / 4503599627370496) % 2048 = 2047 ∧ f % 4503599627370496 ≠ 0)) := by
  unfold partsR
  split
  · rename_i h
    refine ⟨_, _, _, rfl, ?_⟩
    split <;> omega
  · split
    · exact ⟨_, _, _, rfl, by omega⟩
    · exact ⟨_, _, _, rfl, by omega⟩
theorem w_oneFault (a : Val) (h0 : 0 ≤ a.f) (h1 : a.f ≤ 18446744073709551615) : VCs Tryd.prog Γ 147 [1, 2, 5, 6, 7, 8, 16, 44, 84, 98, 114, 118, 120, 121, 122, 123, 130, 134, 143] (Tryd.f36.body.getD .skip) (postK Γ [.tmp 2] (fun v => v = .i .i64 (docF a))) ⟨argSlots 0 [.agg (encVal a)], []⟩ := by
  refine VCs.seq Γ_good ?_
  refine VCs.cut Γ_good Unit (fun _ => ¬ (a.kind < 0 ∨ 6 < a.kind)) (fun _ => ⟨[(1, .pt 1 0), (2, .i .i64 0)], [(1, encVal a)]⟩) ?_ ?_
  · (repeat' (first | (refine And.intro (fun h => ?_) (fun h => ?_) <;> (try simp [-List.getD_eq_getElem?_getD, -Int.pred_toNat] at h) <;> (try (exfalso; omega))) | (refine And.intro (rng64 (by omega) (by omega)) ?_) | (refine And.intro ⟨by omega, by omega⟩ ?_) | (refine And.intro ⟨by omega, by omega, by omega⟩ ?_) | (intro _)))
    all_goals first | (exact congrArg (AV.i .i64) (docF_kind (by unfold kindBad oddF; omega))) | (refine Exists.intro () (And.intro (by omega) ?_); (repeat' (first | exact trivial | exact Or.inl rfl | exact Or.inr (Or.inl ⟨rfl, _, rfl⟩) | exact Or.inr (Or.inr (Or.inr ⟨_, _, _, rfl, rfl⟩)) | refine And.intro ?_ ?_)))
  intro _ k1
  refine VCs.cut Γ_good Unit (fun _ => ¬ ((a.kind ≠ 1 ∧ a.kind ≠ 2 ∧ a.n ≠ 0) ∨ (a.kind = 1 ∧ a.n ≠ 0 ∧ a.n ≠ 1))) (fun _ => ⟨[(1, .pt 1 0), (2, .i .i64 0)], [(1, encVal a)]⟩) ?_ ?_
  · (repeat' (first | (refine And.intro (fun h => ?_) (fun h => ?_) <;> (try simp [-List.getD_eq_getElem?_getD, -Int.pred_toNat] at h) <;> (try (exfalso; omega))) | (refine And.intro (rng64 (by omega) (by omega)) ?_) | (refine And.intro ⟨by omega, by omega⟩ ?_) | (refine And.intro ⟨by omega, by omega, by omega⟩ ?_) | (intro _)))
    all_goals first | (exact congrArg (AV.i .i64) (docF_kind (by unfold kindBad oddF; omega))) | (refine Exists.intro () (And.intro (by omega) ?_); (repeat' (first | exact trivial | exact Or.inl rfl | exact Or.inr (Or.inl ⟨rfl, _, rfl⟩) | exact Or.inr (Or.inr (Or.inr ⟨_, _, _, rfl, rfl⟩)) | refine And.intro ?_ ?_)))
  intro _ k2
  refine VCs.cut Γ_good Unit (fun _ => ¬ ((a.kind ≠ 3 ∧ a.f ≠ 0) ∨ (a.kind ≠ 4 ∧ a.s ≠ []) ∨ (a.kind ≠ 5 ∧ 0 < a.l.length) ∨ (a.kind ≠ 6 ∧ 0 < a.e.length))) (fun _ => ⟨[(1, .pt 1 0), (2, .i .i64 0)], [(1, encVal a)]⟩) ?_ ?_
  · (repeat' (first | (refine And.intro (fun h => ?_) (fun h => ?_) <;> (try simp [-List.getD_eq_getElem?_getD, -Int.pred_toNat] at h) <;> (try (exfalso; omega))) | (refine And.intro (rng64 (by omega) (by omega)) ?_) | (refine And.intro ⟨by omega, by omega⟩ ?_) | (refine And.intro ⟨by omega, by omega, by omega⟩ ?_) | (intro _)))
    all_goals first | (exact congrArg (AV.i .i64) (docF_kind (by unfold kindBad oddF; grind))) | (refine Exists.intro () (And.intro (by grind) ?_); (repeat' (first | exact trivial | exact Or.inl rfl | exact Or.inr (Or.inl ⟨rfl, _, rfl⟩) | exact Or.inr (Or.inr (Or.inr ⟨_, _, _, rfl, rfl⟩)) | refine And.intro ?_ ?_)))
  intro _ k3
  obtain ⟨x, y, z, hp, hz⟩ := partsR_eq a.f
  have hs := s_floatParts a.f h0 h1
  rw [hp] at hs
  refine VCs.cut Γ_good Unit (fun _ => ¬ oddF a.f) (fun _ => ⟨[(1, .pt 1 0), (2, .i .i64 0)], [(1, encVal a)]⟩) ?_ ?_
  · refine Or.inl (Exists.intro _ (And.intro (hs) ?_))
    (repeat' (first | (refine And.intro (fun h => ?_) (fun h => ?_) <;> (try simp [-List.getD_eq_getElem?_getD, -Int.pred_toNat] at h) <;> (try (exfalso; omega))) | (refine And.intro (rng64 (by omega) (by omega)) ?_) | (refine And.intro ⟨by omega, by omega⟩ ?_) | (refine And.intro ⟨by omega, by omega, by omega⟩ ?_) | (intro _)))
    all_goals first | (exact congrArg (AV.i .i64) (docF_kind (by unfold kindBad oddF; omega))) | (refine Exists.intro () (And.intro (by unfold oddF; omega) ?_); (repeat' (first | exact trivial | exact Or.inl rfl | exact Or.inr (Or.inl ⟨rfl, _, rfl⟩) | exact Or.inr (Or.inr (Or.inr ⟨_, _, _, rfl, rfl⟩)) | refine And.intro ?_ ?_)))
  intro _ k4
  have hk : ¬ kindBad a := by unfold kindBad; grind
  refine VCs.cut Γ_good Unit (fun _ => ¬ (4000 < a.s.length ∨ 200 < a.l.length ∨ 200 < a.e.length)) (fun _ => ⟨[(1, .pt 1 0), (2, .i .i64 0)], [(1, encVal a)]⟩) ?_ ?_
  · (repeat' (first | (refine And.intro (fun h => ?_) (fun h => ?_) <;> (try simp [-List.getD_eq_getElem?_getD, -Int.pred_toNat] at h) <;> (try (exfalso; omega))) | (refine And.intro (rng64 (by omega) (by omega)) ?_) | (refine And.intro ⟨by omega, by omega⟩ ?_) | (refine And.intro ⟨by omega, by omega, by omega⟩ ?_) | (intro _)))
    all_goals first | (exact congrArg (AV.i .i64) (docF_large hk (by omega))) | (refine Exists.intro () (And.intro (by omega) ?_); (repeat' (first | exact trivial | exact Or.inl rfl | exact Or.inr (Or.inl ⟨rfl, _, rfl⟩) | exact Or.inr (Or.inr (Or.inr ⟨_, _, _, rfl, rfl⟩)) | refine And.intro ?_ ?_)))
  intro _ k5
  refine VCs.cut Γ_good Unit (fun _ => ¬ 0 ≤ bad a.s) (fun _ => ⟨[(1, .pt 1 0), (2, .i .i64 0)], [(1, encVal a)]⟩) ?_ ?_
  · refine Or.inl (Exists.intro _ (And.intro (s_BadPlace a.s) ?_))
    (repeat' (first | (refine And.intro (fun h => ?_) (fun h => ?_) <;> (try simp [-List.getD_eq_getElem?_getD, -Int.pred_toNat] at h) <;> (try (exfalso; omega))) | (refine And.intro (rng64 (by omega) (by omega)) ?_) | (refine And.intro ⟨by omega, by omega⟩ ?_) | (refine And.intro ⟨by omega, by omega, by omega⟩ ?_) | (intro _)))
    all_goals first | (exact congrArg (AV.i .i64) (docF_text hk k5 (by omega))) | (refine Exists.intro () (And.intro (by omega) ?_); (repeat' (first | exact trivial | exact Or.inl rfl | exact Or.inr (Or.inl ⟨rfl, _, rfl⟩) | exact Or.inr (Or.inr (Or.inr ⟨_, _, _, rfl, rfl⟩)) | refine And.intro ?_ ?_)))
  intro _ k6
  refine VCs.of_vc Γ_good ?_
  rw [docF_ent hk k5 k6]
  intro hl
  refine Exists.intro [] (Exists.intro [] (Exists.intro [] (Exists.intro Nat (Exists.intro (fun i => i ≤ a.e.length ∧ entF none a.e = entF (keyAt a.e i) (a.e.drop i)) (Exists.intro (fun i => ⟨[(6, .s (lastK a.e i)), (120, .rd .ent a.e), (121, .i .i64 a.e.length), (122, .i .i64 i)], []⟩) (Exists.intro (fun i => a.e.length - i) (Exists.intro 0 (And.intro ⟨Nat.zero_le _, rfl⟩ (And.intro ?_ ?_)))))))))
  · (repeat' (first | exact trivial | exact Or.inl rfl | exact Or.inr (Or.inl ⟨rfl, _, rfl⟩) | exact Or.inr (Or.inr (Or.inr ⟨_, _, _, rfl, rfl⟩)) | refine And.intro ?_ ?_))
  · rintro i ⟨hi, he⟩
    refine And.intro (fun hz => ?_) (fun hz => ?_)
    · have hi := ltD hz
      have hg := getI (τ := .ent) hi
      refine And.intro ⟨by omega, by omega⟩ ?_
      rw [hg]
      intro _
      refine And.intro (fun hq => ?_) (fun hq => ?_)
      · have hk := keyF_large (p := keyAt a.e i) (k := a.e[i].1) (by have := of_decide_eq_true hq; omega)
        rw [entF_stop hi (by rw [hk]; decide), hk] at he
        exact congrArg (AV.i .i64) he.symm
      have n1 : ¬ 100 < a.e[i].1.length := by have := of_decide_eq_false hq; omega
      refine Or.inl (Exists.intro _ (And.intro (s_BadPlace a.e[i].1) ?_))
      refine And.intro (fun hq => ?_) (fun hq => ?_)
      · have hk := keyF_text (p := keyAt a.e i) (k := a.e[i].1) n1 (of_decide_eq_true hq)
        rw [entF_stop hi (by rw [hk]; decide), hk] at he
        exact congrArg (AV.i .i64) he.symm
      have n2 : ¬ 0 ≤ bad a.e[i].1 := of_decide_eq_false hq
      have hlen := len_le hl
      refine And.intro (fun hq => ?_) (fun hq => ?_)
      · have h0 : 0 < i := by have := of_decide_eq_true hq; omega
        refine And.intro (fun hq => ?_) (fun hq => ?_)
        · have hk := keyF_order (e := a.e) n1 n2 h0 (by simpa using (show (!Op.bytesLess (lastK a.e i) a.e[i].1) = true from hq))
          rw [entF_stop hi (by rw [hk]; decide), hk] at he
          exact congrArg (AV.i .i64) he.symm
        · have hk := keyF_ok (e := a.e) n1 n2 (fun _ => by simpa using (show (!Op.bytesLess (lastK a.e i) a.e[i].1) = false from hq))
          rw [entF_go hi hk] at he
          (refine And.intro (rng64 (by omega) (by omega)) ?_)
          refine Exists.intro [] (Exists.intro (i + 1) (And.intro ⟨hi, he⟩ (And.intro ?_ ?_)))
          · (repeat' (first | exact trivial | exact Or.inl rfl | exact Or.inl ((congrArg AV.s (lastK_succ hi).symm)) | refine And.intro ?_ ?_))
          · show a.e.length - (i + 1) < a.e.length - i
            omega
      · have h0 : ¬ 0 < i := by have := of_decide_eq_false hq; omega
        refine And.intro (fun hq => Bool.noConfusion hq) (fun _ => ?_)
        have hk := keyF_ok (e := a.e) n1 n2 (fun h => absurd h h0)
        rw [entF_go hi hk] at he
        (refine And.intro (rng64 (by omega) (by omega)) ?_)
        refine Exists.intro [] (Exists.intro (i + 1) (And.intro ⟨hi, he⟩ (And.intro ?_ ?_)))
        · (repeat' (first | exact trivial | exact Or.inl rfl | exact Or.inl ((congrArg AV.s (lastK_succ hi).symm)) | refine And.intro ?_ ?_))
        · show a.e.length - (i + 1) < a.e.length - i
          omega
    · have hi := geD hi hz
      rw [entF_end _ (by omega)] at he
      exact congrArg (AV.i .i64) he.symm
theorem s_oneFault (a : Val) (h0 : 0 ≤ a.f) (h1 : a.f ≤ 18446744073709551615) : PSpec Tryd.prog 36 [.agg (encVal a)] (.i .i64 (docF a)) :=
  pspec_of_VCs Γ_good Tryd.func36 rfl Tryd.call36 Tryd.results36 Tryd.ntmps36 (Nat.le_of_ble_eq_true rfl) (w_oneFault a h0 h1) Γ_good
end
end Go.Proofs.YtjlbaagnoppfgaaDoor
end
section
namespace Go.SX
set_option linter.unusedSectionVars false
variable [Globs]
open Go.RowKit Go.WideShapes Go.ChangeShapes Go.Deep
theorem mapM_at {α β : Type} {f : α → Option β} : ∀ {l : List α} {r : List β}, l.mapM f = some r → r.length = l.length ∧ ∀ (j : Nat) x, l[j]? = some x → f x = r[j]? := by
  intro l
  induction l with
  | nil => intro r h; simp at h; subst h; exact ⟨rfl, fun j x h => by simp at h⟩
  | cons a l ih =>
    intro r h
    simp only [List.mapM_cons, Option.bind_eq_bind, Option.bind_eq_some_iff] at h
    obtain ⟨b, hb, bs, hbs, h⟩ := h
    have h : b :: bs = r := by injection h
    subst h
    obtain ⟨h1, h2⟩ := ih hbs
    refine ⟨by simp [h1], fun j x hx => ?_⟩
    cases j with
    | zero => simp at hx; subst hx; simpa using hb
    | succ j => simpa using h2 j x (by simpa using hx)
section
variable {H : Type} {encH : TypeId × Value → H} {P : Program} {W : World} {sp : Nat → Bool} {hd : Bool} {O : Nat → Prop}

theorem cells_get {w : World} {base : Nat} {a : Addr} {n : Nat} {cs : List Value} (h : w.cells? base a n = some cs) : cs.length = n ∧ ∀ (j : Nat) v, cs[j]? = some v → w.cell? (a.add j) = some v := by
  unfold World.cells? at h
  split at h
  · obtain ⟨h1, h2⟩ := mapM_at h
    rw [List.length_range] at h1
    refine ⟨h1, fun j v hv => ?_⟩
    have hj : j < n := by rw [← h1]; exact (List.getElem?_eq_some_iff.1 hv).1
    rw [h2 j j (by simp [hj]), hv]
  · cases h
theorem add_of {a : Addr} {n : Nat} (h : (a.add n).spot = none) : a.add n = ⟨a.block, a.off + n, none⟩ := by
  unfold Addr.add at h ⊢
  split
  · rename_i h0
    rw [if_pos h0] at h
    obtain ⟨b, o, s⟩ := a
    simp only at h
    subst h h0
    rfl
  · rfl
theorem arg_int {t : TypeId} {k : IntKind} {fuel : Nat} {cs : List Value} {x : DataW H × List MemPlace} (ht : P.underlying t = some (.int k)) (h : DataW.trod encH P W 0 sp hd fuel t cs = some x) : ∃ n, cs = [.int k n] ∧ Im O W (.i k n) (.int k n) ∧ (Lit.int k n).wf = true := by
  obtain ⟨n, h1, _, h2⟩ := DataW.trod_int ht h
  exact ⟨n, h1, .i k n, h2⟩
theorem arg_str {t : TypeId} {fuel : Nat} {cs : List Value} {x : DataW H × List MemPlace} (ht : P.underlying t = some .string) (h : DataW.trod encH P W 0 sp hd fuel t cs = some x) : ∃ (l : Str) (v : Value), cs = [v] ∧ Im O W (.s l) v := by
  obtain ⟨s, h1, _, h2⟩ := DataW.trod_string ht h
  refine ⟨s.data.toList, .string s, h1, ?_⟩
  have := Im.s (O := O) (w := W) s.data.toList (by rw [Array.length_toList]; exact h2)
  simpa using this
theorem arg_bool {t : TypeId} {fuel : Nat} {cs : List Value} {x : DataW H × List MemPlace} (ht : P.underlying t = some .bool) (h : DataW.trod encH P W 0 sp hd fuel t cs = some x) : ∃ b, cs = [.bool b] ∧ Im O W (.b b) (.bool b) := by
  obtain ⟨b, h1, _⟩ := DataW.trod_bool ht h
  exact ⟨b, h1, .b b⟩
/-- a slice, by its elements -/
theorem arg_slice {t e : TypeId} {τ : Ty} (hO : ∀ k, ¬ O k) (ht : P.underlying t = some (.slice e)) (hc : P.cellsOf e = esz τ)
    (hel : ∀ (n : Nat) (cs : List Value) (x : DataW H × List MemPlace), DataW.trod encH P W 0 sp hd n e cs = some x → ∃ y : den τ, All2 (Im O W) (enc τ y) cs)
    {fuel : Nat} {cs : List Value} {x : DataW H × List MemPlace} (h : DataW.trod encH P W 0 sp hd fuel t cs = some x) : ∃ (l : List (den τ)) (v : Value), cs = [v] ∧ Im O W (.rd τ l) v := by
  rcases open_slice ht h with ⟨rfl, _⟩ | ⟨a, len, cap, m, n, D, Pl, rfl, hb, hlc, hcm, hm, _, hall⟩
  · exact ⟨[], _, rfl, .rd0 τ none 0 (Nat.zero_le _)⟩
  have hlm : len ≤ m := by rw [hm]; split <;> omega
  by_cases h0 : len = 0
  · subst h0; exact ⟨[], _, rfl, .rd0 τ _ _ hcm⟩
  have hch : ∀ i, i < len → ∃ (y : den τ) (us : List Value), All2 (Im O W) (enc τ y) us ∧ us.length = esz τ ∧ ∀ (j : Nat) v, us[j]? = some v → W.cell? ⟨a.block, a.off + (i * esz τ + j), none⟩ = some v := by
    intro i hi
    obtain ⟨us, h1, h2⟩ := hall i (by omega)
    obtain ⟨y, hy⟩ := hel _ _ _ h2
    rw [hc] at h1
    obtain ⟨h3, h4⟩ := cells_get h1
    refine ⟨y, us, hy, h3, fun j v hv => ?_⟩
    have h5 := h4 j v hv
    have hs : ∀ j v, us[j]? = some v → ((a.add (i * esz τ)).add j).spot = none := fun j v hv => World.cell?_spot (h4 j v hv)
    have hpos := esz_pos τ
    have h00 : (a.add (i * esz τ)).spot = none := by
      have := hs 0 (us[0]'(by omega)) (List.getElem?_eq_getElem _)
      simpa [Addr.add] using this
    have e1 := add_of h00
    rw [e1] at h5
    rw [add_none] at h5
    rw [← h5, Nat.add_assoc]
  have ys : ∃ l : List (den τ), l.length = len ∧ ∀ (i : Nat) y, l[i]? = some y → ∃ us : List Value, All2 (Im O W) (enc τ y) us ∧ ∀ (j : Nat) v, us[j]? = some v → W.cell? ⟨a.block, a.off + (i * esz τ + j), none⟩ = some v := by
    have hch' := fun (i : Fin len) => hch i.1 i.2
    refine ⟨List.ofFn fun i : Fin len => Classical.choose (hch' i), by simp, fun i y hy => ?_⟩
    have hi : i < len := by have := (List.getElem?_eq_some_iff.1 hy).1; simpa using this
    rw [List.getElem?_ofFn, dif_pos hi] at hy
    injection hy with hy
    subst hy
    obtain ⟨us, h1, _, h2⟩ := Classical.choose_spec (hch' ⟨i, hi⟩)
    exact ⟨us, h1, h2⟩
  obtain ⟨l, hll, hl⟩ := ys
  refine ⟨l, _, rfl, ?_⟩
  have hane : a = ⟨a.block, a.off, none⟩ := by
    obtain ⟨y, us, _, h3, h4⟩ := hch 0 (by omega)
    obtain ⟨us', h1, h2⟩ := hall 0 (by omega)
    have hpos := esz_pos τ
    rw [hc] at h1
    obtain ⟨h5, h6⟩ := cells_get h1
    have := World.cell?_spot (h6 0 (us'[0]'(by omega)) (List.getElem?_eq_getElem _))
    simp [Addr.add] at this
    obtain ⟨b, o, s⟩ := a
    simp only at this
    subst this
    rfl
  rw [hane, ← hll]
  refine .rd τ l a.block a.off cap (fun i j => (W.cell? ⟨a.block, a.off + (i * esz τ + j), none⟩).getD undef) (hO _) (by omega) hcm (fun e => h0 (by rw [← hll, e]; rfl)) (fun i y j av hy hav => ?_) (fun i y j av hy hav => ?_)
  · obtain ⟨us, h1, h2⟩ := hl i y hy
    have hj : j < us.length := by rw [← h1.1]; exact (List.getElem?_eq_some_iff.1 hav).1
    rw [h2 j _ (List.getElem?_eq_getElem hj)]; rfl
  · obtain ⟨us, h1, h2⟩ := hl i y hy
    have hj : j < us.length := by rw [← h1.1]; exact (List.getElem?_eq_some_iff.1 hav).1
    rw [h2 j _ (List.getElem?_eq_getElem hj)]
    exact h1.2 j av _ hav (List.getElem?_eq_getElem hj)
/-- a struct of cells: each field's one -/
theorem one_field {t : TypeId} {fs : Array Field} {fuel : Nat} {cs : List Value} {x : DataW H × List MemPlace} (ht : P.underlying t = some (.struct fs)) (h : DataW.trod encH P W 0 sp hd fuel t cs = some x) :
    cs.length = P.cellsOf t ∧ ∃ n, ∀ (i : Nat) (f : Field), fs[i]? = some f → ∃ y, DataW.trod encH P W 0 sp hd n f.type ((cs.drop f.offset).take (P.cellsOf f.type)) = some y := by
  obtain ⟨xs, n, _, _, h1, h2, h3⟩ := DataW.trod_struct ht h
  refine ⟨h1, n, fun i f hf => ?_⟩
  have hi : i < xs.length := by rw [h2]; exact (Array.getElem?_eq_some_iff.1 hf).1
  rw [h3 i f hf, List.getElem?_eq_getElem hi]
  exact ⟨_, rfl⟩
theorem arg_part {t : TypeId} {f0 f1 f2 : Field} {fuel : Nat} {cs : List Value} {x : DataW H × List MemPlace} (ht : P.underlying t = some (.struct #[f0, f1, f2])) (hC : P.cellsOf t = 3)
    (ho : f0.offset = 0 ∧ f1.offset = 1 ∧ f2.offset = 2) (hc : P.cellsOf f0.type = 1 ∧ P.cellsOf f1.type = 1 ∧ P.cellsOf f2.type = 1)
    (h0 : P.underlying f0.type = some (.int .i64)) (h1 : P.underlying f1.type = some (.int .i64)) (h2 : P.underlying f2.type = some .string)
    (h : DataW.trod encH P W 0 sp hd fuel t cs = some x) : ∃ y : den .part, All2 (Im O W) (enc .part y) cs := by
  obtain ⟨hl, n, hf⟩ := one_field ht h
  rw [hC] at hl
  match cs, hl with
  | [u0, u1, u2], _ =>
    obtain ⟨_, g0⟩ := hf 0 f0 rfl
    obtain ⟨_, g1⟩ := hf 1 f1 rfl
    obtain ⟨_, g2⟩ := hf 2 f2 rfl
    rw [ho.1, hc.1] at g0
    rw [ho.2.1, hc.2.1] at g1
    rw [ho.2.2, hc.2.2] at g2
    obtain ⟨a, e0, i0, _⟩ := arg_int (O := O) h0 g0
    obtain ⟨b, e1, i1, _⟩ := arg_int (O := O) h1 g1
    obtain ⟨s, v, e2, i2⟩ := arg_str (O := O) h2 g2
    simp at e0 e1 e2
    subst e0 e1 e2
    exact ⟨⟨a, b, s⟩, All2.cons i0 (All2.cons i1 (All2.cons i2 (All2.nil _)))⟩
theorem slice_shape {t e : TypeId} {fuel : Nat} {cs : List Value} {x : DataW H × List MemPlace} (ht : P.underlying t = some (.slice e)) (h : DataW.trod encH P W 0 sp hd fuel t cs = some x) : ∃ u, cs = [u] ∧ u.oneCell' = true := by
  rcases open_slice ht h with ⟨rfl, _⟩ | ⟨a, len, cap, m, n, D, Pl, rfl, _⟩
  · exact ⟨_, rfl, rfl⟩
  · exact ⟨_, rfl, rfl⟩
/-- a node, of whose kids nothing is asked -/
theorem arg_node {t e : TypeId} {f0 f1 f2 f3 : Field} {fuel : Nat} {cs : List Value} {x : DataW H × List MemPlace} (ht : P.underlying t = some (.struct #[f0, f1, f2, f3])) (hC : P.cellsOf t = 4)
    (ho : f0.offset = 0 ∧ f1.offset = 1 ∧ f2.offset = 2 ∧ f3.offset = 3) (hc : P.cellsOf f0.type = 1 ∧ P.cellsOf f1.type = 1 ∧ P.cellsOf f2.type = 1 ∧ P.cellsOf f3.type = 1)
    (h0 : P.underlying f0.type = some (.int .i64)) (h1 : P.underlying f1.type = some (.int .i64)) (h2 : P.underlying f2.type = some (.int .i64)) (h3 : P.underlying f3.type = some (.slice e))
    (h : DataW.trod encH P W 0 sp hd fuel t cs = some x) : ∃ (a b c : Int) (u : Value), cs = [.int .i64 a, .int .i64 b, .int .i64 c, u] ∧ u.oneCell' = true ∧ (Lit.int .i64 c).wf = true := by
  obtain ⟨hl, n, hf⟩ := one_field ht h
  rw [hC] at hl
  match cs, hl with
  | [u0, u1, u2, u3], _ =>
    obtain ⟨_, g0⟩ := hf 0 f0 rfl
    obtain ⟨_, g1⟩ := hf 1 f1 rfl
    obtain ⟨_, g2⟩ := hf 2 f2 rfl
    obtain ⟨_, g3⟩ := hf 3 f3 rfl
    rw [ho.1, hc.1] at g0
    rw [ho.2.1, hc.2.1] at g1
    rw [ho.2.2.1, hc.2.2.1] at g2
    rw [ho.2.2.2, hc.2.2.2] at g3
    obtain ⟨a, e0, _, _⟩ := arg_int (O := fun _ => False) h0 g0
    obtain ⟨b, e1, _, _⟩ := arg_int (O := fun _ => False) h1 g1
    obtain ⟨c, e2, _, w2⟩ := arg_int (O := fun _ => False) h2 g2
    obtain ⟨u, e3, o3⟩ := slice_shape h3 g3
    simp at e0 e1 e2 e3
    subst e0 e1 e2 e3
    exact ⟨a, b, c, _, rfl, o3, w2⟩
end
theorem wf_i64 {n : Int} (h : (Lit.int .i64 n).wf = true) : (-9223372036854775808 : Int) ≤ n ∧ n ≤ (9223372036854775807 : Int) := by
  simp only [Lit.wf, Bool.and_eq_true, decide_eq_true_eq] at h; exact h
theorem wf_i32 {n : Int} (h : (Lit.int .i32 n).wf = true) : (-2147483648 : Int) ≤ n ∧ n ≤ (2147483647 : Int) := by
  simp only [Lit.wf, Bool.and_eq_true, decide_eq_true_eq] at h; exact h
theorem wf_u8 {n : Int} (h : (Lit.int .u8 n).wf = true) : (0 : Int) ≤ n ∧ n ≤ (255 : Int) := by
  simp only [Lit.wf, Bool.and_eq_true, decide_eq_true_eq] at h; exact h
theorem wf_u32 {n : Int} (h : (Lit.int .u32 n).wf = true) : (0 : Int) ≤ n ∧ n ≤ (4294967295 : Int) := by
  simp only [Lit.wf, Bool.and_eq_true, decide_eq_true_eq] at h; exact h
theorem wf_u64 {n : Int} (h : (Lit.int .u64 n).wf = true) : (0 : Int) ≤ n ∧ n ≤ (18446744073709551615 : Int) := by
  simp only [Lit.wf, Bool.and_eq_true, decide_eq_true_eq] at h; exact h
end Go.SX
end
section
namespace Go.SX
set_option linter.unusedSectionVars false
variable [Globs]
open Go.RowKit Go.WideShapes Go.ChangeShapes Go.Deep
section
variable {H : Type} {encH : TypeId × Value → H} {P : Program} {W : World} {sp : Nat → Bool} {hd : Bool} {O : Nat → Prop}
/-- a slice, by its elements, beside what is read of them -/
theorem arg_sliceR {t e : TypeId} {τ : Ty} {R : den τ → DataW H → Prop} (hO : ∀ k, ¬ O k) (ht : P.underlying t = some (.slice e)) (hc : P.cellsOf e = esz τ)
    (hel : ∀ (n : Nat) (cs : List Value) (x : DataW H × List MemPlace), DataW.trod encH P W 0 sp hd n e cs = some x → ∃ y : den τ, All2 (Im O W) (enc τ y) cs ∧ R y x.1)
    {fuel : Nat} {cs : List Value} {x : DataW H × List MemPlace} (h : DataW.trod encH P W 0 sp hd fuel t cs = some x) : ∃ (l : List (den τ)) (v : Value), cs = [v] ∧ Im O W (.rd τ l) v ∧ ((x.1 = .nil ∧ l = []) ∨ ∃ els rest, x.1 = .slice els rest ∧ els.length = l.length ∧ ∀ (i : Nat) y d, l[i]? = some y → els[i]? = some d → R y d) := by
  rcases open_slice ht h with ⟨rfl, rfl⟩ | ⟨a, len, cap, m, n, D, Pl, rfl, hb, hlc, hcm, hm, rfl, hall⟩
  · exact ⟨[], _, rfl, .rd0 τ none 0 (Nat.zero_le _), .inl ⟨rfl, rfl⟩⟩
  have hlm : len ≤ m := by rw [hm]; split <;> omega
  by_cases h0 : len = 0
  · subst h0; exact ⟨[], _, rfl, .rd0 τ _ _ hcm, .inr ⟨_, _, rfl, rfl, fun i y d hy _ => by simp at hy⟩⟩
  have hch : ∀ i, i < len → ∃ (y : den τ) (us : List Value), (All2 (Im O W) (enc τ y) us ∧ R y (D i)) ∧ us.length = esz τ ∧ ∀ (j : Nat) v, us[j]? = some v → W.cell? ⟨a.block, a.off + (i * esz τ + j), none⟩ = some v := by
    intro i hi
    obtain ⟨us, h1, h2⟩ := hall i (by omega)
    obtain ⟨y, hy⟩ := hel _ _ _ h2
    rw [hc] at h1
    obtain ⟨h3, h4⟩ := cells_get h1
    refine ⟨y, us, hy, h3, fun j v hv => ?_⟩
    have h5 := h4 j v hv
    have hs : ∀ j v, us[j]? = some v → ((a.add (i * esz τ)).add j).spot = none := fun j v hv => World.cell?_spot (h4 j v hv)
    have hpos := esz_pos τ
    have h00 : (a.add (i * esz τ)).spot = none := by
      have := hs 0 (us[0]'(by omega)) (List.getElem?_eq_getElem _)
      simpa [Addr.add] using this
    have e1 := add_of h00
    rw [e1] at h5
    rw [add_none] at h5
    rw [← h5, Nat.add_assoc]
  have ys : ∃ l : List (den τ), l.length = len ∧ ∀ (i : Nat) y, l[i]? = some y → ∃ us : List Value, (All2 (Im O W) (enc τ y) us ∧ R y (D i)) ∧ ∀ (j : Nat) v, us[j]? = some v → W.cell? ⟨a.block, a.off + (i * esz τ + j), none⟩ = some v := by
    have hch' := fun (i : Fin len) => hch i.1 i.2
    refine ⟨List.ofFn fun i : Fin len => Classical.choose (hch' i), by simp, fun i y hy => ?_⟩
    have hi : i < len := by have := (List.getElem?_eq_some_iff.1 hy).1; simpa using this
    rw [List.getElem?_ofFn, dif_pos hi] at hy
    injection hy with hy
    subst hy
    obtain ⟨us, h1, _, h2⟩ := Classical.choose_spec (hch' ⟨i, hi⟩)
    exact ⟨us, h1, h2⟩
  obtain ⟨l, hll, hl⟩ := ys
  refine ⟨l, _, rfl, ?_, .inr ⟨_, _, rfl, by simp [hll], fun i y d hy hd => ?_⟩⟩
  rotate_left
  · obtain ⟨us, h1, _⟩ := hl i y hy
    have hi : i < len := by rw [← hll]; exact (List.getElem?_eq_some_iff.1 hy).1
    rw [List.getElem?_map, List.getElem?_range hi] at hd
    injection hd with hd
    subst hd
    exact h1.2
  have hane : a = ⟨a.block, a.off, none⟩ := by
    obtain ⟨y, us, _, h3, h4⟩ := hch 0 (by omega)
    obtain ⟨us', h1, h2⟩ := hall 0 (by omega)
    have hpos := esz_pos τ
    rw [hc] at h1
    obtain ⟨h5, h6⟩ := cells_get h1
    have := World.cell?_spot (h6 0 (us'[0]'(by omega)) (List.getElem?_eq_getElem _))
    simp [Addr.add] at this
    obtain ⟨b, o, s⟩ := a
    simp only at this
    subst this
    rfl
  rw [hane, ← hll]
  refine .rd τ l a.block a.off cap (fun i j => (W.cell? ⟨a.block, a.off + (i * esz τ + j), none⟩).getD undef) (hO _) (by omega) hcm (fun e => h0 (by rw [← hll, e]; rfl)) (fun i y j av hy hav => ?_) (fun i y j av hy hav => ?_)
  · obtain ⟨us, h1, h2⟩ := hl i y hy
    have hj : j < us.length := by rw [← h1.1.1]; exact (List.getElem?_eq_some_iff.1 hav).1
    rw [h2 j _ (List.getElem?_eq_getElem hj)]; rfl
  · obtain ⟨us, h1, h2⟩ := hl i y hy
    have hj : j < us.length := by rw [← h1.1.1]; exact (List.getElem?_eq_some_iff.1 hav).1
    rw [h2 j _ (List.getElem?_eq_getElem hj)]
    exact h1.1.2 j av _ hav (List.getElem?_eq_getElem hj)
end
end Go.SX
end
section
namespace Go.SX
set_option linter.unusedSectionVars false
variable [Globs]
open Go.RowKit Go.WideShapes Go.ChangeShapes Go.Deep
/-- what a value bears: its numbers are of their kinds -/
inductive VB : Val → Prop
  | mk (v : Val) : (-9223372036854775808 ≤ v.kind ∧ v.kind ≤ 9223372036854775807) → (-9223372036854775808 ≤ v.n ∧ v.n ≤ 9223372036854775807) → (0 ≤ v.f ∧ v.f ≤ 18446744073709551615) → (∀ x ∈ v.l, VB x) → (∀ p ∈ v.e, VB p.2) → VB v
section
variable {H : Type} {encH : TypeId × Value → H} {P : Program} {W : World} {sp : Nat → Bool} {hd : Bool} {O : Nat → Prop}
/-- a slice, by its elements, which are read with less fuel -/
theorem arg_sliceF {t e : TypeId} {τ : Ty} {R : den τ → Prop} (hO : ∀ k, ¬ O k) (ht : P.underlying t = some (.slice e)) (hc : P.cellsOf e = esz τ) {fuel : Nat}
    (hel : ∀ n, n < fuel → ∀ (cs : List Value) (x : DataW H × List MemPlace), DataW.trod encH P W 0 sp hd n e cs = some x → ∃ y : den τ, All2 (Im O W) (enc τ y) cs ∧ R y)
    {cs : List Value} {x : DataW H × List MemPlace} (h : DataW.trod encH P W 0 sp hd fuel t cs = some x) : ∃ (l : List (den τ)) (v : Value), cs = [v] ∧ Im O W (.rd τ l) v ∧ ∀ y ∈ l, R y := by
  rcases DataW.trod_slice ht h with ⟨rfl, _⟩ | ⟨a, len, cap, elems, rest, n, rfl, rfl, _, hb, hlc, hcm, hlen, hall, _, _⟩
  · exact ⟨[], _, rfl, .rd0 τ none 0 (Nat.zero_le _), fun y hy => nomatch hy⟩
  by_cases h0 : len = 0
  · subst h0; exact ⟨[], _, rfl, .rd0 τ _ _ hcm, fun y hy => nomatch hy⟩
  have hall : ∀ i, i < len → ∃ (us : List Value) (y : DataW H × List MemPlace), W.cells? 0 (a.add (i * P.cellsOf e)) (P.cellsOf e) = some us ∧ DataW.trod encH P W 0 sp hd n e us = some y := fun i hi => by
    have := hall i hi
    rw [List.getElem?_eq_getElem (by omega)] at this
    obtain ⟨us, h1, h2⟩ := Option.bind_eq_some_iff.1 this
    exact ⟨us, _, h1, h2⟩
  have hch : ∀ i, i < len → ∃ (y : den τ) (us : List Value), (All2 (Im O W) (enc τ y) us ∧ R y) ∧ us.length = esz τ ∧ ∀ (j : Nat) v, us[j]? = some v → W.cell? ⟨a.block, a.off + (i * esz τ + j), none⟩ = some v := by
    intro i hi
    obtain ⟨us, yy, h1, h2⟩ := hall i hi
    obtain ⟨y, hy⟩ := hel n (Nat.lt_succ_self n) _ _ h2
    rw [hc] at h1
    obtain ⟨h3, h4⟩ := cells_get h1
    refine ⟨y, us, hy, h3, fun j v hv => ?_⟩
    have h5 := h4 j v hv
    have hs : ∀ j v, us[j]? = some v → ((a.add (i * esz τ)).add j).spot = none := fun j v hv => World.cell?_spot (h4 j v hv)
    have hpos := esz_pos τ
    have h00 : (a.add (i * esz τ)).spot = none := by
      have := hs 0 (us[0]'(by omega)) (List.getElem?_eq_getElem _)
      simpa [Addr.add] using this
    have e1 := add_of h00
    rw [e1] at h5
    rw [add_none] at h5
    rw [← h5, Nat.add_assoc]
  have ys : ∃ l : List (den τ), l.length = len ∧ ∀ (i : Nat) y, l[i]? = some y → ∃ us : List Value, (All2 (Im O W) (enc τ y) us ∧ R y) ∧ ∀ (j : Nat) v, us[j]? = some v → W.cell? ⟨a.block, a.off + (i * esz τ + j), none⟩ = some v := by
    have hch' := fun (i : Fin len) => hch i.1 i.2
    refine ⟨List.ofFn fun i : Fin len => Classical.choose (hch' i), by simp, fun i y hy => ?_⟩
    have hi : i < len := by have := (List.getElem?_eq_some_iff.1 hy).1; simpa using this
    rw [List.getElem?_ofFn, dif_pos hi] at hy
    injection hy with hy
    subst hy
    obtain ⟨us, h1, _, h2⟩ := Classical.choose_spec (hch' ⟨i, hi⟩)
    exact ⟨us, h1, h2⟩
  obtain ⟨l, hll, hl⟩ := ys
  refine ⟨l, _, rfl, ?_, fun y hy => ?_⟩
  rotate_left
  · obtain ⟨i, hi, rfl⟩ := List.getElem_of_mem hy
    obtain ⟨us, h1, _⟩ := hl i _ (List.getElem?_eq_getElem hi)
    exact h1.2
  have hane : a = ⟨a.block, a.off, none⟩ := by
    obtain ⟨us', yy, h1, h2⟩ := hall 0 (by omega)
    have hpos := esz_pos τ
    rw [hc] at h1
    obtain ⟨h5, h6⟩ := cells_get h1
    have := World.cell?_spot (h6 0 (us'[0]'(by omega)) (List.getElem?_eq_getElem _))
    simp [Addr.add] at this
    obtain ⟨b, o, s⟩ := a
    simp only at this
    subst this
    rfl
  rw [hane, ← hll]
  refine .rd τ l a.block a.off cap (fun i j => (W.cell? ⟨a.block, a.off + (i * esz τ + j), none⟩).getD undef) (hO _) (by omega) hcm (fun e => h0 (by rw [← hll, e]; rfl)) (fun i y j av hy hav => ?_) (fun i y j av hy hav => ?_)
  · obtain ⟨us, h1, h2⟩ := hl i y hy
    have hj : j < us.length := by rw [← h1.1.1]; exact (List.getElem?_eq_some_iff.1 hav).1
    rw [h2 j _ (List.getElem?_eq_getElem hj)]; rfl
  · obtain ⟨us, h1, h2⟩ := hl i y hy
    have hj : j < us.length := by rw [← h1.1.1]; exact (List.getElem?_eq_some_iff.1 hav).1
    rw [h2 j _ (List.getElem?_eq_getElem hj)]
    exact h1.1.2 j av _ hav (List.getElem?_eq_getElem hj)
/-- the fields of a struct, by their places and types -/
def HasF (fs : Array Field) (i off : Nat) (t : TypeId) : Prop := ∃ f, fs[i]? = some f ∧ f.offset = off ∧ f.type = t
theorem one_fieldF {t : TypeId} {fs : Array Field} {fuel : Nat} {cs : List Value} {x : DataW H × List MemPlace} (ht : P.underlying t = some (.struct fs)) (h : DataW.trod encH P W 0 sp hd fuel t cs = some x) :
    ∃ n, fuel = n + 1 ∧ cs.length = P.cellsOf t ∧ ∀ (i off : Nat) (t' : TypeId), HasF fs i off t' → ∃ y, DataW.trod encH P W 0 sp hd n t' ((cs.drop off).take (P.cellsOf t')) = some y := by
  obtain ⟨xs, n, hn, _, h1, h2, h3⟩ := DataW.trod_struct ht h
  refine ⟨n, hn, h1, fun i off t' hf => ?_⟩
  obtain ⟨f, hf, rfl, rfl⟩ := hf
  have hi : i < xs.length := by rw [h2]; exact (Array.getElem?_eq_some_iff.1 hf).1
  rw [h3 i f hf, List.getElem?_eq_getElem hi]
  exact ⟨_, rfl⟩
/-- the types that a value is made of -/
structure VTy (P : Program) (V : TypeId) where
  (fs gs : Array Field) (K N U S L E En : TypeId)
  hV : P.underlying V = some (.struct fs)
  cV : P.cellsOf V = 6
  h0 : HasF fs 0 0 K
  h1 : HasF fs 1 1 N
  h2 : HasF fs 2 2 U
  h3 : HasF fs 3 3 S
  h4 : HasF fs 4 4 L
  h5 : HasF fs 5 5 E
  uK : P.underlying K = some (.int .i64)
  uN : P.underlying N = some (.int .i64)
  uU : P.underlying U = some (.int .u64)
  uS : P.underlying S = some .string
  uL : P.underlying L = some (.slice V)
  uE : P.underlying E = some (.slice En)
  c : P.cellsOf K = 1 ∧ P.cellsOf N = 1 ∧ P.cellsOf U = 1 ∧ P.cellsOf S = 1 ∧ P.cellsOf L = 1 ∧ P.cellsOf E = 1
  hE : P.underlying En = some (.struct gs)
  cE : P.cellsOf En = 7
  g0 : HasF gs 0 0 S
  g1 : HasF gs 1 1 V
theorem arg_val {V : TypeId} (T : VTy P V) (hO : ∀ k, ¬ O k) : ∀ (fuel : Nat) (cs : List Value) (x : DataW H × List MemPlace), DataW.trod encH P W 0 sp hd fuel V cs = some x → ∃ y : Val, All2 (Im O W) (encVal y) cs ∧ VB y := by
  intro fuel
  induction fuel using Nat.strongRecOn with
  | _ fuel ih =>
  intro cs x h
  obtain ⟨n, rfl, hl, hf⟩ := one_fieldF T.hV h
  rw [T.cV] at hl
  obtain ⟨c0, c1, c2, c3, c4, c5⟩ := T.c
  match cs, hl with
  | [u0, u1, u2, u3, u4, u5], _ =>
    obtain ⟨_, q0⟩ := hf 0 0 _ T.h0
    obtain ⟨_, q1⟩ := hf 1 1 _ T.h1
    obtain ⟨_, q2⟩ := hf 2 2 _ T.h2
    obtain ⟨_, q3⟩ := hf 3 3 _ T.h3
    obtain ⟨_, q4⟩ := hf 4 4 _ T.h4
    obtain ⟨_, q5⟩ := hf 5 5 _ T.h5
    rw [c0] at q0
    rw [c1] at q1
    rw [c2] at q2
    rw [c3] at q3
    rw [c4] at q4
    rw [c5] at q5
    obtain ⟨k, e0, i0, w0⟩ := arg_int (O := O) T.uK q0
    obtain ⟨m, e1, i1, w1⟩ := arg_int (O := O) T.uN q1
    obtain ⟨f, e2, i2, w2⟩ := arg_int (O := O) T.uU q2
    obtain ⟨s, vs, e3, i3⟩ := arg_str (O := O) T.uS q3
    obtain ⟨l, vl, e4, i4, r4⟩ := arg_sliceF (O := O) (τ := .val) (R := VB) hO T.uL T.cV (fun n' hn cs' x' hx => ih n' (by omega) cs' x' hx) q4
    obtain ⟨es, ve, e5, i5, r5⟩ := arg_sliceF (O := O) (τ := .ent) (R := fun p => VB p.2) hO T.uE T.cE (fun n' hn cs' x' hx => by
      obtain ⟨n2, rfl, hl2, hf2⟩ := one_fieldF T.hE hx
      rw [T.cE] at hl2
      match cs', hl2 with
      | [z0, z1, z2, z3, z4, z5, z6], _ =>
        obtain ⟨_, p0⟩ := hf2 0 0 _ T.g0
        obtain ⟨_, p1⟩ := hf2 1 1 _ T.g1
        rw [c3] at p0
        rw [T.cV] at p1
        obtain ⟨ks, kv, d0, j0⟩ := arg_str (O := O) T.uS p0
        obtain ⟨y, j1, hy⟩ := ih n2 (by omega) _ _ p1
        simp at d0
        subst d0
        exact ⟨(ks, y), All2.cons j0 (by simpa using j1), hy⟩) q5
    simp at e0 e1 e2 e3 e4 e5
    subst e0 e1 e2 e3 e4 e5
    exact ⟨⟨k, m, f, s, l, es⟩, All2.cons i0 (All2.cons i1 (All2.cons i2 (All2.cons i3 (All2.cons i4 (All2.cons i5 (All2.nil _)))))), .mk _ (wf_i64 w0) (wf_i64 w1) (wf_u64 w2) r4 r5⟩
/-- the types that a change of types is made of -/
structure MTy (P : Program) (M : TypeId) where
  (fs : Array Field) (K Q S V : TypeId) (T : VTy P V)
  hM : P.underlying M = some (.struct fs)
  cM : P.cellsOf M = 10
  h0 : HasF fs 0 0 K
  h1 : HasF fs 1 1 Q
  h2 : HasF fs 2 2 S
  h3 : HasF fs 3 3 S
  h4 : HasF fs 4 4 V
  uK : P.underlying K = some (.int .i64)
  uQ : P.underlying Q = some (.slice S)
  uS : P.underlying S = some .string
  c : P.cellsOf K = 1 ∧ P.cellsOf Q = 1 ∧ P.cellsOf S = 1
/-- what a change of types bears -/
def MB (m : Move) : Prop := (-9223372036854775808 ≤ m.kind ∧ m.kind ≤ 9223372036854775807) ∧ VB m.v
theorem arg_move {M : TypeId} (T : MTy P M) (hO : ∀ k, ¬ O k) {fuel : Nat} {cs : List Value} {x : DataW H × List MemPlace} (h : DataW.trod encH P W 0 sp hd fuel M cs = some x) : ∃ y : Move, All2 (Im O W) (enc .move y) cs ∧ MB y := by
  obtain ⟨n, rfl, hl, hf⟩ := one_fieldF T.hM h
  rw [T.cM] at hl
  obtain ⟨c0, c1, c2⟩ := T.c
  match cs, hl with
  | [u0, u1, u2, u3, u4, u5, u6, u7, u8, u9], _ =>
    obtain ⟨_, q0⟩ := hf 0 0 _ T.h0
    obtain ⟨_, q1⟩ := hf 1 1 _ T.h1
    obtain ⟨_, q2⟩ := hf 2 2 _ T.h2
    obtain ⟨_, q3⟩ := hf 3 3 _ T.h3
    obtain ⟨_, q4⟩ := hf 4 4 _ T.h4
    rw [c0] at q0
    rw [c1] at q1
    rw [c2] at q2 q3
    rw [T.T.cV] at q4
    obtain ⟨k, e0, i0, w0⟩ := arg_int (O := O) T.uK q0
    obtain ⟨p, vp, e1, i1, _⟩ := arg_sliceF (O := O) (τ := .str) (R := fun _ => True) hO T.uQ c2 (fun n' hn cs' x' hx => by
      obtain ⟨ks, kv, d0, j0⟩ := arg_str (O := O) T.uS hx
      subst d0
      exact ⟨ks, All2.cons j0 (All2.nil _), trivial⟩) q1
    obtain ⟨s, vs, e2, i2⟩ := arg_str (O := O) T.uS q2
    obtain ⟨s', vs', e3, i3⟩ := arg_str (O := O) T.uS q3
    obtain ⟨y, j1, hy⟩ := arg_val T.T hO _ _ _ q4
    simp at e0 e1 e2 e3
    subst e0 e1 e2 e3
    exact ⟨⟨k, p, s, s', y⟩, All2.cons i0 (All2.cons i1 (All2.cons i2 (All2.cons i3 (by simpa using j1)))), wf_i64 w0, hy⟩
/-- the types that a link is made of -/
structure KTy (P : Program) (L : TypeId) where
  (fs : Array Field) (K Q M : TypeId) (T : MTy P M)
  hL : P.underlying L = some (.struct fs)
  cL : P.cellsOf L = 3
  h0 : HasF fs 0 0 K
  h1 : HasF fs 1 1 K
  h2 : HasF fs 2 2 Q
  uK : P.underlying K = some (.int .i64)
  uQ : P.underlying Q = some (.slice M)
  c : P.cellsOf K = 1 ∧ P.cellsOf Q = 1
def KB (k : Link) : Prop := (-9223372036854775808 ≤ k.fr ∧ k.fr ≤ 9223372036854775807) ∧ (-9223372036854775808 ≤ k.to ∧ k.to ≤ 9223372036854775807) ∧ ∀ m ∈ k.moves, MB m
theorem arg_link {L : TypeId} (T : KTy P L) (hO : ∀ k, ¬ O k) {fuel : Nat} {cs : List Value} {x : DataW H × List MemPlace} (h : DataW.trod encH P W 0 sp hd fuel L cs = some x) : ∃ y : Link, All2 (Im O W) (enc .link y) cs ∧ KB y := by
  obtain ⟨n, rfl, hl, hf⟩ := one_fieldF T.hL h
  rw [T.cL] at hl
  obtain ⟨c0, c1⟩ := T.c
  match cs, hl with
  | [u0, u1, u2], _ =>
    obtain ⟨_, q0⟩ := hf 0 0 _ T.h0
    obtain ⟨_, q1⟩ := hf 1 1 _ T.h1
    obtain ⟨_, q2⟩ := hf 2 2 _ T.h2
    rw [c0] at q0 q1
    rw [c1] at q2
    obtain ⟨k, e0, i0, w0⟩ := arg_int (O := O) T.uK q0
    obtain ⟨k', e1, i1, w1⟩ := arg_int (O := O) T.uK q1
    obtain ⟨p, vp, e2, i2, r2⟩ := arg_sliceF (O := O) (τ := .move) (R := MB) hO T.uQ T.T.cM (fun n' hn cs' x' hx => arg_move T.T hO hx) q2
    simp at e0 e1 e2
    subst e0 e1 e2
    exact ⟨⟨k, k', p⟩, All2.cons i0 (All2.cons i1 (All2.cons i2 (All2.nil _))), wf_i64 w0, wf_i64 w1, r2⟩
end
end Go.SX
end
section
namespace Go.Proofs.YtjlbaagnoppfgaaDoor
set_option linter.unusedSectionVars false
set_option linter.unusedSimpArgs false
set_option linter.unusedVariables false
open Go Go.SX Go.Ck Go.Vl Go.Ut
set_option maxRecDepth 100000
set_option maxHeartbeats 1000000
section
variable [G : Globs]
theorem w_fault (a : Val) (ha : VB a) (hn : (sizV a).2 ≤ 1000000000) : vc Tryd.prog Γ 74 [1, 2, 3, 4, 5, 6, 7, 9, 11, 17, 26, 29, 34, 38, 39, 40, 41, 55, 56, 57, 58] (Tryd.f19.body.getD .skip) (postK Γ [.tmp 2] (fun v => v = .i .i64 (chkT [⟨a, 0⟩] 0))) ⟨argSlots 0 [.agg (encVal a)], []⟩ := by
  have hpos := siz_pos a
  generalize hR : chkT [⟨a, 0⟩] 0 = R
  refine Exists.intro [] (Exists.intro [] (Exists.intro [(14, 3)] (Exists.intro (List VPlace × Int) (Exists.intro (fun q => (∀ p ∈ q.1, VB p.v ∧ 0 ≤ p.above ∧ p.above ≤ 20) ∧ sumT q.1 ≤ 1000000000 ∧ 0 ≤ q.2 ∧ q.2 ≤ 2000 ∧ R = chkT q.1 q.2) (Exists.intro (fun ⟨l, m⟩ => ⟨[(3, .vec 3 .vplace l), (4, .i .i64 m)], []⟩) (Exists.intro (fun q => (sumT q.1).toNat) (Exists.intro ([⟨a, 0⟩], 0) (And.intro ⟨fun p hp => by rw [List.mem_singleton.1 hp]; exact ⟨ha, Int.le_refl _, (show (0 : Int) ≤ 20 by decide)⟩, by simp only [sumT]; omega, Int.le_refl _, by omega, hR.symm⟩ (And.intro ?_ ?_)))))))))
  · (repeat' (first | exact trivial | exact Or.inl rfl | exact Or.inl ((congrArg (fun x => AV.vec 3 .vplace [x]) (vplace_eta a 0))) | refine And.intro ?_ ?_))
  · rintro ⟨l, m⟩ ⟨hv, hs, hm0, hm, he⟩
    simp only at hv hs hm0 hm he
    intro hl
    refine And.intro (fun hz => ?_) (fun hz => ?_)
    · obtain ⟨x, r, rfl⟩ : ∃ x r, l = x :: r := by
        cases l with
        | nil => exact absurd (of_decide_eq_true hz) (by decide)
        | cons x r => exact ⟨x, r, rfl⟩
      obtain ⟨hxb, hx0, hx1⟩ := hv x (.head _)
      have hlenr : ((r.length : Nat) : Int) ≤ sumT r := sumT_len r
      have hsx := siz_pos x.v
      have hsl := siz_len x.v
      have hsum : sumT (x :: r) = (sizV x.v).2 + sumT r := rfl
      refine And.intro ⟨by omega, by simp only [List.length_cons]; omega⟩ ?_
      refine And.intro ⟨by omega, by simp only [List.length_cons]; omega⟩ ?_
      (refine And.intro (rng64 (by omega) (by omega)) ?_)
      rw [chkT_step] at he
      refine And.intro (fun hq => ?_) (fun hq => ?_)
      · rw [if_pos (of_decide_eq_true hq)] at he
        exact congrArg (AV.i .i64) he.symm
      rw [if_neg (of_decide_eq_false hq)] at he
      have hm2 : ¬ 2000 < m + 1 := of_decide_eq_false hq
      rw [oneF_doc] at he
      refine And.intro (fun hq => ?_) (fun hq => ?_)
      · rw [if_pos (show 20 ≤ x.above from of_decide_eq_true hq), if_pos (by decide)] at he
        exact congrArg (AV.i .i64) he.symm
      have ha20 : ¬ 20 ≤ x.above := of_decide_eq_false hq
      rw [if_neg ha20] at he
      have hfb : 0 ≤ x.v.f ∧ x.v.f ≤ 18446744073709551615 := by cases hxb with | mk _ _ _ h3 => exact h3
      refine Or.inl (Exists.intro _ (And.intro (s_oneFault x.v hfb.1 hfb.2) ?_))
      refine And.intro (fun hq => ?_) (fun hq => ?_)
      · have hq : docF x.v ≠ 0 := by simpa using hq
        rw [if_pos hq] at he
        exact congrArg (AV.i .i64) he.symm
      have hd : ¬ docF x.v ≠ 0 := by simpa using hq
      rw [if_neg hd] at he
      intro hlv
      refine Exists.intro [(7, 7, .vplace)] (Exists.intro [] (Exists.intro [] (Exists.intro Nat (Exists.intro (fun i => i ≤ x.v.l.length) (Exists.intro (fun i => ⟨[(3, .vs 3 .vplace (x :: r) 1), (4, .i .i64 (m + 1)), (5, .pt 5 0), (7, .vec 7 .vplace ((x.v.l.take i).map fun v => (⟨v, x.above + 1⟩ : VPlace))), (38, .rd .val x.v.l), (39, .i .i64 x.v.l.length), (40, .i .i64 i)], [(5, enc .vplace x)]⟩) (Exists.intro (fun i => x.v.l.length - i) (Exists.intro 0 (And.intro (Nat.zero_le _) (And.intro ?_ ?_)))))))))
      · (repeat' (first | exact trivial | exact Or.inl rfl | exact Or.inr (Or.inl ⟨rfl, _, rfl⟩) | exact Or.inr (Or.inr (Or.inr ⟨_, _, _, rfl, rfl⟩)) | refine And.intro ?_ ?_))
      · rintro i hi
        refine And.intro (fun hz => ?_) (fun hz => ?_)
        · have hi := ltD hz
          have hg := getI (τ := .val) hi
          refine And.intro ⟨by omega, by omega⟩ ?_
          rw [hg]
          (refine And.intro (rng64 (by omega) (by omega)) ?_)
          refine And.intro (show (((x.v.l.take i).map fun v => (⟨v, x.above + 1⟩ : VPlace)).length + 1) * 96 ≤ 140737488355328 by rw [List.length_map, List.length_take]; omega) ?_
          (refine And.intro (rng64 (by omega) (by omega)) ?_)
          refine Exists.intro [(51, 7)] (Exists.intro (i + 1) (And.intro hi (And.intro ?_ ?_)))
          · (repeat' (first | exact trivial | exact Or.inl rfl | exact Or.inl ((congrArg (AV.vec 7 .vplace) (by rw [take_snoc hi, List.map_append]; exact congrArg (fun p => _ ++ [p]) (vplace_eta _ _)))) | refine And.intro ?_ ?_))
          · show x.v.l.length - (i + 1) < x.v.l.length - i
            omega
        · have hi := geD hi hz
          subst hi
          rw [List.take_length]
          intro hle
          refine Exists.intro [] (Exists.intro [] (Exists.intro [] (Exists.intro Nat (Exists.intro (fun i => i ≤ x.v.e.length) (Exists.intro (fun i => ⟨[(3, .vs 3 .vplace (x :: r) 1), (4, .i .i64 (m + 1)), (5, .pt 5 0), (7, .vec 7 .vplace ((x.v.l ++ (x.v.e.take i).map (·.2)).map fun v => (⟨v, x.above + 1⟩ : VPlace))), (55, .rd .ent x.v.e), (56, .i .i64 x.v.e.length), (57, .i .i64 i)], [(5, enc .vplace x)]⟩) (Exists.intro (fun i => x.v.e.length - i) (Exists.intro 0 (And.intro (Nat.zero_le _) (And.intro ?_ ?_)))))))))
          · (repeat' (first | exact trivial | exact Or.inl rfl | exact Or.inl ((congrArg (AV.vec 7 .vplace) (by rw [List.take_zero, List.map_nil, List.append_nil]))) | refine And.intro ?_ ?_))
          · rintro i hi
            refine And.intro (fun hz => ?_) (fun hz => ?_)
            · have hi := ltD hz
              have hg := getI (τ := .ent) hi
              refine And.intro ⟨by omega, by omega⟩ ?_
              rw [hg]
              (refine And.intro (rng64 (by omega) (by omega)) ?_)
              refine And.intro (show (((x.v.l ++ (x.v.e.take i).map (·.2)).map fun v => (⟨v, x.above + 1⟩ : VPlace)).length + 1) * 96 ≤ 140737488355328 by rw [List.length_map, List.length_append, List.length_map, List.length_take]; omega) ?_
              (refine And.intro (rng64 (by omega) (by omega)) ?_)
              have he2 : x.v.l ++ (x.v.e.take (i + 1)).map (·.2) = (x.v.l ++ (x.v.e.take i).map (·.2)) ++ [x.v.e[i].2] := by rw [take_snoc hi, List.map_append, ← List.append_assoc]; rfl
              refine Exists.intro [(69, 7)] (Exists.intro (i + 1) (And.intro hi (And.intro ?_ ?_)))
              · have he3 : (x.v.l ++ (x.v.e.take i).map (·.2)).map (fun v => (⟨v, x.above + 1⟩ : VPlace)) ++ [⟨⟨x.v.e[i].2.kind, x.v.e[i].2.n, x.v.e[i].2.f, x.v.e[i].2.s, x.v.e[i].2.l, x.v.e[i].2.e⟩, x.above + 1⟩] = (x.v.l ++ (x.v.e.take (i + 1)).map (·.2)).map (fun v => (⟨v, x.above + 1⟩ : VPlace)) := by
                  rw [he2, vplace_eta]; exact (List.map_append (l₂ := [x.v.e[i].2])).symm
                (repeat' (first | exact trivial | exact Or.inl rfl | exact Or.inl ((congrArg (AV.vec 7 .vplace) he3)) | refine And.intro ?_ ?_))
              · show x.v.e.length - (i + 1) < x.v.e.length - i
                omega
            · have hi := geD hi hz
              subst hi
              rw [List.take_length]
              have hpl : (x.v.l ++ x.v.e.map (·.2)).map (fun v => (⟨v, x.above + 1⟩ : VPlace)) = placesOf x := rfl
              have hpl2 := sumT_parts x
              have hpll := sumT_len (placesOf x)
              refine And.intro (show ((placesOf x).length + r.length) * 96 ≤ 140737488355328 by omega) ?_
              refine Exists.intro [(73, 3)] (Exists.intro (placesOf x ++ r, m + 1) (And.intro ⟨fun p hp => ?_, by simp only; rw [sumT_append]; omega, by simp only; omega, by simp only; omega, he⟩ (And.intro ?_ ?_)))
              · rcases List.mem_append.1 hp with hp | hp
                · obtain ⟨y, hy, rfl⟩ := List.mem_map.1 hp
                  refine ⟨?_, by simp only; omega, by simp only; omega⟩
                  cases hxb with
                  | mk _ _ _ _ h4 h5 =>
                    rcases List.mem_append.1 hy with hy | hy
                    · exact h4 y hy
                    · obtain ⟨z, hz, rfl⟩ := List.mem_map.1 hy
                      exact h5 z hz
                · exact hv p (.tail _ hp)
              · trace_state
                (repeat' (first | exact trivial | exact Or.inl rfl | exact Or.inr (Or.inl ⟨rfl, _, rfl⟩) | exact Or.inr (Or.inr (Or.inr ⟨_, _, _, rfl, rfl⟩)) | refine And.intro ?_ ?_))
              · simp only
                rw [sumT_append]
                omega
    · have hnil : l = [] := by
        cases l with
        | nil => rfl
        | cons x r => exact absurd (of_decide_eq_false hz) (by simp only [List.length_cons]; omega)
      subst hnil
      exact congrArg (AV.i .i64) he.symm
theorem s_fault (a : Val) (ha : VB a) (hn : (sizV a).2 ≤ 1000000000) : PSpec Tryd.prog 19 [.agg (encVal a)] (.i .i64 (chkT [⟨a, 0⟩] 0)) :=
  pspec_of_vc Γ_good Tryd.func19 rfl Tryd.call19 Tryd.results19 Tryd.ntmps19 (Nat.le_of_ble_eq_true rfl) (w_fault a ha hn)
end
end Go.Proofs.YtjlbaagnoppfgaaDoor
end
section
namespace Go.Proofs.YtjlbaagnoppfgaaDoor
set_option linter.unusedSectionVars false
set_option linter.unusedSimpArgs false
set_option linter.unusedVariables false
open Go Go.SX Go.Ck Go.Vl Go.Ut
set_option maxRecDepth 100000
set_option maxHeartbeats 1000000
theorem and_mask {f : Int} (k : Nat) (hk : k ≤ 63) (h0 : 0 ≤ f) (h1 : f ≤ 18446744073709551615) : bits .and .u64 f ((2 ^ k - 1 : Nat) : Int) = f % ((2 ^ k : Nat) : Int) := by
  obtain ⟨n, rfl⟩ : ∃ n : Nat, f = n := ⟨f.toNat, by omega⟩
  have h2 : 2 ^ k ≤ 2 ^ 63 := Nat.pow_le_pow_right (by decide) hk
  rw [bits_and_u64_nat _ _ (by omega) (by omega), Nat.and_two_pow_sub_one_eq_mod]
  rfl
theorem shr52 {f : Int} : f.fdiv (2 ^ min (Int.toNat 52) IntKind.u64.bits) = f / 4503599627370496 := by
  rw [show (2 : Int) ^ min (Int.toNat 52) IntKind.u64.bits = 4503599627370496 from rfl, Int.fdiv_eq_ediv_of_nonneg _ (by decide)]
theorem expo {f : Int} (h0 : 0 ≤ f) (h1 : f ≤ 18446744073709551615) : bits .and .u64 (f.fdiv (2 ^ min (Int.toNat 52) IntKind.u64.bits)) 2047 = (f / 4503599627370496) % 2048 := by
  rw [shr52]
  exact and_mask 11 (by decide) (by omega) (by omega)
theorem frac {f : Int} (h0 : 0 ≤ f) (h1 : f ≤ 18446744073709551615) : bits .and .u64 f 4503599627370495 = f % 4503599627370496 := and_mask 52 (by decide) h0 h1
section
variable [G : Globs]
abbrev ownS (a : Val) (t : Bool) : St := ⟨[(2, .pt 2 0), (4, .i .i64 0), (5, .b (decide (a.kind = 1 ∨ a.kind = 2))), (6, .i .u64 ((a.f / 4503599627370496) % 2048)), (7, .i .u64 (a.f % 4503599627370496)), (25, .b t)], [(2, encVal a)]⟩
theorem w_ownP (a : Val) (above : Int) (hu : HasU8) (h0 : 0 ≤ a.f) (h1 : a.f ≤ 18446744073709551615) : VCs Tryd.prog Γ 121 [1, 2, 4, 5, 6, 7, 9, 25, 99, 116] (Tryd.f50.body.getD .skip) (postK Γ [.tmp 4] (fun v => v = .i .i64 (ownF a above))) ⟨argSlots 0 [.agg (encVal a), .i .i64 above], []⟩ := by
  refine VCs.seq Γ_good ?_
  refine VCs.cut Γ_good Unit (fun _ => ¬ 20 ≤ above) (fun _ => ⟨[(2, .pt 2 0), (4, .i .i64 0)], [(2, encVal a)]⟩) ?_ ?_
  · (repeat' (first | (refine And.intro (fun h => ?_) (fun h => ?_) <;> (try simp [-List.getD_eq_getElem?_getD, -Int.pred_toNat] at h) <;> (try (exfalso; omega))) | (refine And.intro (rng64 (by omega) (by omega)) ?_) | (refine And.intro ⟨by omega, by omega⟩ ?_) | (refine And.intro ⟨by omega, by omega, by omega⟩ ?_) | (intro _)))
    all_goals first | (refine Exists.intro () (And.intro (by omega) ?_); (repeat' (first | exact trivial | exact Or.inl rfl | exact Or.inr (Or.inl ⟨rfl, _, rfl⟩) | exact Or.inr (Or.inr (Or.inr ⟨_, _, _, rfl, rfl⟩)) | refine And.intro ?_ ?_))) | (refine congrArg (AV.i .i64) ?_; rw [ownF, if_pos (by omega)])
  intro _ k1
  refine VCs.cut Γ_good Unit (fun _ => True) (fun _ => ⟨[(2, .pt 2 0), (4, .i .i64 0), (5, .b (decide (a.kind = 1 ∨ a.kind = 2)))], [(2, encVal a)]⟩) ?_ ?_
  · (repeat' (first | (refine And.intro (fun h => ?_) (fun h => ?_) <;> (try simp [-List.getD_eq_getElem?_getD, -Int.pred_toNat] at h) <;> (try (exfalso; omega))) | (refine And.intro (rng64 (by omega) (by omega)) ?_) | (refine And.intro ⟨by omega, by omega⟩ ?_) | (refine And.intro ⟨by omega, by omega, by omega⟩ ?_) | (intro _)))
    all_goals refine Exists.intro () (And.intro trivial ?_)
    all_goals (repeat' (first | exact trivial | exact Or.inl rfl | exact Or.inl ((congrArg AV.b (by (rw [Bool.eq_iff_iff]; (try simp only [beq_iff_eq, bne_iff_ne, beq_eq_false_iff_ne, bne_eq_false_iff_eq, decide_eq_true_eq, decide_eq_false_iff_not, Bool.not_eq_true', Bool.not_eq_false', Bool.not_true, Bool.not_false, ne_eq, Decidable.not_not, gt_iff_lt, ge_iff_le, Int.not_lt, Int.not_le, Bool.cond_true, Bool.cond_false, cond_true, cond_false, Int.reduceBNe, Int.reduceBEq, Int.reduceLT, Int.reduceLE, Int.reduceEq, Int.reduceNe, not_true_eq_false, not_false_eq_true, Bool.false_eq_true, Bool.true_eq_false, reduceCtorEq, Bool.and_eq_true, Bool.or_eq_true, Bool.and_eq_false_iff, Bool.or_eq_false_iff, Bool.true_and, Bool.and_true, Bool.false_and, Bool.and_false, Bool.or_false, Bool.false_or, Bool.or_true, Bool.true_or, bne_iff_ne, List.length_pos_iff, Int.natCast_pos, Int.ofNat_lt, Int.ofNat_le] at *); first | done | omega | grind)))) | refine And.intro ?_ ?_))
  intro _ _
  refine VCs.cut Γ_good Unit (fun _ => True) (fun _ => ⟨[(2, .pt 2 0), (4, .i .i64 0), (5, .b (decide (a.kind = 1 ∨ a.kind = 2))), (6, .i .u64 ((a.f / 4503599627370496) % 2048)), (7, .i .u64 (a.f % 4503599627370496))], [(2, encVal a)]⟩) ?_ ?_
  · refine Exists.intro [.blk [0, 1, 2, 3, 4, 5, 6, 7, 8]] (And.intro (by kernel_rfl) ?_)
    refine And.intro (by decide) ?_
    refine Exists.intro () (And.intro trivial ?_)
    rw [expo h0 h1, frac h0 h1]
    (repeat' (first | exact trivial | exact Or.inl rfl | exact Or.inr (Or.inl ⟨rfl, _, rfl⟩) | exact Or.inr (Or.inr (Or.inr ⟨_, _, _, rfl, rfl⟩)) | refine And.intro ?_ ?_))
  intro _ _
  refine VCs.seqS ?_
  refine VCs.block ?_
  refine VCs.cutS Unit (fun _ => True) (fun _ => ownS a (decide (kindBad a))) ?_ ?_
  · refine VCs.cut Γ_good Unit (fun _ => True) (fun _ => ownS a (decide (a.kind < 0 ∨ 6 < a.kind))) ?_ ?_
    · (repeat' (first | (refine And.intro (fun h => ?_) (fun h => ?_) <;> (try simp [-List.getD_eq_getElem?_getD, -Int.pred_toNat] at h) <;> (try (exfalso; omega))) | (refine And.intro (rng64 (by omega) (by omega)) ?_) | (refine And.intro ⟨by omega, by omega⟩ ?_) | (refine And.intro ⟨by omega, by omega, by omega⟩ ?_) | (intro _)))
      all_goals refine Exists.intro () (And.intro trivial ?_)
      all_goals (repeat' (first | exact trivial | exact Or.inl rfl | exact Or.inl ((congrArg AV.b (by (try unfold oddF at *); (rw [Bool.eq_iff_iff]; (try simp only [beq_iff_eq, bne_iff_ne, beq_eq_false_iff_ne, bne_eq_false_iff_eq, decide_eq_true_eq, decide_eq_false_iff_not, Bool.not_eq_true', Bool.not_eq_false', Bool.not_true, Bool.not_false, ne_eq, Decidable.not_not, gt_iff_lt, ge_iff_le, Int.not_lt, Int.not_le, Bool.cond_true, Bool.cond_false, cond_true, cond_false, Int.reduceBNe, Int.reduceBEq, Int.reduceLT, Int.reduceLE, Int.reduceEq, Int.reduceNe, not_true_eq_false, not_false_eq_true, Bool.false_eq_true, Bool.true_eq_false, reduceCtorEq, Bool.and_eq_true, Bool.or_eq_true, Bool.and_eq_false_iff, Bool.or_eq_false_iff, Bool.true_and, Bool.and_true, Bool.false_and, Bool.and_false, Bool.or_false, Bool.false_or, Bool.or_true, Bool.true_or, bne_iff_ne, List.length_pos_iff, Int.natCast_pos, Int.ofNat_lt, Int.ofNat_le] at *); first | done | omega | grind)))) | refine And.intro ?_ ?_))
    intro _ _
    refine VCs.cond rfl (fun h => ?_) (fun h => ?_)
    · refine VCs.of_vc Γ_good ?_
      refine Exists.intro () (And.intro trivial ?_)
      (repeat' (first | exact trivial | exact Or.inl rfl | exact Or.inl ((congrArg AV.b (by (try unfold kindBad at *); (try unfold oddF at *); (rw [Bool.eq_iff_iff]; (try simp only [beq_iff_eq, bne_iff_ne, beq_eq_false_iff_ne, bne_eq_false_iff_eq, decide_eq_true_eq, decide_eq_false_iff_not, Bool.not_eq_true', Bool.not_eq_false', Bool.not_true, Bool.not_false, ne_eq, Decidable.not_not, gt_iff_lt, ge_iff_le, Int.not_lt, Int.not_le, Bool.cond_true, Bool.cond_false, cond_true, cond_false, Int.reduceBNe, Int.reduceBEq, Int.reduceLT, Int.reduceLE, Int.reduceEq, Int.reduceNe, not_true_eq_false, not_false_eq_true, Bool.false_eq_true, Bool.true_eq_false, reduceCtorEq, Bool.and_eq_true, Bool.or_eq_true, Bool.and_eq_false_iff, Bool.or_eq_false_iff, Bool.true_and, Bool.and_true, Bool.false_and, Bool.and_false, Bool.or_false, Bool.false_or, Bool.or_true, Bool.true_or, bne_iff_ne, List.length_pos_iff, Int.natCast_pos, Int.ofNat_lt, Int.ofNat_le] at *); first | done | omega | grind)))) | refine And.intro ?_ ?_))
    replace h := of_decide_eq_false h
    refine VCs.cut Γ_good Unit (fun _ => True) (fun _ => ownS a (decide (a.kind ≠ 1 ∧ a.kind ≠ 2 ∧ a.n ≠ 0))) ?_ ?_
    · (repeat' (first | (refine And.intro (fun h => ?_) (fun h => ?_) <;> (try simp [-List.getD_eq_getElem?_getD, -Int.pred_toNat] at h) <;> (try (exfalso; omega))) | (refine And.intro (rng64 (by omega) (by omega)) ?_) | (refine And.intro ⟨by omega, by omega⟩ ?_) | (refine And.intro ⟨by omega, by omega, by omega⟩ ?_) | (intro _)))
      all_goals refine Exists.intro () (And.intro trivial ?_)
      all_goals (repeat' (first | exact trivial | exact Or.inl rfl | exact Or.inl ((congrArg AV.b (by (try unfold oddF at *); (rw [Bool.eq_iff_iff]; (try simp only [beq_iff_eq, bne_iff_ne, beq_eq_false_iff_ne, bne_eq_false_iff_eq, decide_eq_true_eq, decide_eq_false_iff_not, Bool.not_eq_true', Bool.not_eq_false', Bool.not_true, Bool.not_false, ne_eq, Decidable.not_not, gt_iff_lt, ge_iff_le, Int.not_lt, Int.not_le, Bool.cond_true, Bool.cond_false, cond_true, cond_false, Int.reduceBNe, Int.reduceBEq, Int.reduceLT, Int.reduceLE, Int.reduceEq, Int.reduceNe, not_true_eq_false, not_false_eq_true, Bool.false_eq_true, Bool.true_eq_false, reduceCtorEq, Bool.and_eq_true, Bool.or_eq_true, Bool.and_eq_false_iff, Bool.or_eq_false_iff, Bool.true_and, Bool.and_true, Bool.false_and, Bool.and_false, Bool.or_false, Bool.false_or, Bool.or_true, Bool.true_or, bne_iff_ne, List.length_pos_iff, Int.natCast_pos, Int.ofNat_lt, Int.ofNat_le] at *); first | done | omega | grind)))) | refine And.intro ?_ ?_))
    intro _ _
    refine VCs.cond rfl (fun h => ?_) (fun h => ?_)
    · refine VCs.of_vc Γ_good ?_
      refine Exists.intro () (And.intro trivial ?_)
      (repeat' (first | exact trivial | exact Or.inl rfl | exact Or.inl ((congrArg AV.b (by (try unfold kindBad at *); (try unfold oddF at *); (rw [Bool.eq_iff_iff]; (try simp only [beq_iff_eq, bne_iff_ne, beq_eq_false_iff_ne, bne_eq_false_iff_eq, decide_eq_true_eq, decide_eq_false_iff_not, Bool.not_eq_true', Bool.not_eq_false', Bool.not_true, Bool.not_false, ne_eq, Decidable.not_not, gt_iff_lt, ge_iff_le, Int.not_lt, Int.not_le, Bool.cond_true, Bool.cond_false, cond_true, cond_false, Int.reduceBNe, Int.reduceBEq, Int.reduceLT, Int.reduceLE, Int.reduceEq, Int.reduceNe, not_true_eq_false, not_false_eq_true, Bool.false_eq_true, Bool.true_eq_false, reduceCtorEq, Bool.and_eq_true, Bool.or_eq_true, Bool.and_eq_false_iff, Bool.or_eq_false_iff, Bool.true_and, Bool.and_true, Bool.false_and, Bool.and_false, Bool.or_false, Bool.false_or, Bool.or_true, Bool.true_or, bne_iff_ne, List.length_pos_iff, Int.natCast_pos, Int.ofNat_lt, Int.ofNat_le] at *); first | done | omega | grind)))) | refine And.intro ?_ ?_))
    replace h := of_decide_eq_false h
    refine VCs.cut Γ_good Unit (fun _ => True) (fun _ => ownS a (decide (a.kind = 1 ∧ a.n ≠ 0 ∧ a.n ≠ 1))) ?_ ?_
    · (repeat' (first | (refine And.intro (fun h => ?_) (fun h => ?_) <;> (try simp [-List.getD_eq_getElem?_getD, -Int.pred_toNat] at h) <;> (try (exfalso; omega))) | (refine And.intro (rng64 (by omega) (by omega)) ?_) | (refine And.intro ⟨by omega, by omega⟩ ?_) | (refine And.intro ⟨by omega, by omega, by omega⟩ ?_) | (intro _)))
      all_goals refine Exists.intro () (And.intro trivial ?_)
      all_goals (repeat' (first | exact trivial | exact Or.inl rfl | exact Or.inl ((congrArg AV.b (by (try unfold oddF at *); (rw [Bool.eq_iff_iff]; (try simp only [beq_iff_eq, bne_iff_ne, beq_eq_false_iff_ne, bne_eq_false_iff_eq, decide_eq_true_eq, decide_eq_false_iff_not, Bool.not_eq_true', Bool.not_eq_false', Bool.not_true, Bool.not_false, ne_eq, Decidable.not_not, gt_iff_lt, ge_iff_le, Int.not_lt, Int.not_le, Bool.cond_true, Bool.cond_false, cond_true, cond_false, Int.reduceBNe, Int.reduceBEq, Int.reduceLT, Int.reduceLE, Int.reduceEq, Int.reduceNe, not_true_eq_false, not_false_eq_true, Bool.false_eq_true, Bool.true_eq_false, reduceCtorEq, Bool.and_eq_true, Bool.or_eq_true, Bool.and_eq_false_iff, Bool.or_eq_false_iff, Bool.true_and, Bool.and_true, Bool.false_and, Bool.and_false, Bool.or_false, Bool.false_or, Bool.or_true, Bool.true_or, bne_iff_ne, List.length_pos_iff, Int.natCast_pos, Int.ofNat_lt, Int.ofNat_le] at *); first | done | omega | grind)))) | refine And.intro ?_ ?_))
    intro _ _
    refine VCs.cond rfl (fun h => ?_) (fun h => ?_)
    · refine VCs.of_vc Γ_good ?_
      refine Exists.intro () (And.intro trivial ?_)
      (repeat' (first | exact trivial | exact Or.inl rfl | exact Or.inl ((congrArg AV.b (by (try unfold kindBad at *); (try unfold oddF at *); (rw [Bool.eq_iff_iff]; (try simp only [beq_iff_eq, bne_iff_ne, beq_eq_false_iff_ne, bne_eq_false_iff_eq, decide_eq_true_eq, decide_eq_false_iff_not, Bool.not_eq_true', Bool.not_eq_false', Bool.not_true, Bool.not_false, ne_eq, Decidable.not_not, gt_iff_lt, ge_iff_le, Int.not_lt, Int.not_le, Bool.cond_true, Bool.cond_false, cond_true, cond_false, Int.reduceBNe, Int.reduceBEq, Int.reduceLT, Int.reduceLE, Int.reduceEq, Int.reduceNe, not_true_eq_false, not_false_eq_true, Bool.false_eq_true, Bool.true_eq_false, reduceCtorEq, Bool.and_eq_true, Bool.or_eq_true, Bool.and_eq_false_iff, Bool.or_eq_false_iff, Bool.true_and, Bool.and_true, Bool.false_and, Bool.and_false, Bool.or_false, Bool.false_or, Bool.or_true, Bool.true_or, bne_iff_ne, List.length_pos_iff, Int.natCast_pos, Int.ofNat_lt, Int.ofNat_le] at *); first | done | omega | grind)))) | refine And.intro ?_ ?_))
    replace h := of_decide_eq_false h
    refine VCs.cut Γ_good Unit (fun _ => True) (fun _ => ownS a (decide (a.kind ≠ 3 ∧ a.f ≠ 0))) ?_ ?_
    · (repeat' (first | (refine And.intro (fun h => ?_) (fun h => ?_) <;> (try simp [-List.getD_eq_getElem?_getD, -Int.pred_toNat] at h) <;> (try (exfalso; omega))) | (refine And.intro (rng64 (by omega) (by omega)) ?_) | (refine And.intro ⟨by omega, by omega⟩ ?_) | (refine And.intro ⟨by omega, by omega, by omega⟩ ?_) | (intro _)))
      all_goals refine Exists.intro () (And.intro trivial ?_)
      all_goals (repeat' (first | exact trivial | exact Or.inl rfl | exact Or.inl ((congrArg AV.b (by (try unfold oddF at *); (rw [Bool.eq_iff_iff]; (try simp only [beq_iff_eq, bne_iff_ne, beq_eq_false_iff_ne, bne_eq_false_iff_eq, decide_eq_true_eq, decide_eq_false_iff_not, Bool.not_eq_true', Bool.not_eq_false', Bool.not_true, Bool.not_false, ne_eq, Decidable.not_not, gt_iff_lt, ge_iff_le, Int.not_lt, Int.not_le, Bool.cond_true, Bool.cond_false, cond_true, cond_false, Int.reduceBNe, Int.reduceBEq, Int.reduceLT, Int.reduceLE, Int.reduceEq, Int.reduceNe, not_true_eq_false, not_false_eq_true, Bool.false_eq_true, Bool.true_eq_false, reduceCtorEq, Bool.and_eq_true, Bool.or_eq_true, Bool.and_eq_false_iff, Bool.or_eq_false_iff, Bool.true_and, Bool.and_true, Bool.false_and, Bool.and_false, Bool.or_false, Bool.false_or, Bool.or_true, Bool.true_or, bne_iff_ne, List.length_pos_iff, Int.natCast_pos, Int.ofNat_lt, Int.ofNat_le] at *); first | done | omega | grind)))) | refine And.intro ?_ ?_))
    intro _ _
    refine VCs.cond rfl (fun h => ?_) (fun h => ?_)
    · refine VCs.of_vc Γ_good ?_
      refine Exists.intro () (And.intro trivial ?_)
      (repeat' (first | exact trivial | exact Or.inl rfl | exact Or.inl ((congrArg AV.b (by (try unfold kindBad at *); (try unfold oddF at *); (rw [Bool.eq_iff_iff]; (try simp only [beq_iff_eq, bne_iff_ne, beq_eq_false_iff_ne, bne_eq_false_iff_eq, decide_eq_true_eq, decide_eq_false_iff_not, Bool.not_eq_true', Bool.not_eq_false', Bool.not_true, Bool.not_false, ne_eq, Decidable.not_not, gt_iff_lt, ge_iff_le, Int.not_lt, Int.not_le, Bool.cond_true, Bool.cond_false, cond_true, cond_false, Int.reduceBNe, Int.reduceBEq, Int.reduceLT, Int.reduceLE, Int.reduceEq, Int.reduceNe, not_true_eq_false, not_false_eq_true, Bool.false_eq_true, Bool.true_eq_false, reduceCtorEq, Bool.and_eq_true, Bool.or_eq_true, Bool.and_eq_false_iff, Bool.or_eq_false_iff, Bool.true_and, Bool.and_true, Bool.false_and, Bool.and_false, Bool.or_false, Bool.false_or, Bool.or_true, Bool.true_or, bne_iff_ne, List.length_pos_iff, Int.natCast_pos, Int.ofNat_lt, Int.ofNat_le] at *); first | done | omega | grind)))) | refine And.intro ?_ ?_))
    replace h := of_decide_eq_false h
    refine VCs.cut Γ_good Unit (fun _ => True) (fun _ => ownS a (decide (oddF a.f))) ?_ ?_
    · (repeat' (first | (refine And.intro (fun h => ?_) (fun h => ?_) <;> (try simp [-List.getD_eq_getElem?_getD, -Int.pred_toNat] at h) <;> (try (exfalso; omega))) | (refine And.intro (rng64 (by omega) (by omega)) ?_) | (refine And.intro ⟨by omega, by omega⟩ ?_) | (refine And.intro ⟨by omega, by omega, by omega⟩ ?_) | (intro _)))
      all_goals refine Exists.intro () (And.intro trivial ?_)
      all_goals (repeat' (first | exact trivial | exact Or.inl rfl | exact Or.inl ((congrArg AV.b (by (try unfold oddF at *); (rw [Bool.eq_iff_iff]; (try simp only [beq_iff_eq, bne_iff_ne, beq_eq_false_iff_ne, bne_eq_false_iff_eq, decide_eq_true_eq, decide_eq_false_iff_not, Bool.not_eq_true', Bool.not_eq_false', Bool.not_true, Bool.not_false, ne_eq, Decidable.not_not, gt_iff_lt, ge_iff_le, Int.not_lt, Int.not_le, Bool.cond_true, Bool.cond_false, cond_true, cond_false, Int.reduceBNe, Int.reduceBEq, Int.reduceLT, Int.reduceLE, Int.reduceEq, Int.reduceNe, not_true_eq_false, not_false_eq_true, Bool.false_eq_true, Bool.true_eq_false, reduceCtorEq, Bool.and_eq_true, Bool.or_eq_true, Bool.and_eq_false_iff, Bool.or_eq_false_iff, Bool.true_and, Bool.and_true, Bool.false_and, Bool.and_false, Bool.or_false, Bool.false_or, Bool.or_true, Bool.true_or, bne_iff_ne, List.length_pos_iff, Int.natCast_pos, Int.ofNat_lt, Int.ofNat_le] at *); first | done | omega | grind)))) | refine And.intro ?_ ?_))
    intro _ _
    refine VCs.cond rfl (fun h => ?_) (fun h => ?_)
    · refine VCs.of_vc Γ_good ?_
      refine Exists.intro () (And.intro trivial ?_)
      (repeat' (first | exact trivial | exact Or.inl rfl | exact Or.inl ((congrArg AV.b (by (try unfold kindBad at *); (try unfold oddF at *); (rw [Bool.eq_iff_iff]; (try simp only [beq_iff_eq, bne_iff_ne, beq_eq_false_iff_ne, bne_eq_false_iff_eq, decide_eq_true_eq, decide_eq_false_iff_not, Bool.not_eq_true', Bool.not_eq_false', Bool.not_true, Bool.not_false, ne_eq, Decidable.not_not, gt_iff_lt, ge_iff_le, Int.not_lt, Int.not_le, Bool.cond_true, Bool.cond_false, cond_true, cond_false, Int.reduceBNe, Int.reduceBEq, Int.reduceLT, Int.reduceLE, Int.reduceEq, Int.reduceNe, not_true_eq_false, not_false_eq_true, Bool.false_eq_true, Bool.true_eq_false, reduceCtorEq, Bool.and_eq_true, Bool.or_eq_true, Bool.and_eq_false_iff, Bool.or_eq_false_iff, Bool.true_and, Bool.and_true, Bool.false_and, Bool.and_false, Bool.or_false, Bool.false_or, Bool.or_true, Bool.true_or, bne_iff_ne, List.length_pos_iff, Int.natCast_pos, Int.ofNat_lt, Int.ofNat_le] at *); first | done | omega | grind)))) | refine And.intro ?_ ?_))
    replace h := of_decide_eq_false h
    refine VCs.cut Γ_good Unit (fun _ => True) (fun _ => ownS a (decide (a.kind ≠ 4 ∧ a.s ≠ []))) ?_ ?_
    · (repeat' (first | (refine And.intro (fun h => ?_) (fun h => ?_) <;> (try simp [-List.getD_eq_getElem?_getD, -Int.pred_toNat] at h) <;> (try (exfalso; omega))) | (refine And.intro (rng64 (by omega) (by omega)) ?_) | (refine And.intro ⟨by omega, by omega⟩ ?_) | (refine And.intro ⟨by omega, by omega, by omega⟩ ?_) | (intro _)))
      all_goals refine Exists.intro () (And.intro trivial ?_)
      all_goals (repeat' (first | exact trivial | exact Or.inl rfl | exact Or.inl ((congrArg AV.b (by (try unfold oddF at *); (rw [Bool.eq_iff_iff]; (try simp only [beq_iff_eq, bne_iff_ne, beq_eq_false_iff_ne, bne_eq_false_iff_eq, decide_eq_true_eq, decide_eq_false_iff_not, Bool.not_eq_true', Bool.not_eq_false', Bool.not_true, Bool.not_false, ne_eq, Decidable.not_not, gt_iff_lt, ge_iff_le, Int.not_lt, Int.not_le, Bool.cond_true, Bool.cond_false, cond_true, cond_false, Int.reduceBNe, Int.reduceBEq, Int.reduceLT, Int.reduceLE, Int.reduceEq, Int.reduceNe, not_true_eq_false, not_false_eq_true, Bool.false_eq_true, Bool.true_eq_false, reduceCtorEq, Bool.and_eq_true, Bool.or_eq_true, Bool.and_eq_false_iff, Bool.or_eq_false_iff, Bool.true_and, Bool.and_true, Bool.false_and, Bool.and_false, Bool.or_false, Bool.false_or, Bool.or_true, Bool.true_or, bne_iff_ne, List.length_pos_iff, Int.natCast_pos, Int.ofNat_lt, Int.ofNat_le] at *); first | done | omega | grind)))) | refine And.intro ?_ ?_))
    intro _ _
    refine VCs.cond rfl (fun h => ?_) (fun h => ?_)
    · refine VCs.of_vc Γ_good ?_
      refine Exists.intro () (And.intro trivial ?_)
      (repeat' (first | exact trivial | exact Or.inl rfl | exact Or.inl ((congrArg AV.b (by (try unfold kindBad at *); (try unfold oddF at *); (rw [Bool.eq_iff_iff]; (try simp only [beq_iff_eq, bne_iff_ne, beq_eq_false_iff_ne, bne_eq_false_iff_eq, decide_eq_true_eq, decide_eq_false_iff_not, Bool.not_eq_true', Bool.not_eq_false', Bool.not_true, Bool.not_false, ne_eq, Decidable.not_not, gt_iff_lt, ge_iff_le, Int.not_lt, Int.not_le, Bool.cond_true, Bool.cond_false, cond_true, cond_false, Int.reduceBNe, Int.reduceBEq, Int.reduceLT, Int.reduceLE, Int.reduceEq, Int.reduceNe, not_true_eq_false, not_false_eq_true, Bool.false_eq_true, Bool.true_eq_false, reduceCtorEq, Bool.and_eq_true, Bool.or_eq_true, Bool.and_eq_false_iff, Bool.or_eq_false_iff, Bool.true_and, Bool.and_true, Bool.false_and, Bool.and_false, Bool.or_false, Bool.false_or, Bool.or_true, Bool.true_or, bne_iff_ne, List.length_pos_iff, Int.natCast_pos, Int.ofNat_lt, Int.ofNat_le] at *); first | done | omega | grind)))) | refine And.intro ?_ ?_))
    replace h := of_decide_eq_false h
    refine VCs.cut Γ_good Unit (fun _ => True) (fun _ => ownS a (decide (a.kind ≠ 5 ∧ 0 < a.l.length))) ?_ ?_
    · (repeat' (first | (refine And.intro (fun h => ?_) (fun h => ?_) <;> (try simp [-List.getD_eq_getElem?_getD, -Int.pred_toNat] at h) <;> (try (exfalso; omega))) | (refine And.intro (rng64 (by omega) (by omega)) ?_) | (refine And.intro ⟨by omega, by omega⟩ ?_) | (refine And.intro ⟨by omega, by omega, by omega⟩ ?_) | (intro _)))
      all_goals refine Exists.intro () (And.intro trivial ?_)
      all_goals (repeat' (first | exact trivial | exact Or.inl rfl | exact Or.inl ((congrArg AV.b (by (try unfold oddF at *); (rw [Bool.eq_iff_iff]; (try simp only [beq_iff_eq, bne_iff_ne, beq_eq_false_iff_ne, bne_eq_false_iff_eq, decide_eq_true_eq, decide_eq_false_iff_not, Bool.not_eq_true', Bool.not_eq_false', Bool.not_true, Bool.not_false, ne_eq, Decidable.not_not, gt_iff_lt, ge_iff_le, Int.not_lt, Int.not_le, Bool.cond_true, Bool.cond_false, cond_true, cond_false, Int.reduceBNe, Int.reduceBEq, Int.reduceLT, Int.reduceLE, Int.reduceEq, Int.reduceNe, not_true_eq_false, not_false_eq_true, Bool.false_eq_true, Bool.true_eq_false, reduceCtorEq, Bool.and_eq_true, Bool.or_eq_true, Bool.and_eq_false_iff, Bool.or_eq_false_iff, Bool.true_and, Bool.and_true, Bool.false_and, Bool.and_false, Bool.or_false, Bool.false_or, Bool.or_true, Bool.true_or, bne_iff_ne, List.length_pos_iff, Int.natCast_pos, Int.ofNat_lt, Int.ofNat_le] at *); first | done | omega | grind)))) | refine And.intro ?_ ?_))
    intro _ _
    refine VCs.cond rfl (fun h => ?_) (fun h => ?_)
    · refine VCs.of_vc Γ_good ?_
      refine Exists.intro () (And.intro trivial ?_)
      (repeat' (first | exact trivial | exact Or.inl rfl | exact Or.inl ((congrArg AV.b (by (try unfold kindBad at *); (try unfold oddF at *); (rw [Bool.eq_iff_iff]; (try simp only [beq_iff_eq, bne_iff_ne, beq_eq_false_iff_ne, bne_eq_false_iff_eq, decide_eq_true_eq, decide_eq_false_iff_not, Bool.not_eq_true', Bool.not_eq_false', Bool.not_true, Bool.not_false, ne_eq, Decidable.not_not, gt_iff_lt, ge_iff_le, Int.not_lt, Int.not_le, Bool.cond_true, Bool.cond_false, cond_true, cond_false, Int.reduceBNe, Int.reduceBEq, Int.reduceLT, Int.reduceLE, Int.reduceEq, Int.reduceNe, not_true_eq_false, not_false_eq_true, Bool.false_eq_true, Bool.true_eq_false, reduceCtorEq, Bool.and_eq_true, Bool.or_eq_true, Bool.and_eq_false_iff, Bool.or_eq_false_iff, Bool.true_and, Bool.and_true, Bool.false_and, Bool.and_false, Bool.or_false, Bool.false_or, Bool.or_true, Bool.true_or, bne_iff_ne, List.length_pos_iff, Int.natCast_pos, Int.ofNat_lt, Int.ofNat_le] at *); first | done | omega | grind)))) | refine And.intro ?_ ?_))
    replace h := of_decide_eq_false h
    refine VCs.of_vc Γ_good ?_
    (repeat' (first | (refine And.intro (fun h => ?_) (fun h => ?_) <;> (try simp [-List.getD_eq_getElem?_getD, -Int.pred_toNat] at h) <;> (try (exfalso; omega))) | (refine And.intro (rng64 (by omega) (by omega)) ?_) | (refine And.intro ⟨by omega, by omega⟩ ?_) | (refine And.intro ⟨by omega, by omega, by omega⟩ ?_) | (intro _)))
    all_goals refine Exists.intro () (And.intro trivial ?_)
    all_goals (repeat' (first | exact trivial | exact Or.inl rfl | exact Or.inl ((congrArg AV.b (by (try unfold kindBad at *); (try unfold oddF at *); (rw [Bool.eq_iff_iff]; (try simp only [beq_iff_eq, bne_iff_ne, beq_eq_false_iff_ne, bne_eq_false_iff_eq, decide_eq_true_eq, decide_eq_false_iff_not, Bool.not_eq_true', Bool.not_eq_false', Bool.not_true, Bool.not_false, ne_eq, Decidable.not_not, gt_iff_lt, ge_iff_le, Int.not_lt, Int.not_le, Bool.cond_true, Bool.cond_false, cond_true, cond_false, Int.reduceBNe, Int.reduceBEq, Int.reduceLT, Int.reduceLE, Int.reduceEq, Int.reduceNe, not_true_eq_false, not_false_eq_true, Bool.false_eq_true, Bool.true_eq_false, reduceCtorEq, Bool.and_eq_true, Bool.or_eq_true, Bool.and_eq_false_iff, Bool.or_eq_false_iff, Bool.true_and, Bool.and_true, Bool.false_and, Bool.and_false, Bool.or_false, Bool.false_or, Bool.or_true, Bool.true_or, bne_iff_ne, List.length_pos_iff, Int.natCast_pos, Int.ofNat_lt, Int.ofNat_le] at *); first | done | omega | grind)))) | refine And.intro ?_ ?_))
  intro _ _
  refine VCs.cond rfl (fun h => ?_) (fun h => ?_)
  · have hk : kindBad a := of_decide_eq_true h
    refine VCs.of_vc Γ_good ?_
    refine congrArg (AV.i .i64) ?_
    rw [ownF, if_neg k1, if_pos hk]
  have hk : ¬ kindBad a := of_decide_eq_false h
  refine VCs.cut Γ_good Unit (fun _ => True) (fun _ => ⟨[(2, .pt 2 0), (99, .b (decide (4000 < a.s.length ∨ 200 < a.l.length ∨ 200 < a.e.length)))], [(2, encVal a)]⟩) ?_ ?_
  · (repeat' (first | (refine And.intro (fun h => ?_) (fun h => ?_) <;> (try simp [-List.getD_eq_getElem?_getD, -Int.pred_toNat] at h) <;> (try (exfalso; omega))) | (refine And.intro (rng64 (by omega) (by omega)) ?_) | (refine And.intro ⟨by omega, by omega⟩ ?_) | (refine And.intro ⟨by omega, by omega, by omega⟩ ?_) | (intro _)))
    all_goals refine Exists.intro () (And.intro trivial ?_)
    all_goals (repeat' (first | exact trivial | exact Or.inl rfl | exact Or.inl ((congrArg AV.b (by (rw [Bool.eq_iff_iff]; (try simp only [beq_iff_eq, bne_iff_ne, beq_eq_false_iff_ne, bne_eq_false_iff_eq, decide_eq_true_eq, decide_eq_false_iff_not, Bool.not_eq_true', Bool.not_eq_false', Bool.not_true, Bool.not_false, ne_eq, Decidable.not_not, gt_iff_lt, ge_iff_le, Int.not_lt, Int.not_le, Bool.cond_true, Bool.cond_false, cond_true, cond_false, Int.reduceBNe, Int.reduceBEq, Int.reduceLT, Int.reduceLE, Int.reduceEq, Int.reduceNe, not_true_eq_false, not_false_eq_true, Bool.false_eq_true, Bool.true_eq_false, reduceCtorEq, Bool.and_eq_true, Bool.or_eq_true, Bool.and_eq_false_iff, Bool.or_eq_false_iff, Bool.true_and, Bool.and_true, Bool.false_and, Bool.and_false, Bool.or_false, Bool.false_or, Bool.or_true, Bool.true_or, bne_iff_ne, List.length_pos_iff, Int.natCast_pos, Int.ofNat_lt, Int.ofNat_le] at *); first | done | omega | grind)))) | refine And.intro ?_ ?_))
  intro _ _
  refine VCs.cond rfl (fun h => ?_) (fun h => ?_)
  · refine VCs.of_vc Γ_good ?_
    refine congrArg (AV.i .i64) ?_
    rw [ownF, if_neg k1, if_neg hk, if_pos (of_decide_eq_true h)]
  have hk2 := of_decide_eq_false h
  refine VCs.of_vc Γ_good ?_
  refine Or.inl (Exists.intro _ (And.intro (s_Bad hu a.s) ?_))
  refine And.intro (fun hq => ?_) (fun hq => ?_)
  · refine congrArg (AV.i .i64) ?_
    rw [ownF, if_neg k1, if_neg hk, if_neg hk2, if_pos (of_decide_eq_true hq)]
  · refine VCs.of_vc Γ_good ?_
    refine congrArg (AV.i .i64) ?_
    rw [ownF, if_neg k1, if_neg hk, if_neg hk2, if_neg (of_decide_eq_false hq)]
theorem s_ownP (a : Val) (above : Int) (hu : HasU8) (h0 : 0 ≤ a.f) (h1 : a.f ≤ 18446744073709551615) : PSpec Tryd.prog 50 [.agg (encVal a), .i .i64 above] (.i .i64 (ownF a above)) :=
  pspec_of_VCs Γ_good Tryd.func50 rfl Tryd.call50 Tryd.results50 Tryd.ntmps50 (Nat.le_of_ble_eq_true rfl) (w_ownP a above hu h0 h1) Γ_good
end
end Go.Proofs.YtjlbaagnoppfgaaDoor
end
section
namespace Go.Proofs.YtjlbaagnoppfgaaDoor
set_option linter.unusedSectionVars false
set_option linter.unusedSimpArgs false
set_option linter.unusedVariables false
open Go Go.SX Go.Ck Go.Vl Go.Ut
set_option maxRecDepth 100000
set_option maxHeartbeats 1000000
section
variable [G : Globs]
theorem check_step (hu : HasU8) (y : Val) (above m : Int) (hy : VB y) (hn : (sizV y).2 ≤ 1000000000) (h0 : 0 ≤ above) (h1 : above ≤ 20) (hm0 : 0 ≤ m) (hm1 : m ≤ 2000)
    (hc : ¬ 20 ≤ above → ∀ x ∈ partsOf y, ∀ k, 0 ≤ k → k ≤ 2000 → CSpec Tryd.prog 35 [.agg (encVal x), .i .i64 (above + 1), .pt 1000 0] [(1000, [.i .i64 k])] (.i .i64 (chkV x (above + 1) k).1) [(1000, [.i .i64 (chkV x (above + 1) k).2])]) :
    CSpec Tryd.prog 35 [.agg (encVal y), .i .i64 above, .pt 1000 0] [(1000, [.i .i64 m])] (.i .i64 (chkV y above m).1) [(1000, [.i .i64 (chkV y above m).2])] := by
  have hlen := siz_len y
  have hfb : 0 ≤ y.f ∧ y.f ≤ 18446744073709551615 := by cases hy with | mk _ _ _ h3 => exact h3
  refine cspec_of_VCf (L := [3, 4, 5, 6, 7, 8, 9, 10, 11, 20, 25, 28, 29, 30, 31, 35, 40, 45, 62, 63, 70, 1000, 1003, 1004, 1005, 1006]) (N := 72) Γ_good Tryd.func35 rfl Tryd.call35 Tryd.ntmps35 (Nat.le_of_ble_eq_true rfl) rfl ?_
  have hcv := chkV_eq y above m
  generalize chkV y above m = R at hcv
  refine VCf.seq Γ_good (by decide) ?_
  refine VCf.seq Γ_good (by decide) ?_
  (refine And.intro (rng64 (by omega) (by omega)) ?_)
  refine And.intro (fun hq => ?_) (fun hq => ?_)
  · rw [if_pos (of_decide_eq_true hq)] at hcv
    subst hcv
    exact Exists.intro [] (And.intro rfl (by (repeat' (first | exact trivial | exact Or.inl rfl | exact Or.inr (Or.inl ⟨rfl, _, rfl⟩) | exact Or.inr (Or.inr (Or.inr ⟨_, _, _, rfl, rfl⟩)) | refine And.intro ?_ ?_))))
  rw [if_neg (of_decide_eq_false hq)] at hcv
  have hm2 : ¬ 2000 < m + 1 := of_decide_eq_false hq
  have hone : oneF y above = orI (ownF y above) (entF none y.e) := rfl
  refine VCf.seq Γ_good (by decide) ?_
  refine Or.inl (Exists.intro _ (And.intro (s_ownP y above hu hfb.1 hfb.2) ?_))
  refine And.intro (fun hq => ?_) (fun hq => ?_)
  · have hq : ownF y above ≠ 0 := by simpa using hq
    rw [orI_ne hq] at hone
    rw [hone, if_pos hq] at hcv
    subst hcv
    exact Exists.intro [] (And.intro rfl (by (repeat' (first | exact trivial | exact Or.inl rfl | exact Or.inr (Or.inl ⟨rfl, _, rfl⟩) | exact Or.inr (Or.inr (Or.inr ⟨_, _, _, rfl, rfl⟩)) | refine And.intro ?_ ?_))))
  have hq : ownF y above = 0 := by simpa using hq
  rw [hq, orI_zero] at hone
  have ha20 : ¬ 20 ≤ above := fun h => by rw [ownF, if_pos h] at hq; cases hq
  refine VCf.seq Γ_good (by decide) ?_
  intro hl
  refine Exists.intro [] (Exists.intro [] (Exists.intro [] (Exists.intro Nat (Exists.intro (fun i => i ≤ y.e.length ∧ entF none y.e = entF (keyAt y.e i) (y.e.drop i)) (Exists.intro (fun i => ⟨[(3, .pt 3 0), (4, .pt 4 0), (5, .pt 5 0), (6, .pt 6 0), (28, .rd .ent y.e), (29, .i .i64 y.e.length), (30, .i .i64 i)], [(1000, [.i .i64 (m + 1)]), (3, encVal y), (4, [.i .i64 above]), (5, [.pt 1000 0]), (6, [.i .i64 0])]⟩) (Exists.intro (fun i => y.e.length - i) (Exists.intro 0 (And.intro ⟨Nat.zero_le _, rfl⟩ (And.intro ?_ ?_)))))))))
  · (repeat' (first | exact trivial | exact Or.inl rfl | exact Or.inr (Or.inl ⟨rfl, _, rfl⟩) | exact Or.inr (Or.inr (Or.inr ⟨_, _, _, rfl, rfl⟩)) | refine And.intro ?_ ?_))
  · rintro i ⟨hi, he⟩
    refine And.intro (fun hz => ?_) (fun hz => ?_)
    · have hi := ltD hz
      have hg := getI (τ := .ent) hi
      refine And.intro ⟨by omega, by omega⟩ ?_
      rw [hg]
      intro _
      refine And.intro (fun hq => ?_) (fun hq => ?_)
      · have hk := keyF_large (p := keyAt y.e i) (k := y.e[i].1) (by have := of_decide_eq_true hq; omega)
        rw [entF_stop hi (by rw [hk]; decide), hk] at he
        rw [hone, he, if_pos (by decide)] at hcv
        subst hcv
        exact Exists.intro [] (And.intro rfl (by (repeat' (first | exact trivial | exact Or.inl rfl | exact Or.inr (Or.inl ⟨rfl, _, rfl⟩) | exact Or.inr (Or.inr (Or.inr ⟨_, _, _, rfl, rfl⟩)) | refine And.intro ?_ ?_))))
      have n1 : ¬ 100 < y.e[i].1.length := by have := of_decide_eq_false hq; omega
      refine Or.inl (Exists.intro _ (And.intro (s_Bad hu y.e[i].1) ?_))
      refine And.intro (fun hq => ?_) (fun hq => ?_)
      · have hk := keyF_text (p := keyAt y.e i) (k := y.e[i].1) n1 (of_decide_eq_true hq)
        rw [entF_stop hi (by rw [hk]; decide), hk] at he
        rw [hone, he, if_pos (by decide)] at hcv
        subst hcv
        exact Exists.intro [] (And.intro rfl (by (repeat' (first | exact trivial | exact Or.inl rfl | exact Or.inr (Or.inl ⟨rfl, _, rfl⟩) | exact Or.inr (Or.inr (Or.inr ⟨_, _, _, rfl, rfl⟩)) | refine And.intro ?_ ?_))))
      have n2 : ¬ 0 ≤ bad y.e[i].1 := of_decide_eq_false hq
      have hlen2 := len_le hl
      refine Exists.intro [.blk [0, 1, 2, 3, 4, 5, 6, 7, 8, 9, 10, 11, 12, 13, 14]] (And.intro (by kernel_rfl) ?_)
      refine And.intro (fun hq => ?_) (fun hq => ?_)
      · have hi0 : 0 < i := by have := of_decide_eq_true hq; omega
        have hL : (y.e.getD (Int.toNat ((i : Int) - 1)) (dflt .ent)).1 = lastK y.e i := by
          rw [show Int.toNat ((i : Int) - 1) = i - 1 from by omega, lastK, if_pos hi0]
        (refine And.intro (rng64 (by omega) (by omega)) ?_)
        refine And.intro ⟨by omega, by omega⟩ ?_
        generalize y.e.getD (Int.toNat ((i : Int) - 1)) (dflt .ent) = p at hL ⊢
        refine And.intro (fun hq => ?_) (fun hq => ?_)
        · have hk := keyF_order (e := y.e) n1 n2 hi0 (by rw [← hL]; simpa using (show (!Op.bytesLess p.1 y.e[i].1) = true from hq))
          rw [entF_stop hi (by rw [hk]; decide), hk] at he
          rw [hone, he, if_pos (by decide)] at hcv
          subst hcv
          exact Exists.intro [] (And.intro rfl (by (repeat' (first | exact trivial | exact Or.inl rfl | exact Or.inr (Or.inl ⟨rfl, _, rfl⟩) | exact Or.inr (Or.inr (Or.inr ⟨_, _, _, rfl, rfl⟩)) | refine And.intro ?_ ?_))))
        · have hk := keyF_ok (e := y.e) n1 n2 (fun _ => by rw [← hL]; simpa using (show (!Op.bytesLess p.1 y.e[i].1) = false from hq))
          rw [entF_go hi hk] at he
          (refine And.intro (rng64 (by omega) (by omega)) ?_)
          refine Exists.intro [] (Exists.intro (i + 1) (And.intro ⟨hi, he⟩ (And.intro ?_ ?_)))
          · (repeat' (first | exact trivial | exact Or.inl rfl | exact Or.inr (Or.inl ⟨rfl, _, rfl⟩) | exact Or.inr (Or.inr (Or.inr ⟨_, _, _, rfl, rfl⟩)) | refine And.intro ?_ ?_))
          · show y.e.length - (i + 1) < y.e.length - i
            omega
      · have hi0 : ¬ 0 < i := by have := of_decide_eq_false hq; omega
        refine And.intro (fun hq => Bool.noConfusion hq) (fun _ => ?_)
        have hk := keyF_ok (e := y.e) n1 n2 (fun h => absurd h hi0)
        rw [entF_go hi hk] at he
        (refine And.intro (rng64 (by omega) (by omega)) ?_)
        refine Exists.intro [] (Exists.intro (i + 1) (And.intro ⟨hi, he⟩ (And.intro ?_ ?_)))
        · (repeat' (first | exact trivial | exact Or.inl rfl | exact Or.inr (Or.inl ⟨rfl, _, rfl⟩) | exact Or.inr (Or.inr (Or.inr ⟨_, _, _, rfl, rfl⟩)) | refine And.intro ?_ ?_))
        · show y.e.length - (i + 1) < y.e.length - i
          omega
    · have hi := geD hi hz
      rw [entF_end _ (by omega)] at he
      rw [hone, he, if_neg (by decide)] at hcv
      have hcc := hc ha20
      clear hc
      refine VCf.renB 3 1003 rfl rfl ?_
      refine VCf.renB 4 1004 rfl rfl ?_
      refine VCf.renB 5 1005 rfl rfl ?_
      refine VCf.renB 6 1006 rfl rfl ?_
      refine VCf.range (σ := Int × Int) Γ_good (by decide) [(3, .pt 1003 0), (4, .pt 1004 0), (5, .pt 1005 0), (6, .pt 1006 0), (62, .fn 52 [.rp (encVal y)])] (fun pre => [(1000, [.i .i64 (chkL pre (above + 1) (m + 1)).2]), (1003, encVal y), (1004, [.i .i64 above]), (1005, [.pt 1000 0]), (1006, [.i .i64 0])]) (fun q => R = q ∧ q.1 ≠ 0) (fun q => [(1000, [.i .i64 q.2]), (1003, encVal y), (1004, [.i .i64 above]), (1005, [.pt 1000 0]), (1006, [.i .i64 q.1])]) [1000, 1003, 1004, 1005, 1006] (parts_it y (by omega) (by omega)) ?_ rfl rfl rfl rfl (fun _ => rfl) (fun _ => rfl) rfl rfl rfl (fun pre => (chkL pre (above + 1) (m + 1)).1 = 0) rfl ?_ ?_ ?_
      · refine Or.inl (Exists.intro _ (And.intro (s_parts y) ?_))
        refine Exists.intro [] ?_
        (repeat' (first | exact trivial | exact Or.inl rfl | exact Or.inr (Or.inl ⟨rfl, _, rfl⟩) | exact Or.inr (Or.inr (Or.inr ⟨_, _, _, rfl, rfl⟩)) | refine And.intro ?_ ?_))
      · intro pre x post hx hj
        have hm : x ∈ partsOf y := by rw [hx]; simp
        have hb := chkL_le pre (above + 1) (m + 1) (by omega) (by omega)
        generalize hk : (chkL pre (above + 1) (m + 1)).2 = k at hb
        have hpre : chkL pre (above + 1) (m + 1) = (0, k) := by rw [← hj, ← hk]
        have hs := hcc x hm k (by omega) (hb.2.2 hj)
        (refine And.intro (rng64 (by omega) (by omega)) ?_)
        refine Or.inr (Or.inl (Exists.intro [] (Exists.intro _ (Exists.intro _ (Exists.intro _ (Exists.intro _ (Exists.intro _ (Exists.intro [(1000, 1000)] (And.intro (hs) ?_)))))))))
        refine (And.intro rfl (And.intro rfl (And.intro rfl (And.intro rfl (And.intro rfl ?_)))))
        refine And.intro (fun hq => ?_) (fun hq => ?_)
        · have hq : (chkV x (above + 1) k).1 ≠ 0 := by simpa using hq
          refine Exists.intro [] (Exists.intro (chkV x (above + 1) k) (And.intro ⟨?_, hq⟩ ?_))
          · rw [hcv, hx]
            exact chkL_stop hpre rfl hq post
          · (repeat' (first | exact trivial | exact Or.inl rfl | exact Or.inr (Or.inl ⟨rfl, _, rfl⟩) | exact Or.inr (Or.inr (Or.inr ⟨_, _, _, rfl, rfl⟩)) | refine And.intro ?_ ?_))
        · have hq : (chkV x (above + 1) k).1 = 0 := by simpa using hq
          have hs2 := chkL_snoc hpre x
          rw [hs2]
          refine And.intro hq (Exists.intro [] ?_)
          (repeat' (first | exact trivial | exact Or.inl rfl | exact Or.inr (Or.inl ⟨rfl, _, rfl⟩) | exact Or.inr (Or.inr (Or.inr ⟨_, _, _, rfl, rfl⟩)) | refine And.intro ?_ ?_))
      · rintro ⟨e, k⟩ ⟨h1, h2⟩
        subst h1
        exact Exists.intro [] (And.intro rfl (by (repeat' (first | exact trivial | exact Or.inl rfl | exact Or.inr (Or.inl ⟨rfl, _, rfl⟩) | exact Or.inr (Or.inr (Or.inr ⟨_, _, _, rfl, rfl⟩)) | refine And.intro ?_ ?_))))
      · intro hj
        have h2 : R = (0, (chkL (partsOf y) (above + 1) (m + 1)).2) := by
          rw [hcv, ← hj]
        rw [h2]
        exact Exists.intro [] (And.intro rfl (by (repeat' (first | exact trivial | exact Or.inl rfl | exact Or.inr (Or.inl ⟨rfl, _, rfl⟩) | exact Or.inr (Or.inr (Or.inr ⟨_, _, _, rfl, rfl⟩)) | refine And.intro ?_ ?_))))
end
end Go.Proofs.YtjlbaagnoppfgaaDoor
end
section
namespace Go.Proofs.YtjlbaagnoppfgaaDoor
set_option linter.unusedSectionVars false
set_option linter.unusedSimpArgs false
set_option linter.unusedVariables false
open Go Go.SX Go.Ck Go.Vl Go.Ut
set_option maxRecDepth 100000
set_option maxHeartbeats 1000000
section
variable [G : Globs]
theorem vb_part {y x : Val} (hy : VB y) (hx : x ∈ partsOf y) : VB x := by
  cases hy with
  | mk _ _ _ _ h4 h5 =>
    rcases List.mem_append.1 hx with hx | hx
    · exact h4 x hx
    · obtain ⟨z, hz, rfl⟩ := List.mem_map.1 hx
      exact h5 z hz
theorem s_check (hu : HasU8) : ∀ (n : Nat) (y : Val) (above m : Int), SizeOf.sizeOf y < n → VB y → (sizV y).2 ≤ 1000000000 → 0 ≤ above → above ≤ 20 → 0 ≤ m → m ≤ 2000 →
    CSpec Tryd.prog 35 [.agg (encVal y), .i .i64 above, .pt 1000 0] [(1000, [.i .i64 m])] (.i .i64 (chkV y above m).1) [(1000, [.i .i64 (chkV y above m).2])] := by
  intro n
  induction n with
  | zero => intro y _ _ h; exact absurd h (Nat.not_lt_zero _)
  | succ n ih =>
    intro y above m h hy hn h0 h1 hm0 hm1
    exact check_step hu y above m hy hn h0 h1 hm0 hm1 fun ha x hx k hk0 hk1 => ih x (above + 1) k (by have := parts_sz hx; omega) (vb_part hy hx) (by have := (siz_parts y).2 x hx; omega) (by omega) (by omega) hk0 hk1
theorem w_Check (hu : HasU8) (a : Val) (ha : VB a) (hn : (sizV a).2 ≤ 1000000000) : vc Tryd.prog Γ 6 [1, 2, 3] (Tryd.f18.body.getD .skip) (postK Γ [.tmp 2] (fun v => v = .i .i64 (chkV a 0 0).1)) ⟨argSlots 0 [.agg (encVal a)], []⟩ := by
  refine Or.inr (Or.inl (Exists.intro [] (Exists.intro _ (Exists.intro _ (Exists.intro _ (Exists.intro _ (Exists.intro _ (Exists.intro [(1000, 3)] (And.intro (s_check hu _ a 0 0 (Nat.lt_succ_self _) ha hn (by decide) (by decide) (by decide) (by decide)) ?_)))))))))
  refine (And.intro rfl (And.intro rfl (And.intro rfl (And.intro rfl (And.intro rfl ?_)))))
  rfl
theorem s_Check (hu : HasU8) (a : Val) (ha : VB a) (hn : (sizV a).2 ≤ 1000000000) : PSpec Tryd.prog 18 [.agg (encVal a)] (.i .i64 (chkV a 0 0).1) :=
  pspec_of_vc Γ_good Tryd.func18 rfl Tryd.call18 Tryd.results18 Tryd.ntmps18 (Nat.le_of_ble_eq_true rfl) (w_Check hu a ha hn)
theorem w_sizeD (a : Val) (hn : (sizV a).2 ≤ 1000000000) (hl : ∀ x ∈ a.l, PSpec Tryd.prog 17 [.agg (encVal x)] (.tup [.i .i64 (sizV x).1, .i .i64 (sizV x).2])) (he : ∀ x ∈ a.e, PSpec Tryd.prog 17 [.agg (encVal x.2)] (.tup [.i .i64 (sizV x.2).1, .i .i64 (sizV x.2).2])) : vc Tryd.prog Γ 56 [1, 2, 3, 4, 5, 7, 8, 9, 11, 12, 13, 15, 16, 17, 18, 34, 35, 36, 37] (Tryd.f17.body.getD .skip) (postK Γ [.tmp 2, .tmp 3] (fun v => v = .tup [.i .i64 (sizV a).1, .i .i64 (sizV a).2])) ⟨argSlots 0 [.agg (encVal a)], []⟩ := by
  intro hll
  have hlen := siz_len a
  refine Exists.intro [] (Exists.intro [] (Exists.intro [] (Exists.intro Nat (Exists.intro (fun i => i ≤ a.l.length) (Exists.intro (fun i => ⟨[(1, .pt 1 0), (4, .i .i64 (foldS (a.l.take i) (0, 1)).1), (5, .i .i64 (foldS (a.l.take i) (0, 1)).2), (15, .rd .val a.l), (16, .i .i64 a.l.length), (17, .i .i64 i)], [(1, encVal a)]⟩) (Exists.intro (fun i => a.l.length - i) (Exists.intro 0 (And.intro (Nat.zero_le _) (And.intro ?_ ?_)))))))))
  · (repeat' (first | exact trivial | exact Or.inl rfl | exact Or.inr (Or.inl ⟨rfl, _, rfl⟩) | exact Or.inr (Or.inr (Or.inr ⟨_, _, _, rfl, rfl⟩)) | refine And.intro ?_ ?_))
  · rintro i hi
    refine And.intro (fun hz => ?_) (fun hz => ?_)
    · have hi := ltD hz
      have hg := getI (τ := .val) hi
      refine And.intro ⟨by omega, by omega⟩ ?_
      rw [hg]
      have hs := hl a.l[i] (List.getElem_mem hi)
      refine Or.inl (Exists.intro _ (And.intro (hs) ?_))
      have e1 : foldS (a.l.take (i + 1)) (0, 1) = addS (foldS (a.l.take i) (0, 1)) (sizV a.l[i]) := by rw [take_snoc hi, foldS_snoc]
      have h1 := siz_pre (v := a) (l := a.l.take i) (k := a.l.drop i ++ a.e.map (·.2)) (by rw [← List.append_assoc, List.take_append_drop]; rfl)
      have h2 := siz_pre (v := a) (l := a.l.take (i + 1)) (k := a.l.drop (i + 1) ++ a.e.map (·.2)) (by rw [← List.append_assoc, List.take_append_drop]; rfl)
      have e2 : (foldS (a.l.take (i + 1)) (0, 1)).2 = (foldS (a.l.take i) (0, 1)).2 + (sizV a.l[i]).2 := congrArg (·.2) e1
      have e3 : (foldS (a.l.take (i + 1)) (0, 1)).1 = _ := congrArg (·.1) e1
      (refine And.intro (rng64 (by omega) (by omega)) ?_)
      (refine And.intro (rng64 (by omega) (by omega)) ?_)
      refine Exists.intro [] (Exists.intro (i + 1) (And.intro hi (And.intro ?_ ?_)))
      · (repeat' (first | exact trivial | exact Or.inl rfl | exact Or.inl ((congrArg (fun p : Int × Int => AV.i .i64 p.1) e1.symm)) | exact Or.inl ((congrArg (fun p : Int × Int => AV.i .i64 p.2) e1.symm)) | refine And.intro ?_ ?_))
      · show a.l.length - (i + 1) < a.l.length - i
        omega
    · have hi := geD hi hz
      subst hi
      rw [List.take_length]
      intro hle
      refine Exists.intro [] (Exists.intro [] (Exists.intro [] (Exists.intro Nat (Exists.intro (fun i => i ≤ a.e.length) (Exists.intro (fun i => ⟨[(4, .i .i64 (foldS (a.l ++ (a.e.take i).map (·.2)) (0, 1)).1), (5, .i .i64 (foldS (a.l ++ (a.e.take i).map (·.2)) (0, 1)).2), (34, .rd .ent a.e), (35, .i .i64 a.e.length), (36, .i .i64 i)], []⟩) (Exists.intro (fun i => a.e.length - i) (Exists.intro 0 (And.intro (Nat.zero_le _) (And.intro ?_ ?_)))))))))
      · have e0 : foldS (a.l ++ (a.e.take 0).map (·.2)) (0, 1) = foldS a.l (0, 1) := by rw [List.take_zero, List.map_nil, List.append_nil]
        (repeat' (first | exact trivial | exact Or.inl rfl | exact Or.inl ((congrArg (fun p : Int × Int => AV.i .i64 p.1) e0.symm)) | exact Or.inl ((congrArg (fun p : Int × Int => AV.i .i64 p.2) e0.symm)) | refine And.intro ?_ ?_))
      · rintro i hi
        refine And.intro (fun hz => ?_) (fun hz => ?_)
        · have hi := ltD hz
          have hg := getI (τ := .ent) hi
          refine And.intro ⟨by omega, by omega⟩ ?_
          rw [hg]
          have hs := he a.e[i] (List.getElem_mem hi)
          refine Or.inl (Exists.intro _ (And.intro (hs) ?_))
          have hsn : a.l ++ (a.e.take (i + 1)).map (·.2) = (a.l ++ (a.e.take i).map (·.2)) ++ [a.e[i].2] := by rw [take_snoc hi, List.map_append, ← List.append_assoc]; rfl
          have e1 : foldS (a.l ++ (a.e.take (i + 1)).map (·.2)) (0, 1) = addS (foldS (a.l ++ (a.e.take i).map (·.2)) (0, 1)) (sizV a.e[i].2) := by rw [hsn, foldS_snoc]
          have h1 := siz_pre (v := a) (l := a.l ++ (a.e.take i).map (·.2)) (k := (a.e.drop i).map (·.2)) (by rw [List.append_assoc, ← List.map_append, List.take_append_drop]; rfl)
          have h2 := siz_pre (v := a) (l := a.l ++ (a.e.take (i + 1)).map (·.2)) (k := (a.e.drop (i + 1)).map (·.2)) (by rw [List.append_assoc, ← List.map_append, List.take_append_drop]; rfl)
          have e2 : (foldS (a.l ++ (a.e.take (i + 1)).map (·.2)) (0, 1)).2 = (foldS (a.l ++ (a.e.take i).map (·.2)) (0, 1)).2 + (sizV a.e[i].2).2 := congrArg (·.2) e1
          (refine And.intro (rng64 (by omega) (by omega)) ?_)
          (refine And.intro (rng64 (by omega) (by omega)) ?_)
          refine Exists.intro [] (Exists.intro (i + 1) (And.intro hi (And.intro ?_ ?_)))
          · (repeat' (first | exact trivial | exact Or.inl rfl | exact Or.inl ((congrArg (fun p : Int × Int => AV.i .i64 p.1) e1.symm)) | exact Or.inl ((congrArg (fun p : Int × Int => AV.i .i64 p.2) e1.symm)) | refine And.intro ?_ ?_))
          · show a.e.length - (i + 1) < a.e.length - i
            omega
        · have hi := geD hi hz
          subst hi
          rw [List.take_length]
          have h1 := siz_pre (v := a) (l := a.l ++ a.e.map (·.2)) (k := []) (by rw [List.append_nil]; rfl)
          (refine And.intro (rng64 (by omega) (by omega)) ?_)
          rw [sizV_eq]
          rfl
theorem s_sizeD (a : Val) (hn : (sizV a).2 ≤ 1000000000) (hl : ∀ x ∈ a.l, PSpec Tryd.prog 17 [.agg (encVal x)] (.tup [.i .i64 (sizV x).1, .i .i64 (sizV x).2])) (he : ∀ x ∈ a.e, PSpec Tryd.prog 17 [.agg (encVal x.2)] (.tup [.i .i64 (sizV x.2).1, .i .i64 (sizV x.2).2])) : PSpec Tryd.prog 17 [.agg (encVal a)] (.tup [.i .i64 (sizV a).1, .i .i64 (sizV a).2]) :=
  pspec_of_vc Γ_good Tryd.func17 rfl Tryd.call17 Tryd.results17 Tryd.ntmps17 (Nat.le_of_ble_eq_true rfl) (w_sizeD a hn hl he)
theorem s_SizeD : ∀ (n : Nat) (y : Val), SizeOf.sizeOf y < n → (sizV y).2 ≤ 1000000000 → PSpec Tryd.prog 17 [.agg (encVal y)] (.tup [.i .i64 (sizV y).1, .i .i64 (sizV y).2]) := by
  intro n
  induction n with
  | zero => intro y h; exact absurd h (Nat.not_lt_zero _)
  | succ n ih =>
    intro y h hn
    refine s_sizeD y hn (fun x hx => ih x (by have := val_sz_l hx; omega) ?_) (fun x hx => ih x.2 (by have := val_sz_e hx; omega) ?_)
    · have := (siz_parts y).2 x (List.mem_append_left _ hx); omega
    · have := (siz_parts y).2 x.2 (List.mem_append_right _ (List.mem_map.2 ⟨x, hx, rfl⟩)); omega
theorem chk_T (a : Val) : (chkV a 0 0).1 = chkT [⟨a, 0⟩] 0 := by
  rw [chkT]
  simp only
  cases chkV a 0 0 with
  | mk e m =>
    simp only [chkT]
    by_cases h : e = 0
    · simp [h]
    · simp [h]
theorem w_law (hu : HasU8) (a : Val) (ha : VB a) (hn : (sizV a).2 ≤ 1000000000) : vc Tryd.prog Γ 27 [1, 2, 3, 4] (Tryd.f4.body.getD .skip) (postK Γ [.tmp 2] (fun v => v = .b true)) ⟨argSlots 0 [.agg (encVal a)], []⟩ := by
  refine Or.inl (Exists.intro _ (And.intro (s_SizeD _ a (Nat.lt_succ_self _) hn) ?_))
  refine Exists.intro [.blk [0, 1, 2, 3, 4, 5, 6, 7, 8, 9, 10, 11, 12, 13, 14, 15, 16, 17]] (And.intro (by kernel_rfl) ?_)
  refine Exists.intro _ (And.intro (s_Check hu a ha hn) ?_)
  refine Exists.intro _ (And.intro (s_fault a ha hn) ?_)
  rw [chk_T]
  refine And.intro (fun _ => ?_) (fun h => ?_)
  · refine Exists.intro _ (And.intro (s_Depth _ a (Nat.lt_succ_self _) hn) ?_)
    refine And.intro (fun _ => ?_) (fun h => ?_)
    · refine Exists.intro _ (And.intro (s_Nodes _ a (Nat.lt_succ_self _) hn) ?_)
      exact congrArg AV.b (beq_self_eq_true (sizV a).2)
    · exact absurd ((beq_self_eq_true (sizV a).1).symm.trans h) (by decide)
  · exact absurd ((beq_self_eq_true (chkT [⟨a, 0⟩] 0)).symm.trans h) (by decide)
theorem s_law (hu : HasU8) (a : Val) (ha : VB a) (hn : (sizV a).2 ≤ 1000000000) : PSpec Tryd.prog 4 [.agg (encVal a)] (.b true) :=
  pspec_of_vc Γ_good Tryd.func4 rfl Tryd.call4 Tryd.results4 Tryd.ntmps4 (Nat.le_of_ble_eq_true rfl) (w_law hu a ha hn)
end
end Go.Proofs.YtjlbaagnoppfgaaDoor
end
section
namespace Go.SX
set_option linter.unusedSectionVars false
set_option linter.unusedVariables false
set_option linter.unusedSimpArgs false
open Go.RowKit Go.WideShapes Go.ChangeShapes Go.Deep
structure BulkS {H : Type} (bk : DataW H → Nat) : Prop where
  sl : ∀ els rest, (els.map bk).sum + 1 ≤ bk (.slice els rest)
  ag : ∀ ds, (ds.map bk).sum + 1 ≤ bk (.agg ds)
  st : ∀ b, b.length + 1 ≤ bk (.lit (.string b))
  pos : ∀ d, 1 ≤ bk d
/-! the bulk of a value -/
mutual
def bkV : Val → Nat
  | ⟨_, _, _, s, l, e⟩ => s.length + bkL l + bkE e + 7
def bkL : List Val → Nat
  | [] => 0
  | x :: xs => bkV x + bkL xs
def bkE : List (Str × Val) → Nat
  | [] => 0
  | x :: xs => bkP x + bkE xs
def bkP : Str × Val → Nat
  | (k, x) => k.length + bkV x + 2
end
theorem bkL_sum (l : List Val) : bkL l = (l.map bkV).sum := by
  induction l with
  | nil => rfl
  | cons x r ih => rw [bkL, List.map_cons, List.sum_cons, ih]
theorem bkE_sum (l : List (Str × Val)) : bkE l = (l.map bkP).sum := by
  induction l with
  | nil => rfl
  | cons x r ih => rw [bkE, List.map_cons, List.sum_cons, ih]
theorem bkV_eq (v : Val) : bkV v = v.s.length + (v.l.map bkV).sum + (v.e.map bkP).sum + 7 := by
  cases v
  rw [bkV, bkL_sum, bkE_sum]
theorem bkP_eq (p : Str × Val) : bkP p = p.1.length + bkV p.2 + 2 := by
  cases p
  rw [bkP]
theorem sum_mem {α : Type} {m : α → Nat} : ∀ {l : List α} {x : α}, x ∈ l → m x ≤ (l.map m).sum
  | y :: r, x, h => by
    rw [List.map_cons, List.sum_cons]
    rcases List.mem_cons.1 h with rfl | h
    · omega
    · have := sum_mem (m := m) h
      omega
theorem sum_len {α : Type} {m : α → Nat} (h1 : ∀ x, 1 ≤ m x) : ∀ l : List α, l.length ≤ (l.map m).sum
  | [] => Nat.zero_le _
  | x :: r => by
    have := sum_len h1 r
    have := h1 x
    rw [List.map_cons, List.sum_cons, List.length_cons]
    omega
theorem sum_le2 {α β : Type} {m : α → Nat} {k : β → Nat} : ∀ {l : List α} {r : List β}, l.length = r.length → (∀ (i : Nat) x y, l[i]? = some x → r[i]? = some y → m x ≤ k y) → (l.map m).sum ≤ (r.map k).sum
  | [], _, _, _ => Nat.zero_le _
  | x :: l, [], h, _ => nomatch h
  | x :: l, y :: r, h, hh => by
    have h1 := hh 0 x y rfl rfl
    have h2 := sum_le2 (m := m) (k := k) (l := l) (r := r) (by simpa using h) (fun i a b ha hb => hh (i + 1) a b (by simpa using ha) (by simpa using hb))
    rw [List.map_cons, List.sum_cons, List.map_cons, List.sum_cons]
    omega
theorem bkV_pos (v : Val) : 1 ≤ bkV v := by rw [bkV_eq]; omega
theorem bkP_pos (p : Str × Val) : 1 ≤ bkP p := by rw [bkP_eq]; omega
theorem bkV_l {v : Val} : (v.l.map bkV).sum + 7 ≤ bkV v := by rw [bkV_eq v]; omega
theorem bkV_mem {v x : Val} (h : x ∈ v.l) : bkV x < bkV v := by
  have := sum_mem (m := bkV) h
  rw [bkV_eq v]
  omega
theorem bkV_ent {v : Val} {p : Str × Val} (h : p ∈ v.e) : bkV p.2 + p.1.length < bkV v := by
  have := sum_mem (m := bkP) h
  rw [bkP_eq] at this
  rw [bkV_eq v]
  omega
theorem bkV_len (v : Val) : v.s.length + v.l.length + v.e.length < bkV v := by
  have h1 := sum_len (m := bkV) bkV_pos v.l
  have h2 := sum_len (m := bkP) bkP_pos v.e
  rw [bkV_eq v]
  omega
section
variable [Globs]
variable {H : Type} {encH : TypeId × Value → H} {P : Program} {W : World} {sp : Nat → Bool} {hd : Bool} {O : Nat → Prop} {bk : DataW H → Nat}
/-- a slice, by its elements, which are read with less fuel -/
theorem arg_sliceS {t e : TypeId} {τ : Ty} {m : den τ → Nat} {R : den τ → Prop} (hbk : BulkS bk) (hO : ∀ k, ¬ O k) (ht : P.underlying t = some (.slice e)) (hc : P.cellsOf e = esz τ) {fuel : Nat}
    (hel : ∀ n, n < fuel → ∀ (cs : List Value) (x : DataW H × List MemPlace), DataW.trod encH P W 0 sp hd n e cs = some x → ∃ y : den τ, All2 (Im O W) (enc τ y) cs ∧ m y ≤ bk x.1 ∧ R y)
    {cs : List Value} {x : DataW H × List MemPlace} (h : DataW.trod encH P W 0 sp hd fuel t cs = some x) : ∃ (l : List (den τ)) (v : Value), cs = [v] ∧ Im O W (.rd τ l) v ∧ (l.map m).sum + 1 ≤ bk x.1 ∧ ∀ y ∈ l, R y := by
  rcases DataW.trod_slice ht h with ⟨rfl, rfl⟩ | ⟨a, len, cap, elems, rest, n, rfl, rfl, rfl, hb, hlc, hcm, hlen, hall, _, _⟩
  · exact ⟨[], _, rfl, .rd0 τ none 0 (Nat.zero_le _), by simpa using hbk.pos _, fun y hy => nomatch hy⟩
  by_cases h0 : len = 0
  · subst h0; exact ⟨[], _, rfl, .rd0 τ _ _ hcm, by simpa using hbk.pos _, fun y hy => nomatch hy⟩
  have hall : ∀ i, i < len → ∃ (us : List Value) (y : DataW H × List MemPlace), W.cells? 0 (a.add (i * P.cellsOf e)) (P.cellsOf e) = some us ∧ DataW.trod encH P W 0 sp hd n e us = some y ∧ elems[i]? = some y := fun i hi => by
    have := hall i hi
    rw [List.getElem?_eq_getElem (by omega)] at this
    obtain ⟨us, h1, h2⟩ := Option.bind_eq_some_iff.1 this
    exact ⟨us, _, h1, h2, List.getElem?_eq_getElem _⟩
  have hch : ∀ i, i < len → ∃ (y : den τ) (us : List Value), (All2 (Im O W) (enc τ y) us ∧ (∀ d, elems[i]? = some d → m y ≤ bk d.1) ∧ R y) ∧ us.length = esz τ ∧ ∀ (j : Nat) v, us[j]? = some v → W.cell? ⟨a.block, a.off + (i * esz τ + j), none⟩ = some v := by
    intro i hi
    obtain ⟨us, yy, h1, h2, hm⟩ := hall i hi
    obtain ⟨y, hy⟩ := hel n (Nat.lt_succ_self n) _ _ h2
    rw [hc] at h1
    obtain ⟨h3, h4⟩ := cells_get h1
    refine ⟨y, us, ⟨hy.1, fun d hd => ?_, hy.2.2⟩, h3, fun j v hv => ?_⟩
    · rw [hm] at hd
      injection hd with hd
      subst hd
      exact hy.2.1
    have h5 := h4 j v hv
    have hs : ∀ j v, us[j]? = some v → ((a.add (i * esz τ)).add j).spot = none := fun j v hv => World.cell?_spot (h4 j v hv)
    have hpos := esz_pos τ
    have h00 : (a.add (i * esz τ)).spot = none := by
      have := hs 0 (us[0]'(by omega)) (List.getElem?_eq_getElem _)
      simpa [Addr.add] using this
    have e1 := add_of h00
    rw [e1] at h5
    rw [add_none] at h5
    rw [← h5, Nat.add_assoc]
  have ys : ∃ l : List (den τ), l.length = len ∧ ∀ (i : Nat) y, l[i]? = some y → ∃ us : List Value, (All2 (Im O W) (enc τ y) us ∧ (∀ d, elems[i]? = some d → m y ≤ bk d.1) ∧ R y) ∧ ∀ (j : Nat) v, us[j]? = some v → W.cell? ⟨a.block, a.off + (i * esz τ + j), none⟩ = some v := by
    have hch' := fun (i : Fin len) => hch i.1 i.2
    refine ⟨List.ofFn fun i : Fin len => Classical.choose (hch' i), by simp, fun i y hy => ?_⟩
    have hi : i < len := by have := (List.getElem?_eq_some_iff.1 hy).1; simpa using this
    rw [List.getElem?_ofFn, dif_pos hi] at hy
    injection hy with hy
    subst hy
    obtain ⟨us, h1, _, h2⟩ := Classical.choose_spec (hch' ⟨i, hi⟩)
    exact ⟨us, h1, h2⟩
  obtain ⟨l, hll, hl⟩ := ys
  refine ⟨l, _, rfl, ?_, ?_, fun y hy => ?_⟩
  rotate_left
  · have h1 := hbk.sl (elems.map (·.1)) (rest.map (·.1))
    have h2 : (l.map m).sum ≤ ((elems.map (·.1)).map bk).sum := sum_le2 (by rw [List.length_map]; omega) fun i y d hy hd => by
      obtain ⟨us, h3, _⟩ := hl i y hy
      rw [List.getElem?_map, Option.map_eq_some_iff] at hd
      obtain ⟨d', hd', rfl⟩ := hd
      exact h3.2.1 d' hd'
    exact Nat.le_trans (Nat.succ_le_succ h2) h1
  · obtain ⟨i, hi, rfl⟩ := List.getElem_of_mem hy
    obtain ⟨us, h1, _⟩ := hl i _ (List.getElem?_eq_getElem hi)
    exact h1.2.2
  have hane : a = ⟨a.block, a.off, none⟩ := by
    obtain ⟨us', yy, h1, h2, _⟩ := hall 0 (by omega)
    have hpos := esz_pos τ
    rw [hc] at h1
    obtain ⟨h5, h6⟩ := cells_get h1
    have := World.cell?_spot (h6 0 (us'[0]'(by omega)) (List.getElem?_eq_getElem _))
    simp [Addr.add] at this
    obtain ⟨b, o, s⟩ := a
    simp only at this
    subst this
    rfl
  rw [hane, ← hll]
  refine .rd τ l a.block a.off cap (fun i j => (W.cell? ⟨a.block, a.off + (i * esz τ + j), none⟩).getD undef) (hO _) (by omega) hcm (fun e => h0 (by rw [← hll, e]; rfl)) (fun i y j av hy hav => ?_) (fun i y j av hy hav => ?_)
  · obtain ⟨us, h1, h2⟩ := hl i y hy
    have hj : j < us.length := by rw [← h1.1.1]; exact (List.getElem?_eq_some_iff.1 hav).1
    rw [h2 j _ (List.getElem?_eq_getElem hj)]; rfl
  · obtain ⟨us, h1, h2⟩ := hl i y hy
    have hj : j < us.length := by rw [← h1.1.1]; exact (List.getElem?_eq_some_iff.1 hav).1
    rw [h2 j _ (List.getElem?_eq_getElem hj)]
    exact h1.1.2 j av _ hav (List.getElem?_eq_getElem hj)
theorem one_fieldS {t : TypeId} {fs : Array Field} {fuel : Nat} {cs : List Value} {x : DataW H × List MemPlace} (ht : P.underlying t = some (.struct fs)) (h : DataW.trod encH P W 0 sp hd fuel t cs = some x) :
    ∃ (n : Nat) (ds : List (DataW H)), fuel = n + 1 ∧ cs.length = P.cellsOf t ∧ x.1 = .agg ds ∧ ds.length = fs.size ∧ ∀ (i off : Nat) (t' : TypeId), HasF fs i off t' → ∃ y, DataW.trod encH P W 0 sp hd n t' ((cs.drop off).take (P.cellsOf t')) = some y ∧ ds[i]? = some y.1 := by
  obtain ⟨xs, n, hn, rfl, h1, h2, h3⟩ := DataW.trod_struct ht h
  refine ⟨n, xs.map (·.1), hn, h1, rfl, by rw [List.length_map]; exact h2, fun i off t' hf => ?_⟩
  obtain ⟨f, hf, rfl, rfl⟩ := hf
  have hi : i < xs.length := by rw [h2]; exact (Array.getElem?_eq_some_iff.1 hf).1
  rw [h3 i f hf, List.getElem?_eq_getElem hi]
  exact ⟨_, rfl, by rw [List.getElem?_map, List.getElem?_eq_getElem hi]; rfl⟩
theorem arg_strS (hbk : BulkS bk) {t : TypeId} {fuel : Nat} {cs : List Value} {x : DataW H × List MemPlace} (ht : P.underlying t = some .string) (h : DataW.trod encH P W 0 sp hd fuel t cs = some x) : ∃ (l : Str) (v : Value), cs = [v] ∧ Im O W (.s l) v ∧ l.length + 1 ≤ bk x.1 := by
  obtain ⟨s, h1, h3, h2⟩ := DataW.trod_string ht h
  refine ⟨s.data.toList, .string s, h1, ?_, ?_⟩
  · have := Im.s (O := O) (w := W) s.data.toList (by rw [Array.length_toList]; exact h2)
    simpa using this
  · rw [h3]; exact hbk.st _
theorem arg_valS {V : TypeId} (hbk : BulkS bk) (T : VTy P V) (hs : T.fs.size = 6) (hs2 : T.gs.size = 2) (hO : ∀ k, ¬ O k) : ∀ (fuel : Nat) (cs : List Value) (x : DataW H × List MemPlace), DataW.trod encH P W 0 sp hd fuel V cs = some x → ∃ y : Val, All2 (Im O W) (encVal y) cs ∧ bkV y ≤ bk x.1 ∧ VB y := by
  intro fuel
  induction fuel using Nat.strongRecOn with
  | _ fuel ih =>
  intro cs x h
  obtain ⟨n, ds, rfl, hl, hag, hds, hf⟩ := one_fieldS T.hV h
  rw [T.cV] at hl
  rw [hs] at hds
  obtain ⟨c0, c1, c2, c3, c4, c5⟩ := T.c
  match cs, hl, ds, hds with
  | [u0, u1, u2, u3, u4, u5], _, [d0, d1, d2, d3, d4, d5], _ =>
    obtain ⟨y0, q0, k0⟩ := hf 0 0 _ T.h0
    obtain ⟨y1, q1, k1⟩ := hf 1 1 _ T.h1
    obtain ⟨y2, q2, k2⟩ := hf 2 2 _ T.h2
    obtain ⟨y3, q3, k3⟩ := hf 3 3 _ T.h3
    obtain ⟨y4, q4, k4⟩ := hf 4 4 _ T.h4
    obtain ⟨y5, q5, k5⟩ := hf 5 5 _ T.h5
    simp only [List.getElem?_cons_zero, List.getElem?_cons_succ, Option.some.injEq] at k0 k1 k2 k3 k4 k5
    subst k0 k1 k2 k3 k4 k5
    rw [c0] at q0
    rw [c1] at q1
    rw [c2] at q2
    rw [c3] at q3
    rw [c4] at q4
    rw [c5] at q5
    obtain ⟨k, e0, i0, w0⟩ := arg_int (O := O) T.uK q0
    obtain ⟨m, e1, i1, w1⟩ := arg_int (O := O) T.uN q1
    obtain ⟨f, e2, i2, w2⟩ := arg_int (O := O) T.uU q2
    obtain ⟨s, vs, e3, i3, z3⟩ := arg_strS (O := O) hbk T.uS q3
    obtain ⟨l, vl, e4, i4, z4, r4⟩ := arg_sliceS (O := O) (τ := .val) (m := bkV) (R := VB) hbk hO T.uL T.cV (fun n' hn cs' x' hx => ih n' (by omega) cs' x' hx) q4
    obtain ⟨es, ve, e5, i5, z5, r5⟩ := arg_sliceS (O := O) (τ := .ent) (m := bkP) (R := fun p => VB p.2) hbk hO T.uE T.cE (fun n' hn cs' x' hx => by
      obtain ⟨n2, ds2, rfl, hl2, hag2, hds2, hf2⟩ := one_fieldS T.hE hx
      rw [T.cE] at hl2
      rw [hs2] at hds2
      match cs', hl2, ds2, hds2 with
      | [z0, z1, z2, z3, z4, z5, z6], _, [g0, g1], _ =>
        obtain ⟨_, p0, m0⟩ := hf2 0 0 _ T.g0
        obtain ⟨_, p1, m1⟩ := hf2 1 1 _ T.g1
        simp only [List.getElem?_cons_zero, List.getElem?_cons_succ, Option.some.injEq] at m0 m1
        subst m0 m1
        rw [c3] at p0
        rw [T.cV] at p1
        obtain ⟨ks, kv, d0, j0, lk⟩ := arg_strS (O := O) hbk T.uS p0
        obtain ⟨y, j1, hyb, hy⟩ := ih n2 (by omega) _ _ p1
        simp at d0
        subst d0
        refine ⟨(ks, y), All2.cons j0 (by simpa using j1), ?_, hy⟩
        rw [hag2]
        refine Nat.le_trans ?_ (hbk.ag _)
        rw [bkP_eq]
        simp only [List.map_cons, List.map_nil, List.sum_cons, List.sum_nil]
        omega) q5
    simp at e0 e1 e2 e3 e4 e5
    subst e0 e1 e2 e3 e4 e5
    refine ⟨⟨k, m, f, s, l, es⟩, All2.cons i0 (All2.cons i1 (All2.cons i2 (All2.cons i3 (All2.cons i4 (All2.cons i5 (All2.nil _)))))), ?_, .mk _ (wf_i64 w0) (wf_i64 w1) (wf_u64 w2) r4 r5⟩
    have h9 := hbk.ag [y0.1, y1.1, y2.1, y3.1, y4.1, y5.1]
    have p0 := hbk.pos y0.1
    have p1 := hbk.pos y1.1
    have p2 := hbk.pos y2.1
    rw [hag]
    refine Nat.le_trans ?_ h9
    rw [bkV_eq]
    simp only [List.map_cons, List.map_nil, List.sum_cons, List.sum_nil]
    omega
theorem arg_entS {V : TypeId} (hbk : BulkS bk) (T : VTy P V) (hs : T.fs.size = 6) (hs2 : T.gs.size = 2) (hO : ∀ k, ¬ O k) {fuel : Nat} {cs : List Value} {x : DataW H × List MemPlace} (hx : DataW.trod encH P W 0 sp hd fuel T.En cs = some x) : ∃ p : Str × Val, All2 (Im O W) (enc .ent p) cs ∧ bkP p ≤ bk x.1 ∧ VB p.2 := by
  obtain ⟨n2, ds2, rfl, hl2, hag2, hds2, hf2⟩ := one_fieldS T.hE hx
  rw [T.cE] at hl2
  rw [hs2] at hds2
  obtain ⟨c0, c1, c2, c3, c4, c5⟩ := T.c
  match cs, hl2, ds2, hds2 with
  | [z0, z1, z2, z3, z4, z5, z6], _, [g0, g1], _ =>
    obtain ⟨_, p0, m0⟩ := hf2 0 0 _ T.g0
    obtain ⟨_, p1, m1⟩ := hf2 1 1 _ T.g1
    simp only [List.getElem?_cons_zero, List.getElem?_cons_succ, Option.some.injEq] at m0 m1
    subst m0 m1
    rw [c3] at p0
    rw [T.cV] at p1
    obtain ⟨ks, kv, d0, j0, lk⟩ := arg_strS (O := O) hbk T.uS p0
    obtain ⟨y, j1, hyb, hy⟩ := arg_valS hbk T hs hs2 hO n2 _ _ p1
    simp at d0
    subst d0
    refine ⟨(ks, y), All2.cons j0 (by simpa using j1), ?_, hy⟩
    rw [hag2]
    refine Nat.le_trans ?_ (hbk.ag _)
    rw [bkP_eq]
    simp only [List.map_cons, List.map_nil, List.sum_cons, List.sum_nil]
    omega
end
end Go.SX
end
section
namespace Go.Ck
set_option linter.unusedSectionVars false
set_option linter.unusedSimpArgs false
set_option linter.unusedVariables false
open Go.SX Go.Vl
theorem sum_bulk : ∀ l : List Val, (∀ x ∈ l, (sizV x).2 ≤ (bkV x : Int)) → sumT (l.map fun v => (⟨v, 0⟩ : VPlace)) ≤ ((l.map bkV).sum : Nat)
  | [], _ => by simp [sumT]
  | x :: r, h => by
    have h1 := h x (.head _)
    have h2 := sum_bulk r fun y hy => h y (.tail _ hy)
    rw [List.map_cons, sumT, List.map_cons, List.sum_cons]
    show (sizV x).2 + _ ≤ _
    omega
theorem siz_bulk_n : ∀ (n : Nat) (v : Val), SizeOf.sizeOf v < n → (sizV v).2 ≤ (bkV v : Int) := by
  intro n
  induction n with
  | zero => intro v h; exact absurd h (Nat.not_lt_zero _)
  | succ n ih =>
    intro v h
    have h1 := sum_bulk (partsOf v) fun x hx => ih x (by have := parts_sz hx; omega)
    have h2 := fold_sum (partsOf v) (0, 1) 0
    have h3 : ((partsOf v).map bkV).sum ≤ (v.l.map bkV).sum + (v.e.map bkP).sum := by
      unfold partsOf
      rw [List.map_append, List.sum_append, List.map_map]
      have : (v.e.map (bkV ∘ (·.2))).sum ≤ (v.e.map bkP).sum := by
        generalize v.e = e
        induction e with
        | nil => exact Nat.le_refl _
        | cons p r ih =>
          rw [List.map_cons, List.sum_cons, List.map_cons, List.sum_cons, bkP_eq]
          simp only [Function.comp]
          omega
      omega
    rw [sizV_eq, bkV_eq]
    simp only at h2 ⊢
    omega
theorem siz_bulk (v : Val) : (sizV v).2 ≤ (bkV v : Int) := siz_bulk_n _ v (Nat.lt_succ_self _)
end Go.Ck
end
section
namespace Go.Proofs.YtjlbaagnoppfgaaDoor.valChecks
set_option linter.unusedSectionVars false
set_option linter.unusedSimpArgs false
set_option linter.unusedVariables false
open Go Go.SX Go.Ck Go.Ut
open Go.ChangeShapes Go.WideShapes Go.ChangeAt Go.RowKit
set_option maxRecDepth 100000
theorem own : ownKnob Tryd.prog.godebug = none := by kernel_rfl
theorem laidOut : laidOutB Tryd.prog = true := by kernel_rfl
theorem cell_block {w : World} {g o : Nat} {k : IntKind} {n : Int} (h : w.cell? ⟨g, o, none⟩ = some (.int k n)) : ∃ cur e fz, w.heap[g]? = some (.cells cur e fz) ∧ cur[o]? = some (.int k n) := by
  unfold World.cell? at h
  split at h
  · rename_i cur e fz hh
    exact ⟨_, _, _, hh, by simpa using h⟩
  · cases h
noncomputable def vty [G : Globs] : VTy Tryd.prog 39 where
  fs := _
  gs := _
  K := 3
  N := 2
  U := 35
  S := 9
  L := 36
  E := 37
  En := 62
  hV := Tryd.underlying39
  cV := by kernel_rfl
  h0 := ⟨_, rfl, rfl, rfl⟩
  h1 := ⟨_, rfl, rfl, rfl⟩
  h2 := ⟨_, rfl, rfl, rfl⟩
  h3 := ⟨_, rfl, rfl, rfl⟩
  h4 := ⟨_, rfl, rfl, rfl⟩
  h5 := ⟨_, rfl, rfl, rfl⟩
  uK := Tryd.underlying3
  uN := Tryd.underlying2
  uU := Tryd.underlying35
  uS := Tryd.underlying9
  uL := Tryd.underlying36
  uE := Tryd.underlying37
  c := ⟨by kernel_rfl, by kernel_rfl, by kernel_rfl, by kernel_rfl, by kernel_rfl, by kernel_rfl⟩
  hE := Tryd.underlying62
  cE := by kernel_rfl
  g0 := ⟨_, rfl, rfl, rfl⟩
  g1 := ⟨_, rfl, rfl, rfl⟩
theorem bulk_pos {H : Type} (d : DataW H) : 1 ≤ Rows.uptoBulk d := by
  cases d with
  | lit l => cases l <;> simp [Rows.uptoBulk]
  | _ => simp [Rows.uptoBulk]
theorem bulk_sum {H : Type} : ∀ ds : List (DataW H), Rows.uptoBulkAll ds = (ds.map Rows.uptoBulk).sum
  | [] => by simp [Rows.uptoBulkAll]
  | d :: ds => by simp [Rows.uptoBulkAll, bulk_sum ds]
theorem bulk_law {H : Type} : BulkS (H := H) Rows.uptoBulk where
  sl := fun els rest => by
    have := bulk_sum els
    simp only [Rows.uptoBulk]
    omega
  ag := fun ds => by
    have := bulk_sum ds
    simp only [Rows.uptoBulk]
    omega
  st := fun b => by simp [Rows.uptoBulk]
  pos := bulk_pos
/-- an argument that is a value -/
theorem arg_vl {H : Type} {enc : TypeId × Value → H} {W : World} {v : Value} {d : DataW H} {ps : List MemPlace} {r : Reach} {b : Nat} (hval : Value.okWide Tryd.prog W r b 39 v)
    (h : DataW.Trod enc Tryd.prog W 0 (fun _ => true) true 39 v d ps) : ∃ y : Val, Im (fun _ => False) W (.agg (encVal y)) v ∧ VB y ∧ bkV y ≤ Rows.uptoBulk d := by
  obtain ⟨cs, rfl, _⟩ := okWide_struct Tryd.underlying39 hval
  obtain ⟨fuel, hf⟩ := h
  letI : Globs := ⟨[]⟩
  obtain ⟨y, h1, h3, h2⟩ := arg_valS (O := fun _ => False) bulk_law vty rfl rfl (fun _ h => h) fuel _ _ hf
  have h1 : All2 (Im (fun _ => False) W) (encVal y) cs.toList := h1
  obtain ⟨l⟩ := cs
  refine ⟨y, .agg _ l h1.1 (fun v hv => ?_) h1.2, h2, h3⟩
  obtain ⟨j, hj, rfl⟩ := List.getElem_of_mem hv
  have hj' : j < (encVal y).length := by rw [h1.1]; exact hj
  exact plain_one (h1.2 j _ _ (List.getElem?_eq_getElem hj') (List.getElem?_eq_getElem hj)) (enc_plain .val y _ (List.getElem_mem hj'))
theorem contract (H : Type) (enc : TypeId × Value → H) (W : World) (base : Nat) (args : Array Value) (ds gs : List (DataW H)) (before : List MemPlace)
    (hval : ∀ (j : Nat) t v, Tryd.f4.params[j]? = some t → args[j]? = some v → Value.okWide Tryd.prog W .any base t v)
    (hW : DataW.Whole enc Tryd.prog Tryd.f4.params.toList Rows.valChecksSpec.vars false W args.toList ds gs before) (hk : Rows.uptoSmall H (ds ++ gs) = true) (hL : laidMetH Tryd.prog Rows.valChecksUptoRow.laid W) :
    Calls Tryd.prog 4 args W fun e W' => ∃ v, e = .returned v ∧ Rows.valChecksSpec.post enc Tryd.prog Tryd.f4 false true false false W args v W' := by
  have hW' := hW
  obtain ⟨p, q, hA0, hV, rfl, hfz, hnd⟩ := hW
  have hA : DataW.TrodAll enc Tryd.prog W 0 (fun _ => true) true Tryd.f4.params.toList args.toList ds p := hA0
  rw [Tryd.params4] at hA hval
  obtain ⟨v0, vs0, d0, ds0, p0, q0, hargs0, rfl, rfl, h0, r0⟩ := trodAll_cons hA
  obtain ⟨rfl, rfl, rfl⟩ := trodAll_nil r0
  obtain rfl : args = #[v0] := by cases args; simp_all
  obtain ⟨rfl, rfl⟩ := trodVars_none hV
  obtain ⟨a0, i0, b0, bn0⟩ := arg_vl (hval 0 39 v0 rfl rfl) h0
  have hW'' := hW'
  have bk : Rows.uptoBulkAll _ ≤ 1048576 := of_decide_eq_true hk
  simp only [List.append_nil, List.cons_append, List.nil_append, Rows.uptoBulkAll, Rows.uptoBulk, Array.length_toList] at bk
  have hL' : laidMet Tryd.prog Rows.valChecksUptoRow.laid W := hL
  have hU : Lib.Utf8Tabs 0 1 W := utf8Tabs_of_reads (ρ := Tryd.lays260_ren) Tryd.lays260 ⟨by kernel_rfl, by kernel_rfl, by kernel_rfl, by kernel_rfl, by kernel_rfl, by kernel_rfl, by kernel_rfl⟩ (by have := Lib.laidMet.reads hL' (.tail _ (.head _)); rw [show Rows.laid_unicode_utf8_first = Lib.firstData from Pinned.utf8First_eq] at this; exact this) (by have := Lib.laidMet.reads hL' (.head _); rw [show Rows.laid_unicode_utf8_acceptRanges = Lib.acceptData by kernel_rfl] at this; exact this)
  obtain ⟨cur0, e0, fz0, hh0, _⟩ := cell_block (hU.1 0 (by decide))
  obtain ⟨cur1, e1, fz1, hh1, _⟩ := cell_block (hU.2 0 (by decide)).1
  let G : Globs := ⟨[(0, .cells cur0 e0 fz0), (1, .cells cur1 e1 fz1)]⟩
  have hu : @HasU8 G := ⟨_, _, .head _, .tail _ (.head _), fun w k0 k1 => by
    have c0 : ∀ o, w.cell? ⟨0, o, none⟩ = W.cell? ⟨0, o, none⟩ := fun o => World.cell?_of_block (k0.trans hh0.symm)
    have c1 : ∀ o, w.cell? ⟨1, o, none⟩ = W.cell? ⟨1, o, none⟩ := fun o => World.cell?_of_block (k1.trans hh1.symm)
    exact ⟨fun c hc => (c0 c).trans (hU.1 c hc), fun i hi => ⟨(c1 _).trans (hU.2 i hi).1, (c1 _).trans (hU.2 i hi).2⟩⟩⟩
  have hG : @GlobOK G (fun _ => False) W := fun p hp => by
    rcases List.mem_cons.1 hp with rfl | hp
    · exact ⟨fun h => h, hh0⟩
    · cases List.mem_singleton.1 hp
      exact ⟨fun h => h, hh1⟩
  refine ((s_law (G := G) hu a0 b0 (by have := Go.Ck.siz_bulk a0; omega)).2 (fun _ => False) W [v0] (fun _ h => h.elim) hG (All2.cons i0 (All2.nil _))).mono fun e W' ⟨v, he, hst, hv⟩ => ?_
  subst he
  cases hv
  have hb := hst.below
  have hlt : ∀ x : MemPlace, x ∈ (p0 ++ []) ++ [] → x.block < W.heap.size := fun x hx => hW''.lt x hx
  have hargs' : ∀ sp : Nat → Bool, (∀ x : MemPlace, x ∈ (p0 ++ []) ++ [] → sp x.block = true) → DataW.TrodAll enc Tryd.prog W' 0 sp true [39] [v0] [d0] (p0 ++ []) := fun sp hsp =>
    trodAll_cons_mk (WideElems.Trod_stays laidOut (by kernel_rfl) (of_decide_eq_true (by kernel_rfl)) h0 (fun x hx => hb.same (hlt x (by simp [hx]))) (fun x hx => hsp x (by simp [hx]))) (trodAll_mk0)
  exact ⟨_, rfl, post_of_below (pa := p0 ++ []) (pv := []) hW'' (fun _ _ _ => (trodAll_cons_mk (shut_bool Tryd.underlying4 _) trodAll_mk0)) (fun sp hsp => hargs' sp hsp) (fun _ _ => rfl) rfl
    hb (ok_one (by kernel_rfl) rfl (okWide_bool_mk Tryd.underlying4 _))⟩
/-- a world for the witness: the tables as their initialisers lay them -/
def layB (cs : List Value) : Obj → Obj
  | .cells _ t frozen => .cells cs.toArray t frozen
  | o => o
noncomputable def laidWorld (os : Os) : World :=
  { World.holding Tryd.prog os ⟨#[], #[], []⟩ with
    heap := ((World.holding Tryd.prog os ⟨#[], #[], []⟩).heap.modify 0 (layB (Pinned.utf8FirstZ.map fun (n : Nat) => Value.int .u8 (n : Int)))).modify 1
      (layB ([128, 191, 160, 191, 128, 159, 144, 191, 128, 143, 0, 0, 0, 0, 0, 0, 0, 0, 0, 0, 0, 0, 0, 0, 0, 0, 0, 0, 0, 0, 0, 0].map fun n => Value.int .u8 n)) }
theorem laid_met (os : Os) : laidMet Tryd.prog Rows.valChecksUptoRow.laid ((laidWorld os).forCall (fun _ _ => 0) ⟨#[], #[.agg #[.int .i64 0, .int .i64 0, .int .u64 0, .string .empty, .slice none 0 0, .slice none 0 0]], []⟩).memory :=
  laidMet_of_run' 8 (by kernel_rfl) (by kernel_rfl)
theorem reads (os : Os) {H : Type} (enc : TypeId × Value → H) : ∃ places, DataW.whole enc Tryd.prog ((laidWorld os).forCall (fun _ _ => 0) ⟨#[], #[.agg #[.int .i64 0, .int .i64 0, .int .u64 0, .string .empty, .slice none 0 0, .slice none 0 0]], []⟩).memory Tryd.f4.params.toList Rows.valChecksSpec.vars false #[.agg #[.int .i64 0, .int .i64 0, .int .u64 0, .string .empty, .slice none 0 0, .slice none 0 0]].toList 8 = some ([.agg [.lit (.int .i64 0), .lit (.int .i64 0), .lit (.int .u64 0), .lit (.string []), .nil, .nil]], [], places) :=
  ⟨[], by kernel_rfl⟩
set_option maxRecDepth 100000 in
theorem lifted (os : Os) (started : os.Started) (H : Type) (enc : TypeId × Value → H) (F : Stop.Interp) :
    ReturnsInHanded {} Tryd.checked os 4 .any ((Rows.OpenSpec.upto Rows.valChecksSpec).preRow enc Tryd.prog Tryd.f4 Rows.valChecksUptoRow.domain false Rows.valChecksUptoRow.laid) (((Rows.OpenSpec.upto Rows.valChecksSpec).at F).post enc Tryd.prog Tryd.f4 false true false false) := by
  obtain ⟨places, hx⟩ := reads os enc
  refine returnsInHanded_of_row (C := Tryd.checked) (s := Rows.OpenSpec.upto Rows.valChecksSpec) own started (by kernel_rfl) Tryd.func4
    (witness_row_at (enc := enc) (C := Tryd.checked) false (laidWorld os) #[.agg #[.int .i64 0, .int .i64 0, .int .u64 0, .string .empty, .slice none 0 0, .slice none 0 0]] rfl (by kernel_rfl) (by kernel_rfl) (by kernel_rfl)
      (OpenSpec.preRow_of_cond 8 hx (by kernel_rfl) (fun k hk => by cases hk; kernel_rfl) (by kernel_rfl) (laid_met os))) ?_
  intro W base args ds gs before hval hW _ hcond _ hL _ _
  exact contract H enc W base args ds gs before hval hW (hcond _ rfl) hL
theorem said : Rows.ValChecksUptoSaid :=
  OpenClaim.holds_of_cond 4 Tryd.f4 rfl rfl rfl rfl rfl rfl rfl ⟨rfl, rfl, rfl, rfl, rfl⟩ rfl rfl rfl rfl rfl (by kernel_rfl) Tryd.func4 (by kernel_rfl)
    (of_decide_eq_true (by kernel_rfl)) (by unfold Func.isWrapper; first | (rw [if_pos (by decide +kernel)]; kernel_rfl) | (rw [if_neg (by decide +kernel)]; exact ⟨rfl, rfl⟩))
    (fun os started H enc _ F => by rw [OpenClaim.pre_eq_preRow]; exact lifted os started H enc F)
theorem plain (f : FuncId) (fn : Func) (hf : Tryd.pinned.checked.prog.funcNamed "typecase/typecaselaw.ValChecks" = some f) (hfn : Tryd.pinned.checked.prog.funcs[f]? = some fn) :
    false = Tryd.pinned.checked.prog.looks [] ∧ ∀ (j : Nat) t, fn.params[j]? = some t → Tryd.pinned.checked.prog.wantsStandIn t = false := by
  obtain rfl : f = 4 := Option.some.inj ((show Tryd.prog.funcNamed "typecase/typecaselaw.ValChecks" = some 4 by kernel_rfl).symm.trans hf) |>.symm
  obtain rfl : fn = Tryd.f4 := (Option.some.inj (Tryd.func4.symm.trans hfn)).symm
  refine ⟨by kernel_rfl, fun j t ht => ?_⟩
  rw [Tryd.params4] at ht
  have hm := Array.mem_of_getElem? ht
  simp only [List.mem_toArray, List.mem_cons, List.not_mem_nil, or_false] at hm
  subst hm
  · exact (show Tryd.prog.wantsStandIn 39 = false by kernel_rfl)
theorem proved : Rows.ValChecksUptoCardSaid :=
  Claim7.holds_tied_plain_at .later [] _ _ _ _ said (fun _ h => by cases h) (by kernel_rfl) (fun _ h => by cases h) valChecksUpto_row_tie rfl ⟨rfl, rfl⟩ (by kernel_rfl) rfl plain (by kernel_rfl)

end Go.Proofs.YtjlbaagnoppfgaaDoor.valChecks
end
