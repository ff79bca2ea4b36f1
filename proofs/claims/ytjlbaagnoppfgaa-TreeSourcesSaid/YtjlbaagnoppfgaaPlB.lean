/-
  A part of the proof that 'typecaselaw.PlaceTells' returns true: a text cut at its first line's end. No conditions.
-/
import Derived.Test.YtjlbaagnoppfgaaPlA
import Derived.Lib.Bytealg
import Derived.Lib.Walk
namespace Go.Proofs.Ytjlbaagnoppfgaa
set_option linter.unusedSectionVars false
set_option linter.unusedSimpArgs false
set_option linter.unusedVariables false
open Go Go.SX Go.Spl Go.RowKit
set_option maxRecDepth 100000
set_option maxHeartbeats 0
theorem calls140 (s : ByteArray) (c : Int) (w : World) :
    Calls Try.prog 140 #[.string s, .int .u8 c] w fun e w' => e = .returned (.int .i64 (Lib.indexByte s.data.toList c.toNat.toUInt8)) ∧ w' = w := by
  go_enter Try.func140, Try.ntmps140
  go_wp2
  rw [run_callFunc_extern Try.func146 (by kernel_rfl) (by kernel_rfl) (by kernel_rfl) (e := Extern.BytealgIndexByte.indexByte) (by kernel_rfl), Lib.run_indexByteString]
  simp only [Result.andThen]
  rw [Oper.upon_value]
  go_wp2
  go_ret
  exact ⟨rfl, rfl⟩
theorem spec140 (s : Str) : PSpec Try.prog 140 [.s s, .i .u8 10] (.i .i64 (Lib.indexByte s 10)) := by
  refine ⟨Try.call140, fun O w vs hO _ hargs => ?_⟩
  obtain ⟨v0, vs0, rfl, h0, h⟩ := hargs.cons_inv
  obtain ⟨v1, vs1, rfl, h1, h⟩ := h.cons_inv
  obtain rfl := h.nil_inv
  cases h0
  cases h1
  refine (calls140 ⟨s.toArray⟩ 10 w).mono fun e w' ⟨he, hw⟩ => ?_
  subst he hw
  refine ⟨_, rfl, Stp.refl _ _, ?_⟩
  have : Im O w' (.i .i64 (Lib.indexByte s 10)) (.int .i64 (Lib.indexByte s 10)) := .i _ _
  exact this
theorem walk135 (s : Str) : vc Try.prog Γ 143 [0, 1, 4, 5, 6, 7, 8, 9, 10, 11, 12, 13, 16, 24, 31, 36, 59, 64, 73, 93, 107, 114, 132, 139] (Try.f135.body.getD .skip) (postK Γ [.tmp 4] (fun v => v = .i .i64 (Lib.indexByte s 10))) ⟨argSlots 0 [.s s, .s [10]], []⟩ := by
  intro _
  refine And.intro (fun h => ?_) (fun h => absurd h (by decide))
  refine And.intro (fun h => ?_) (fun h => ?_)
  · have e : s = [10] := by have : ([10] : Str) = s := by simpa using h
                            exact this.symm
    show AV.i .i64 0 = AV.i .i64 (Lib.indexByte s 10)
    rw [e]
    rfl
  · refine And.intro (fun h => ?_) (fun h => absurd h (by decide))
    refine And.intro ⟨by decide, by decide⟩ ?_
    refine Or.inl (Exists.intro _ (And.intro (spec140 s) ?_))
    show _ = _
    rfl
def cutRes (s : Str) : AV := if Lib.indexByte s 10 < 0 then .tup [.s s, .s [], .b false] else .tup [.s (s.take (Lib.indexByte s 10).toNat), .s (s.drop ((Lib.indexByte s 10) + 1).toNat), .b true]
theorem spec135 (s : Str) : PSpec Try.prog 135 [.s s, .s [10]] (.i .i64 (Lib.indexByte s 10)) :=
  pspec_of_vc Γ_good Try.func135 rfl Try.call135 Try.results135 Try.ntmps135 (Nat.le_of_ble_eq_true rfl) (walk135 s)
theorem walk118 (s : Str) (hs : s.length ≤ 1048576) : vc Try.prog Γ 23 [0, 1, 4, 5, 6, 7, 12] (Try.f118.body.getD .skip) (postK Γ [.tmp 4, .tmp 5, .tmp 6] (fun v => v = cutRes s)) ⟨argSlots 0 [.s s, .s [10]], []⟩ := by
  have hr := indexByte_tw s
  refine Or.inl (Exists.intro _ (And.intro (spec135 s) ?_))
  refine And.intro (fun h => ?_) (fun h => ?_)
  · have h0 : 0 ≤ Lib.indexByte s 10 := of_decide_eq_true h
    have h1 : Lib.indexByte s 10 < s.length := by rcases hr with ⟨h1, _⟩ | ⟨_, h1, _⟩; omega; exact h1
    refine Exists.intro [.take 0, .take 1, .take 2, .take 3, .take 4, .take 5, .take 6, .blk [7, 8, 9, 10, 11]] (And.intro (by kernel_rfl) ?_)
    refine And.intro ⟨by omega, by omega, by omega⟩ ?_
    intro _
    refine And.intro ⟨by show (-9223372036854775808 : Int) ≤ Lib.indexByte s 10 + 1; omega, by show Lib.indexByte s 10 + 1 ≤ (9223372036854775807 : Int); omega⟩ ?_
    refine And.intro ⟨by show 0 ≤ Lib.indexByte s 10 + 1; omega, by show Lib.indexByte s 10 + 1 ≤ (s.length : Int); omega, by omega⟩ ?_
    show AV.tup [AV.s ((s.take (Lib.indexByte s 10).toNat).drop (Int.toNat 0)), AV.s ((s.take ((s.length : Int)).toNat).drop (Lib.indexByte s 10 + 1).toNat), AV.b true] = cutRes s
    rw [cutRes, if_neg (by omega)]
    have e : (s.take ((s.length : Int)).toNat) = s := by rw [Int.toNat_natCast, List.take_length]
    rw [e]
    rfl
  · have h0 : ¬ 0 ≤ Lib.indexByte s 10 := of_decide_eq_false h
    show AV.tup [AV.s s, AV.s [], AV.b false] = cutRes s
    rw [cutRes, if_pos (by omega)]
theorem spec118 (s : Str) (hs : s.length ≤ 1048576) : PSpec Try.prog 118 [.s s, .s [10]] (cutRes s) :=
  pspec_of_vc Γ_good Try.func118 rfl Try.call118 Try.results118 Try.ntmps118 (Nat.le_of_ble_eq_true rfl) (walk118 s hs)
theorem walk94 (s : Str) (hs : s.length ≤ 1048576) : vc Try.prog Γ 13 [0, 1, 4, 5, 6] (Try.f94.body.getD .skip) (postK Γ [.tmp 4, .tmp 5, .tmp 6] (fun v => v = cutRes s)) ⟨argSlots 0 [.s s, .s [10]], []⟩ := by
  refine Or.inl (Exists.intro _ (And.intro (spec118 s hs) ?_))
  by_cases h : Lib.indexByte s 10 < 0
  · rw [cutRes, if_pos h]
    show _ = _
    rfl
  · rw [cutRes, if_neg h]
    show _ = _
    rfl
theorem spec94 (s : Str) (hs : s.length ≤ 1048576) : PSpec Try.prog 94 [.s s, .s [10]] (cutRes s) :=
  pspec_of_vc Γ_good Try.func94 rfl Try.call94 Try.results94 Try.ntmps94 (Nat.le_of_ble_eq_true rfl) (walk94 s hs)
def lineRes (s : Str) (n : Int) : AV := if n < 1 ∨ (starts s).length < n then .tup [.s [], .i .i64 1] else .tup [.s ((lines s).getD (n - 1).toNat []), .i .i64 0]
theorem getI {l : List Int} {k : Nat} (h : k < l.length) : l[k]? = some (l.getD k 0) := by rw [List.getD_eq_getElem?_getD, List.getElem?_eq_getElem h]; rfl
theorem walk47 (s : Str) (n : Int) (hs : s.length ≤ 1048576) : vc Try.prog Γ 33 [0, 1, 4, 5, 6, 7, 19] (Try.f47.body.getD .skip) (postK Γ [.tmp 4, .tmp 5] (fun v => v = lineRes s n)) ⟨argSlots 0 [.s s, .i .i64 n], []⟩ := by
  have hsl := starts_len s
  refine Or.inl (Exists.intro _ (And.intro (spec45 s hs) ?_))
  refine And.intro (fun h1 => ?_) (fun h1 => ?_)
  · have h1 : 1 ≤ n := by have := of_decide_eq_false h1; omega
    intro _
    refine And.intro (fun h2 => ?_) (fun h2 => ?_)
    · have h2 : ((starts s).length : Int) < n := by simpa using h2
      show AV.tup [.s [], .i .i64 1] = lineRes s n
      rw [lineRes, if_pos (.inr h2)]
    · have h2 : n ≤ ((starts s).length : Int) := by have : ¬ ((starts s).length : Int) < n := by simpa using h2
                                                    omega
      have hk : (n - 1).toNat < (starts s).length := by omega
      obtain ⟨hsay, _⟩ := (lok s).say (n - 1).toNat _ (getI hk)
      have hx := (lok s).le _ (List.mem_of_getElem? (getI hk))
      have hd : (s.drop ((starts s).getD (n - 1).toNat 0).toNat).length ≤ 1048576 := by simp; omega
      refine And.intro ⟨by show (-9223372036854775808 : Int) ≤ n - 1; omega, by show n - 1 ≤ (9223372036854775807 : Int); omega⟩ ?_
      refine And.intro ⟨by omega, by omega⟩ ?_
      refine And.intro ⟨by show (0 : Int) ≤ (starts s).getD (n - 1).toNat 0; omega, by show (starts s).getD (n - 1).toNat 0 ≤ (s.length : Int); omega, by omega⟩ ?_
      have e : (s.take ((s.length : Int)).toNat).drop ((starts s).getD (n - 1).toNat 0).toNat = s.drop ((starts s).getD (n - 1).toNat 0).toNat := by rw [Int.toNat_natCast, List.take_length]
      refine Or.inl (Exists.intro (cutRes (s.drop ((starts s).getD (n - 1).toNat 0).toNat)) (And.intro (by have := spec94 _ hd; rw [← e] at this; rw [← e]; exact this) ?_))
      have hr : lineRes s n = .tup [.s ((s.drop ((starts s).getD (n - 1).toNat 0).toNat).takeWhile lineP), .i .i64 0] := by
        rw [lineRes, if_neg (by omega), List.getD_eq_getElem?_getD, hsay]
        rfl
      rcases indexByte_tw (s.drop ((starts s).getD (n - 1).toNat 0).toNat) with ⟨hi, ht⟩ | ⟨hi, _, ht⟩
      · rw [cutRes, if_pos (by omega)]
        show AV.tup [.s (s.drop ((starts s).getD (n - 1).toNat 0).toNat), .i .i64 0] = lineRes s n
        rw [hr, ht]
      · rw [cutRes, if_neg (by omega)]
        show AV.tup [.s ((s.drop ((starts s).getD (n - 1).toNat 0).toNat).take (Lib.indexByte (s.drop ((starts s).getD (n - 1).toNat 0).toNat) 10).toNat), .i .i64 0] = lineRes s n
        rw [hr, ht]
  · have h1 : n < 1 := of_decide_eq_true h1
    refine And.intro (fun _ => ?_) (fun h => absurd h (by simp))
    show AV.tup [.s [], .i .i64 1] = lineRes s n
    rw [lineRes, if_pos (.inl h1)]
def atRes (s : Str) (n c : Int) : AV := if n < 1 ∨ (starts s).length < n ∨ c < 1 ∨ ((lines s).getD (n - 1).toNat []).length < c - 1 then .tup [.i .i64 0, .i .i64 1] else .tup [.i .i64 ((starts s).getD (n - 1).toNat 0 + c - 1), .i .i64 0]
theorem spec47 (s : Str) (n : Int) (hs : s.length ≤ 1048576) : PSpec Try.prog 47 [.s s, .i .i64 n] (lineRes s n) :=
  pspec_of_vc Γ_good Try.func47 rfl Try.call47 Try.results47 Try.ntmps47 (Nat.le_of_ble_eq_true rfl) (walk47 s n hs)
theorem walk46 (s : Str) (n c : Int) (hs : s.length ≤ 1048576) (hc : c ≤ 9223372036854775807) : vc Try.prog Γ 38 [0, 1, 2, 6, 7, 8, 9, 28] (Try.f46.body.getD .skip) (postK Γ [.tmp 6, .tmp 7] (fun v => v = atRes s n c)) ⟨argSlots 0 [.s s, .i .i64 n, .i .i64 c], []⟩ := by
  have hsl := starts_len s
  refine Or.inl (Exists.intro _ (And.intro (spec47 s n hs) ?_))
  by_cases h : n < 1 ∨ (starts s).length < n
  · have hr : atRes s n c = .tup [.i .i64 0, .i .i64 1] := by rw [atRes, if_pos (by omega)]
    rw [lineRes, if_pos h, hr]
    refine And.intro (fun h => absurd h (by decide)) (fun _ => ?_)
    refine And.intro (fun h => absurd h (by decide)) (fun _ => ?_)
    refine And.intro (fun _ => ?_) (fun h => absurd h (by decide))
    show _ = _
    rfl
  · have hll := line_le s (n - 1).toNat
    have hk : (n - 1).toNat < (starts s).length := by omega
    have hx := (lok s).le _ (List.mem_of_getElem? (getI hk))
    rw [lineRes, if_neg h]
    generalize hL : (lines s).getD (n - 1).toNat [] = L at hll
    refine And.intro (fun _ => ?_) (fun h => absurd h (by decide))
    refine And.intro (fun h1 => ?_) (fun h1 => ?_)
    · have h1 : 1 ≤ c := by have : ¬ c < 1 := by simpa using h1
                            omega
      refine And.intro ⟨by show (-9223372036854775808 : Int) ≤ c - 1; omega, by show c - 1 ≤ (9223372036854775807 : Int); omega⟩ ?_
      intro _
      refine And.intro (fun h2 => ?_) (fun h2 => ?_)
      · have h2 : (L.length : Int) < c - 1 := by simpa using h2
        show AV.tup [.i .i64 0, .i .i64 1] = atRes s n c
        rw [atRes, hL, if_pos (.inr (.inr (.inr h2)))]
      · have h2 : ¬ (L.length : Int) < c - 1 := by simpa using h2
        refine Or.inl (Exists.intro _ (And.intro (spec45 s hs) ?_))
        refine And.intro ⟨by show (-9223372036854775808 : Int) ≤ n - 1; omega, by show n - 1 ≤ (9223372036854775807 : Int); omega⟩ ?_
        refine And.intro ⟨by omega, by omega⟩ ?_
        refine And.intro ⟨by show (-9223372036854775808 : Int) ≤ (starts s).getD (n - 1).toNat 0 + c; omega, by show (starts s).getD (n - 1).toNat 0 + c ≤ (9223372036854775807 : Int); omega⟩ ?_
        refine And.intro ⟨by show (-9223372036854775808 : Int) ≤ (starts s).getD (n - 1).toNat 0 + c - 1; omega, by show (starts s).getD (n - 1).toNat 0 + c - 1 ≤ (9223372036854775807 : Int); omega⟩ ?_
        show AV.tup [.i .i64 ((starts s).getD (n - 1).toNat 0 + c - 1), .i .i64 0] = atRes s n c
        rw [atRes, hL, if_neg (by omega)]
    · have h1 : c < 1 := by simpa using h1
      refine And.intro (fun _ => ?_) (fun h => absurd h (by decide))
      show AV.tup [.i .i64 0, .i .i64 1] = atRes s n c
      rw [atRes, hL, if_pos (.inr (.inr (.inl h1)))]
theorem spec46 (s : Str) (n c : Int) (hs : s.length ≤ 1048576) (hc : c ≤ 9223372036854775807) : PSpec Try.prog 46 [.s s, .i .i64 n, .i .i64 c] (atRes s n c) :=
  pspec_of_vc Γ_good Try.func46 rfl Try.call46 Try.results46 Try.ntmps46 (Nat.le_of_ble_eq_true rfl) (walk46 s n c hs hc)
end Go.Proofs.Ytjlbaagnoppfgaa
