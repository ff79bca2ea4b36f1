/-
  What WriteRune of strings.Builder comes to (unicode/utf8.AppendRune under it), at a builder of the call's own. No conditions but the rune's range.
-/
import Derived.Test.YtjlbaagnoppfgaaDoorSbBase
import Derived.Lib.RuneBytes
namespace Go.Proofs.YtjlbaagnoppfgaaDoor
set_option linter.unusedSectionVars false
set_option linter.unusedSimpArgs false
set_option linter.unusedVariables false
open Go Go.SX Go.RowKit
set_option maxRecDepth 100000
set_option maxHeartbeats 4000000
theorem ru_cells {r : Int} {zs : List Int} (h : Lib.encodeRuneZ r = zs) : bcells (Lib.encodeRune r) = zs.map (Value.int .u8) := by
  have := Lib.byteCells_encodeRune r
  unfold Lib.runeCells at this
  rw [h] at this
  exact this
theorem ru_ne (r : Int) : Lib.encodeRune r ≠ [] := by
  have := (Lib.encodeRuneZ_length r).1
  unfold Lib.encodeRune
  intro e
  rw [List.map_eq_nil_iff] at e
  rw [e] at this
  exact absurd this (by decide)
theorem ru_le (r : Int) : (Lib.encodeRune r).length ≤ 4 := by
  have := (Lib.encodeRuneZ_length r).2
  unfold Lib.encodeRune
  rwa [List.length_map]
theorem next_alloc {β : Nat → Option Nat} {w w' : World} {o : Obj} {id2 : Nat} {e : TypeId} {l : Str} {v : Value} {b2 : Option Nat} (h : BufNext β (w.alloc o) w' id2 e l v b2) : BufNext β w w' id2 e l v b2 := by
  have hs : Stp (fun _ => False) w (w.alloc o) := letI : Globs := ⟨[]⟩; Stp.alloc w o
  refine ⟨(hs.mono fun _ _ h => h.elim).trans h.stp fun _ _ h => h, fun g hg => ⟨(h.blk g hg).1, ?_⟩, h.buf, h.sl⟩
  rcases (h.blk g hg).2 with h | h
  · exact .inl h
  · exact .inr (Nat.le_trans hs.size h)
/-- what appending a rune's bytes comes to -/
def RuNext (β : Nat → Option Nat) (w : World) (id2 : Nat) (l : Str) (r : Int) (e : Ending) (w' : World) : Prop := ∃ v' b2, e = .returned v' ∧ BufNext β w w' id2 5 (l ++ Lib.encodeRune r) v' b2
section
variable {β : Nat → Option Nat} {w : World} {id2 : Nat} {l : Str} {u : Value}
theorem ar_one (hbuf : BufAt β w id2 5 l u) (hlen : l.length + 4 ≤ 140737488355328) {r : Int} (h0 : 0 ≤ r) (h1 : r ≤ 127) : Calls Tryd.prog 54 #[u, .int .i32 r] w (RuNext β w id2 l r) := by
  obtain ⟨i0, hi, hz0, hz1, hz2⟩ := u8Info
  have hc : bcells (Lib.encodeRune r) = [.int .u8 r] := ru_cells (Lib.encodeRuneZ_one h0 h1)
  have hl : (Lib.encodeRune r).length = 1 := by rw [← bcells_length, hc]; rfl
  go_enter Tryd.func54, Tryd.ntmps54
  go_wp2_with (at_builtin; refine wpList_bufB rfl _ _ 60 rfl Tryd.underlying60 hi hz0 hz1 hz2 (buf_kept hbuf fun g hg => Lib.alloc_old _ _ g (buf_lt hbuf hg)) (Lib.encodeRune r) (ru_ne r) (ad := ⟨w.heap.size, 0, none⟩) (m := 1) (c0 := 1) ?_ hl.symm rfl rfl (by omega) ?_)
  · intro j v hj
    rw [hc] at hj
    match j, hj with
    | 0, hj => simp at hj; subst hj; simp [Addr.add]
    | (j + 1), hj => simp at hj
  intro v' w2 b2 hn
  obtain ⟨ao, n', cap, rfl⟩ := hn.sl
  go_wp2
  go_ret
  exact ⟨_, b2, rfl, next_alloc hn⟩
theorem an_two (hbuf : BufAt β w id2 5 l u) (hlen : l.length + 4 ≤ 140737488355328) {r : Int} (h0 : 128 ≤ r) (h1 : r ≤ 2047) : Calls Tryd.prog 59 #[u, .int .i32 r] w (RuNext β w id2 l r) := by
  obtain ⟨i0, hi, hz0, hz1, hz2⟩ := u8Info
  have hc : bcells (Lib.encodeRune r) = [.int .u8 (192 + r / 64), .int .u8 (128 + r % 64)] := ru_cells (Lib.encodeRuneZ_two (by omega) (by omega))
  have hl : (Lib.encodeRune r).length = 2 := by rw [← bcells_length, hc]; rfl
  go_enter Tryd.func59, Tryd.ntmps59
  go_wp2_with (at_builtin; refine wpList_bufB rfl _ _ 60 rfl Tryd.underlying60 hi hz0 hz1 hz2 (buf_kept hbuf fun g hg => Lib.alloc_old _ _ g (buf_lt hbuf hg)) (Lib.encodeRune r) (ru_ne r) (ad := ⟨w.heap.size, 0, none⟩) (m := 2) (c0 := 2) ?_ hl.symm rfl rfl (by omega) ?_)
  · intro j v hj
    rw [hc] at hj
    match j, hj with
    | 0, hj => simp at hj; subst hj; simp [Addr.add]
    | 1, hj => simp at hj; subst hj; simp [Addr.add]
    | (j + 2), hj => simp at hj
  intro v' w2 b2 hn
  obtain ⟨ao, n', cap, rfl⟩ := hn.sl
  go_wp2
  go_ret
  exact ⟨_, b2, rfl, next_alloc hn⟩
theorem an_three_lo (hbuf : BufAt β w id2 5 l u) (hlen : l.length + 4 ≤ 140737488355328) {r : Int} (h0 : 2048 ≤ r) (h1 : r < 55296) : Calls Tryd.prog 59 #[u, .int .i32 r] w (RuNext β w id2 l r) := by
  obtain ⟨i0, hi, hz0, hz1, hz2⟩ := u8Info
  have hc : bcells (Lib.encodeRune r) = [.int .u8 (224 + r / 4096), .int .u8 (128 + r / 64 % 64), .int .u8 (128 + r % 64)] := ru_cells (Lib.encodeRuneZ_three (Or.inl ⟨by omega, by omega⟩))
  have hl : (Lib.encodeRune r).length = 3 := by rw [← bcells_length, hc]; rfl
  go_enter Tryd.func59, Tryd.ntmps59
  go_wp2_with (at_builtin; refine wpList_bufB rfl _ _ 60 rfl Tryd.underlying60 hi hz0 hz1 hz2 (buf_kept hbuf fun g hg => Lib.alloc_old _ _ g (buf_lt hbuf hg)) (Lib.encodeRune r) (ru_ne r) (ad := ⟨w.heap.size, 0, none⟩) (m := 3) (c0 := 3) ?_ hl.symm rfl rfl (by omega) ?_)
  · intro j v hj
    rw [hc] at hj
    match j, hj with
    | 0, hj => simp at hj; subst hj; simp [Addr.add]
    | 1, hj => simp at hj; subst hj; simp [Addr.add]
    | 2, hj => simp at hj; subst hj; simp [Addr.add]
    | (j + 3), hj => simp at hj
  intro v' w2 b2 hn
  obtain ⟨ao, n', cap, rfl⟩ := hn.sl
  go_wp2
  go_ret
  exact ⟨_, b2, rfl, next_alloc hn⟩
theorem an_three_hi (hbuf : BufAt β w id2 5 l u) (hlen : l.length + 4 ≤ 140737488355328) {r : Int} (h0 : 57343 < r) (h1 : r ≤ 65535) : Calls Tryd.prog 59 #[u, .int .i32 r] w (RuNext β w id2 l r) := by
  obtain ⟨i0, hi, hz0, hz1, hz2⟩ := u8Info
  have hc : bcells (Lib.encodeRune r) = [.int .u8 (224 + r / 4096), .int .u8 (128 + r / 64 % 64), .int .u8 (128 + r % 64)] := ru_cells (Lib.encodeRuneZ_three (Or.inr ⟨by omega, by omega⟩))
  have hl : (Lib.encodeRune r).length = 3 := by rw [← bcells_length, hc]; rfl
  go_enter Tryd.func59, Tryd.ntmps59
  go_wp2_with (at_builtin; refine wpList_bufB rfl _ _ 60 rfl Tryd.underlying60 hi hz0 hz1 hz2 (buf_kept hbuf fun g hg => Lib.alloc_old _ _ g (buf_lt hbuf hg)) (Lib.encodeRune r) (ru_ne r) (ad := ⟨w.heap.size, 0, none⟩) (m := 3) (c0 := 3) ?_ hl.symm rfl rfl (by omega) ?_)
  · intro j v hj
    rw [hc] at hj
    match j, hj with
    | 0, hj => simp at hj; subst hj; simp [Addr.add]
    | 1, hj => simp at hj; subst hj; simp [Addr.add]
    | 2, hj => simp at hj; subst hj; simp [Addr.add]
    | (j + 3), hj => simp at hj
  intro v' w2 b2 hn
  obtain ⟨ao, n', cap, rfl⟩ := hn.sl
  go_wp2
  go_ret
  exact ⟨_, b2, rfl, next_alloc hn⟩
theorem an_four (hbuf : BufAt β w id2 5 l u) (hlen : l.length + 4 ≤ 140737488355328) {r : Int} (h0 : 65536 ≤ r) (h1 : r ≤ 1114111) : Calls Tryd.prog 59 #[u, .int .i32 r] w (RuNext β w id2 l r) := by
  obtain ⟨i0, hi, hz0, hz1, hz2⟩ := u8Info
  have hc : bcells (Lib.encodeRune r) = [.int .u8 (240 + r / 262144), .int .u8 (128 + r / 4096 % 64), .int .u8 (128 + r / 64 % 64), .int .u8 (128 + r % 64)] := ru_cells (Lib.encodeRuneZ_four (by omega) (by omega))
  have hl : (Lib.encodeRune r).length = 4 := by rw [← bcells_length, hc]; rfl
  go_enter Tryd.func59, Tryd.ntmps59
  go_wp2_with (at_builtin; refine wpList_bufB rfl _ _ 60 rfl Tryd.underlying60 hi hz0 hz1 hz2 (buf_kept hbuf fun g hg => Lib.alloc_old _ _ g (buf_lt hbuf hg)) (Lib.encodeRune r) (ru_ne r) (ad := ⟨w.heap.size, 0, none⟩) (m := 4) (c0 := 4) ?_ hl.symm rfl rfl (by omega) ?_)
  · intro j v hj
    rw [hc] at hj
    match j, hj with
    | 0, hj => simp at hj; subst hj; simp [Addr.add]
    | 1, hj => simp at hj; subst hj; simp [Addr.add]
    | 2, hj => simp at hj; subst hj; simp [Addr.add]
    | 3, hj => simp at hj; subst hj; simp [Addr.add]
    | (j + 4), hj => simp at hj
  intro v' w2 b2 hn
  obtain ⟨ao, n', cap, rfl⟩ := hn.sl
  go_wp2
  go_ret
  exact ⟨_, b2, rfl, next_alloc hn⟩
theorem an_bad_neg (hbuf : BufAt β w id2 5 l u) (hlen : l.length + 4 ≤ 140737488355328) {r : Int} (h0 : -2147483648 ≤ r) (h1 : r < 0) : Calls Tryd.prog 59 #[u, .int .i32 r] w (RuNext β w id2 l r) := by
  obtain ⟨i0, hi, hz0, hz1, hz2⟩ := u8Info
  have hc : bcells (Lib.encodeRune r) = [.int .u8 239, .int .u8 191, .int .u8 189] := ru_cells (Lib.encodeRuneZ_bad (r := r) (by omega))
  have hl : (Lib.encodeRune r).length = 3 := by rw [← bcells_length, hc]; rfl
  go_enter Tryd.func59, Tryd.ntmps59
  go_wp2_with (at_builtin; refine wpList_bufB rfl _ _ 60 rfl Tryd.underlying60 hi hz0 hz1 hz2 (buf_kept hbuf fun g hg => Lib.alloc_old _ _ g (buf_lt hbuf hg)) (Lib.encodeRune r) (ru_ne r) (ad := ⟨w.heap.size, 0, none⟩) (m := 3) (c0 := 3) ?_ hl.symm rfl rfl (by omega) ?_)
  · intro j v hj
    rw [hc] at hj
    match j, hj with
    | 0, hj => simp at hj; subst hj; simp [Addr.add]
    | 1, hj => simp at hj; subst hj; simp [Addr.add]
    | 2, hj => simp at hj; subst hj; simp [Addr.add]
    | (j + 3), hj => simp at hj
  intro v' w2 b2 hn
  obtain ⟨ao, n', cap, rfl⟩ := hn.sl
  go_wp2
  go_ret
  exact ⟨_, b2, rfl, next_alloc hn⟩
theorem an_bad_sur (hbuf : BufAt β w id2 5 l u) (hlen : l.length + 4 ≤ 140737488355328) {r : Int} (h0 : 55296 ≤ r) (h1 : r ≤ 57343) : Calls Tryd.prog 59 #[u, .int .i32 r] w (RuNext β w id2 l r) := by
  obtain ⟨i0, hi, hz0, hz1, hz2⟩ := u8Info
  have hc : bcells (Lib.encodeRune r) = [.int .u8 239, .int .u8 191, .int .u8 189] := ru_cells (Lib.encodeRuneZ_bad (r := r) (by omega))
  have hl : (Lib.encodeRune r).length = 3 := by rw [← bcells_length, hc]; rfl
  go_enter Tryd.func59, Tryd.ntmps59
  go_wp2_with (at_builtin; refine wpList_bufB rfl _ _ 60 rfl Tryd.underlying60 hi hz0 hz1 hz2 (buf_kept hbuf fun g hg => Lib.alloc_old _ _ g (buf_lt hbuf hg)) (Lib.encodeRune r) (ru_ne r) (ad := ⟨w.heap.size, 0, none⟩) (m := 3) (c0 := 3) ?_ hl.symm rfl rfl (by omega) ?_)
  all_goals first
    | (intro v' w2 b2 hn; obtain ⟨ao, n', cap, rfl⟩ := hn.sl; go_wp2; go_ret; exact ⟨_, b2, rfl, next_alloc hn⟩)
    | (intro j v hj
       rw [hc] at hj
       match j, hj with
       | 0, hj => simp at hj; subst hj; simp [Addr.add]
       | 1, hj => simp at hj; subst hj; simp [Addr.add]
       | 2, hj => simp at hj; subst hj; simp [Addr.add]
       | (j + 3), hj => simp at hj)
theorem an_bad_big (hbuf : BufAt β w id2 5 l u) (hlen : l.length + 4 ≤ 140737488355328) {r : Int} (h0 : 1114111 < r) (h1 : r ≤ 2147483647) : Calls Tryd.prog 59 #[u, .int .i32 r] w (RuNext β w id2 l r) := by
  obtain ⟨i0, hi, hz0, hz1, hz2⟩ := u8Info
  have hc : bcells (Lib.encodeRune r) = [.int .u8 239, .int .u8 191, .int .u8 189] := ru_cells (Lib.encodeRuneZ_bad (r := r) (by omega))
  have hl : (Lib.encodeRune r).length = 3 := by rw [← bcells_length, hc]; rfl
  go_enter Tryd.func59, Tryd.ntmps59
  go_wp2_with (at_builtin; refine wpList_bufB rfl _ _ 60 rfl Tryd.underlying60 hi hz0 hz1 hz2 (buf_kept hbuf fun g hg => Lib.alloc_old _ _ g (buf_lt hbuf hg)) (Lib.encodeRune r) (ru_ne r) (ad := ⟨w.heap.size, 0, none⟩) (m := 3) (c0 := 3) ?_ hl.symm rfl rfl (by omega) ?_)
  · intro j v hj
    rw [hc] at hj
    match j, hj with
    | 0, hj => simp at hj; subst hj; simp [Addr.add]
    | 1, hj => simp at hj; subst hj; simp [Addr.add]
    | 2, hj => simp at hj; subst hj; simp [Addr.add]
    | (j + 3), hj => simp at hj
  intro v' w2 b2 hn
  obtain ⟨ao, n', cap, rfl⟩ := hn.sl
  go_wp2
  go_ret
  exact ⟨_, b2, rfl, next_alloc hn⟩
theorem an_all (hbuf : BufAt β w id2 5 l u) (hlen : l.length + 4 ≤ 140737488355328) {r : Int} (hr0 : -2147483648 ≤ r) (hr1 : r ≤ 2147483647) (hna : r < 0 ∨ 128 ≤ r) : Calls Tryd.prog 59 #[u, .int .i32 r] w (RuNext β w id2 l r) := by
  by_cases c0 : r < 0
  · exact an_bad_neg hbuf hlen hr0 c0
  by_cases c1 : r ≤ 2047
  · exact an_two hbuf hlen (by omega) c1
  by_cases c2 : r < 55296
  · exact an_three_lo hbuf hlen (by omega) c2
  by_cases c3 : r ≤ 57343
  · exact an_bad_sur hbuf hlen (by omega) c3
  by_cases c4 : r ≤ 65535
  · exact an_three_hi hbuf hlen (by omega) c4
  by_cases c5 : r ≤ 1114111
  · exact an_four hbuf hlen (by omega) c5
  · exact an_bad_big hbuf hlen (by omega) hr1
theorem ar_other (hbuf : BufAt β w id2 5 l u) (hlen : l.length + 4 ≤ 140737488355328) {r : Int} (hr0 : -2147483648 ≤ r) (hr1 : r ≤ 2147483647) (hna : r < 0 ∨ 128 ≤ r) : Calls Tryd.prog 54 #[u, .int .i32 r] w (RuNext β w id2 l r) := by
  rcases hna with hna | hna
  all_goals
    go_enter Tryd.func54, Tryd.ntmps54
    go_wp2_with (go_at_call 59; refine (an_all hbuf hlen hr0 hr1 (by omega)).mono ?_)
    rintro e w1 ⟨v', b2, rfl, hn⟩
    obtain ⟨ao, n', cap, rfl⟩ := hn.sl
    go_wp2
    go_ret
    exact ⟨_, b2, rfl, hn⟩
/-- AppendRune onto a builder's buffer -/
theorem ar_all (hbuf : BufAt β w id2 5 l u) (hlen : l.length + 4 ≤ 140737488355328) {r : Int} (hr0 : -2147483648 ≤ r) (hr1 : r ≤ 2147483647) : Calls Tryd.prog 54 #[u, .int .i32 r] w (RuNext β w id2 l r) := by
  by_cases c : 0 ≤ r ∧ r ≤ 127
  · exact ar_one hbuf hlen c.1 c.2
  · exact ar_other hbuf hlen hr0 hr1 (by omega)
end
variable [Globs]
/-- **WriteRune** -/
theorem sb_WriteRune (l : Str) {r : Int} (hr0 : -2147483648 ≤ r) (hr1 : r ≤ 2147483647) (hlen : l.length + 4 ≤ 140737488355328) : ObSpec Tryd.prog 38 (.sb 72 5 l) [.i .i32 r] (.x) (.sb 72 5 (l ++ Lib.encodeRune r)) := by
  refine ⟨Tryd.call38, fun β O w id id2 v vs hne hO hid hid2 hdis hG hob hargs => ?_⟩
  obtain ⟨v1, vs', rfl, h1, h⟩ := hargs.cons_inv
  obtain rfl := h.nil_inv
  cases h1
  obtain ⟨b, p, u, hb, rfl, hbk, hp, hbuf⟩ := hob
  have hlt : b < w.heap.size := (Array.getElem?_eq_some_iff.1 hbk).1
  obtain ⟨ua, un, uc, hus⟩ : ∃ a n c, u = .slice a n c := hbuf.same.sl
  go_enter Tryd.func38, Tryd.ntmps38
  go_wp2_with (go_at_call 53; refine (cc b p u _ hp hbk).mono ?_)
  rintro e w1 ⟨rfl, hb1, hs1⟩
  have c1 : w1.cell? ⟨b, 1, none⟩ = some u := by rw [Lib.cell_of_heap hb1]; rfl
  have hbuf1 := buf_kept hbuf fun g hg => hs1.block g (buf_lt hbuf hg) fun e => hdis g hg (by rw [hb, e])
  subst hus
  go_wp2_with (go_at_call 54; refine (ar_all hbuf1 hlen hr0 hr1).mono ?_)
  rintro e w2 ⟨v', b2, rfl, hn⟩
  obtain ⟨hst, hblk, hob⟩ := sb_end hne hb hdis hlt hs1 hb1 (.inr rfl) hn
  have hb2 : w2.heap[b]? = some (.cells #[.pointer (some ⟨b, 0, none⟩), .slice ua un uc] 72 (0, 0)) := by
    rw [hn.stp.block b (Nat.lt_of_lt_of_le hlt hs1.size) fun e => hdis b e hb]
    exact hb1
  have d1 : w2.cell? ⟨b, 1, none⟩ = some (.slice ua un uc) := by rw [Lib.cell_of_heap hb2]; rfl
  have f1 : w2.frozen? ⟨b, 1, none⟩ = false := Lib.frozen_of_heap hb2 1
  obtain ⟨ao, n', cap, rfl⟩ := hn.sl
  go_wp2
  go_ret2
  exact ⟨_, b2, rfl, hst, hblk, .x _, fun O' _ => hob O' fun _ _ _ => trivial⟩
end Go.Proofs.YtjlbaagnoppfgaaDoor
