/-
  A part of the proof that 'typecaselaw.SpliceComposes' returns true, whatever the input: the document's normal change. No conditions.
-/
import Derived.Test.YtjlbaagnoppfgaaSplI
namespace Go.Proofs.Ytjlbaagnoppfgaa
open Go Go.SX Go.Spl
set_option maxRecDepth 100000
set_option maxHeartbeats 0
structure Rm (r : Ref) (k : Nat) : Prop where
  out : r.out.length ≤ 3 * k
  next0 : 0 ≤ r.next
  next : r.next ≤ 1000001
  kept0 : 0 ≤ r.kept
  kept : r.kept ≤ k
  put : r.put.length ≤ k
theorem rflush_len (r : Ref) (to : Int) : (rflush r to).out.length ≤ r.out.length + 3 := by
  unfold rflush
  simp only [List.length_append]
  split <;> split <;> split <;> simp <;> omega
theorem rflush_kept {r : Ref} (to : Int) (h : 0 ≤ r.kept) : 0 ≤ (rflush r to).kept ∧ (rflush r to).kept ≤ r.kept := by
  unfold rflush
  simp only
  split <;> omega
theorem Rm.step {r : Ref} {k : Nat} (h : Rm r k) {a : Atom} (ha : a.pos ≤ 1000000) : Rm (rstep r a) (k + 1) := by
  have h1 := h.out
  have h2 := h.next0
  have h3 := h.next
  have h4 := h.kept0
  have h5 := h.kept
  have h6 := h.put
  unfold rstep
  split
  · exact ⟨by simp only; omega, h2, h3, h4, by simp only; omega, by simp; omega⟩
  · have h7 := rflush_len r a.pos
    have h8 := rflush_kept a.pos h4
    exact ⟨by simp only; omega, by simp only; omega, by simp only; omega, by simp only; omega, by simp only; omega, by simp [rflush]⟩
theorem Rm.run {l : List Atom} (h : ∀ a ∈ l, a.pos ≤ 1000000) (k : Nat) : Rm ((l.take k).foldl rstep ⟨[], [], 0, 0⟩) k := by
  induction k with
  | zero => exact ⟨by simp, by simp, by simp, by simp, by simp, by simp⟩
  | succ k ih =>
    by_cases hk : k < l.length
    · rw [List.take_add_one, List.getElem?_eq_getElem hk, List.foldl_append]
      exact ih.step (h _ (List.getElem_mem hk))
    · rw [List.take_of_length_le (by omega), ← List.take_of_length_le (i := k) (l := l) (by omega)]
      exact ⟨by have := ih.out; omega, ih.next0, ih.next, ih.kept0, by have := ih.kept; omega, by have := ih.put; omega⟩
def rst (l : List Atom) (k : Nat) : Ref := (l.take k).foldl rstep ⟨[], [], 0, 0⟩
theorem rst_succ {l : List Atom} {k : Nat} (hk : k < l.length) : rst l (k + 1) = rstep (rst l k) (l.getD (Int.toNat k) default) := by
  unfold rst
  rw [List.take_add_one, List.getElem?_eq_getElem hk, List.foldl_append, Int.toNat_natCast, List.getD_eq_getElem?_getD, List.getElem?_eq_getElem hk]
  rfl
theorem walk73 (l : List Atom) (n : Nat) (hn : n ≤ 1000000) (hl : l.length ≤ 30000000) (hpos : ∀ a ∈ l, a.pos ≤ 1000000) :
    vc Try.prog Γ 49 [0, 1, 4, 5, 6, 7, 8, 9, 11, 13, 14, 15, 16, 21, 42] (Try.f73.body.getD .skip) (postK Γ [.tmp 4] (fun v => v = .rd .part (normalOf l n))) ⟨argSlots 0 [.rd .atom l, .i .i64 n], []⟩ := by
  intro _
  refine Exists.intro [] (Exists.intro [(5, 0, 20, .part)] (Exists.intro [] (Exists.intro Nat (Exists.intro (fun k => k ≤ l.length) (Exists.intro (fun k => ⟨[(1, .i .i64 n), (5, .pt 5 0), (6, .pt 6 0), (7, .pt 7 0), (8, .pt 8 0), (9, .fn 115 [.pt 8 0, .pt 6 0, .pt 7 0, .pt 5 0]), (13, .rd .atom l), (14, .i .i64 l.length), (15, .i .i64 k)],
    [(5, [.vec 20 .part (rst l k).out]), (6, [.s (rst l k).put]), (7, [.i .i64 (rst l k).next]), (8, [.i .i64 (rst l k).kept])]⟩) (Exists.intro (fun k => l.length - k) (Exists.intro 0 (And.intro (Nat.zero_le _) (And.intro ?_ ?_)))))))))
  · repeat' (first | exact trivial | exact Or.inl rfl | refine And.intro ?_ ?_)
  · intro k hk
    have hr : Rm (rst l k) k := Rm.run hpos k
    have r1 := hr.out
    have r2 := hr.next0
    have r3 := hr.next
    have r4 := hr.kept0
    have r5 := hr.kept
    have r6 := hr.put
    refine And.intro (fun h1 => ?_) (fun h1 => ?_)
    · have hk : k < l.length := by have := of_decide_eq_true h1; omega
      refine And.intro ⟨by omega, by omega⟩ ?_
      have e := rst_succ hk
      have hm : (l.getD (Int.toNat k) default).pos ≤ 1000000 := by
        refine hpos _ ?_
        rw [Int.toNat_natCast, List.getD_eq_getElem?_getD, List.getElem?_eq_getElem hk]; exact List.getElem_mem hk
      refine And.intro (fun h2 => ?_) (fun h2 => ?_)
      · have hneg : (l.getD (Int.toNat k) default).pos < 0 := of_decide_eq_true h2
        have e2 : rst l (k + 1) = { rst l k with put := (rst l k).put ++ [UInt8.ofNat (l.getD (Int.toNat k) default).c.toNat] } := by rw [e, rstep, if_pos hneg]
        refine And.intro (by unfold maxLen; show (rst l k).put.length + 1 ≤ _; omega) ?_
        refine And.intro ⟨by show (-9223372036854775808 : Int) ≤ _; omega, by show _ ≤ (9223372036854775807 : Int); omega⟩ ?_
        refine Exists.intro [] (Exists.intro (k + 1) (And.intro hk (And.intro ?_ ?_)))
        · refine And.intro (And.intro (Or.inl rfl) (And.intro (Or.inl rfl) (And.intro (Or.inl rfl) (And.intro (Or.inl rfl) (And.intro (Or.inl rfl) (And.intro (Or.inl rfl) (And.intro (Or.inl rfl) (And.intro (Or.inl rfl) (And.intro (Or.inl rfl) trivial))))))))) (And.intro (And.intro (Or.inl ?_) trivial) (And.intro (And.intro (Or.inl ?_) trivial) (And.intro (And.intro (Or.inl ?_) trivial) (And.intro (And.intro (Or.inl ?_) trivial) trivial))))
          · rw [e2]
          · rw [e2]; rfl
          · rw [e2]
          · rw [e2]
        · show l.length - (k + 1) < l.length - k
          omega
      · have hneg : ¬ (l.getD (Int.toNat k) default).pos < 0 := of_decide_eq_false h2
        have e2 : rst l (k + 1) = ⟨(rflush (rst l k) (l.getD (Int.toNat k) default).pos).out, (rflush (rst l k) (l.getD (Int.toNat k) default).pos).put, (l.getD (Int.toNat k) default).pos + 1, (rflush (rst l k) (l.getD (Int.toNat k) default).pos).kept + 1⟩ := by rw [e, rstep, if_neg hneg]
        refine Or.inr (Exists.intro [] (Exists.intro 115 (Exists.intro [.i .i64 (l.getD (Int.toNat k) default).pos, .pt 1000 0, .pt 1001 0, .pt 1002 0, .pt 1003 0] (Exists.intro (rboxes (rst l k)) (Exists.intro (.tup []) (Exists.intro (rboxes (rflush (rst l k) (l.getD (Int.toNat k) default).pos))
          (Exists.intro [(1000, 8), (1001, 6), (1002, 7), (1003, 5), (1004, 20)] (And.intro (spec115 _ _ r4 (by omega) (by omega) (by omega)) ?_))))))))
        refine And.intro rfl (And.intro rfl (And.intro rfl (And.intro rfl (And.intro rfl (And.intro rfl (And.intro rfl (And.intro rfl ?_)))))))
        have hf := rflush_kept (l.getD (Int.toNat k) default).pos r4
        refine And.intro ⟨by show (-9223372036854775808 : Int) ≤ _; omega, by show _ ≤ (9223372036854775807 : Int); omega⟩ ?_
        refine And.intro ⟨by show (-9223372036854775808 : Int) ≤ (l.getD (Int.toNat k) default).pos + 1; omega, by show (l.getD (Int.toNat k) default).pos + 1 ≤ (9223372036854775807 : Int); omega⟩ ?_
        refine And.intro ⟨by show (-9223372036854775808 : Int) ≤ _; omega, by show _ ≤ (9223372036854775807 : Int); omega⟩ ?_
        refine Exists.intro [] (Exists.intro (k + 1) (And.intro hk (And.intro ?_ ?_)))
        · refine And.intro (And.intro (Or.inl rfl) (And.intro (Or.inl rfl) (And.intro (Or.inl rfl) (And.intro (Or.inl rfl) (And.intro (Or.inl rfl) (And.intro (Or.inl rfl) (And.intro (Or.inl rfl) (And.intro (Or.inl rfl) (And.intro (Or.inl rfl) trivial))))))))) (And.intro (And.intro (Or.inl ?_) trivial) (And.intro (And.intro (Or.inl ?_) trivial) (And.intro (And.intro (Or.inl ?_) trivial) (And.intro (And.intro (Or.inl ?_) trivial) trivial))))
          · rw [e2]
          · rw [e2]
          · rw [e2]
          · rw [e2]
        · show l.length - (k + 1) < l.length - k
          omega
    · have hk : k = l.length := by have := of_decide_eq_false h1; omega
      subst hk
      have hno : normalOf l n = rdone (rst l l.length) n := by unfold normalOf rst; rw [List.take_length]
      refine Or.inr (Exists.intro [] (Exists.intro 115 (Exists.intro [.i .i64 n, .pt 1000 0, .pt 1001 0, .pt 1002 0, .pt 1003 0] (Exists.intro (rboxes (rst l l.length)) (Exists.intro (.tup []) (Exists.intro (rboxes (rflush (rst l l.length) n))
        (Exists.intro [(1000, 8), (1001, 6), (1002, 7), (1003, 5), (1004, 20)] (And.intro (spec115 _ _ r4 (by omega) (by omega) (by omega)) ?_))))))))
      refine And.intro rfl (And.intro rfl (And.intro rfl (And.intro rfl (And.intro rfl (And.intro rfl (And.intro rfl (And.intro rfl ?_)))))))
      have hfl := rflush_len (rst l l.length) n
      refine And.intro (fun h2 => ?_) (fun h2 => ?_)
      · have hk2 : 0 < (rflush (rst l l.length) n).kept := of_decide_eq_true h2
        refine And.intro (by show ((rflush (rst l l.length) n).out.length + 1) * 32 ≤ _; omega) ?_
        show AV.rd .part ((rflush (rst l l.length) n).out ++ [(⟨1, (rflush (rst l l.length) n).kept, []⟩ : Part)]) = AV.rd .part (normalOf l n)
        rw [hno, rdone, if_pos hk2]
      · have hk2 : ¬ 0 < (rflush (rst l l.length) n).kept := of_decide_eq_false h2
        show AV.rd .part (rflush (rst l l.length) n).out = AV.rd .part (normalOf l n)
        rw [hno, rdone, if_neg hk2]
theorem spec73 (l : List Atom) (n : Nat) (hn : n ≤ 1000000) (hl : l.length ≤ 30000000) (hpos : ∀ a ∈ l, a.pos ≤ 1000000) : PSpec Try.prog 73 [.rd .atom l, .i .i64 n] (.rd .part (normalOf l n)) :=
  pspec_of_vc Γ_good Try.func73 rfl Try.call73 Try.results73 Try.ntmps73 (Nat.le_of_ble_eq_true rfl) (walk73 l n hn hl hpos)
end Go.Proofs.Ytjlbaagnoppfgaa
