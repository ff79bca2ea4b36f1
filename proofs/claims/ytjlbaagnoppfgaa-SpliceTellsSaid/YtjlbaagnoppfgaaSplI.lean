/-
  A part of the proof that 'typecaselaw.SpliceComposes' returns true, whatever the input: the flush of the document's normal change. No conditions.
-/
import Derived.Test.YtjlbaagnoppfgaaSplH
namespace Go.Proofs.Ytjlbaagnoppfgaa
open Go Go.SX Go.Spl
set_option maxRecDepth 100000
set_option maxHeartbeats 0
def rboxes (r : Ref) : List (Nat × List AV) := [(1000, [.i .i64 r.kept]), (1001, [.s r.put]), (1002, [.i .i64 r.next]), (1003, [.vec 1004 .part r.out])]
theorem walk115 (r : Ref) (to : Int) (hk0 : 0 ≤ r.kept) (hol : r.out.length ≤ 100000000) (hd0 : -1000000000 ≤ to - r.next) (hd1 : to - r.next ≤ 1000000000) :
    vc Try.prog Γ 39 [0, 1, 2, 3, 4, 16, 23, 31, 1000, 1001, 1002, 1003] (Try.f115.body.getD .skip) (postBK Γ [] (.tup []) (rboxes (rflush r to)))
    ⟨argSlots 0 [.i .i64 to, .pt 1000 0, .pt 1001 0, .pt 1002 0, .pt 1003 0], rboxes r⟩ := by
  by_cases hA : 0 < r.kept
  · by_cases hB : r.put = []
    · by_cases hC : r.next < to
      · refine And.intro (fun _ => ?_) (fun h => absurd h (by simp [hA, hB, hC]))
        refine And.intro (fun _ => ?_) (fun h => absurd h (by simp [hA, hB, hC]))
        refine And.intro (fun _ => ?_) (fun h => absurd h (by simp [hA, hB, hC]))
        refine And.intro (by show (r.out.length + 1) * 32 ≤ _; omega) ?_
        refine And.intro (fun h => absurd h (by simp [hA, hB, hC])) (fun _ => ?_)
        refine And.intro (fun _ => ?_) (fun h => absurd h (by simp [hA, hB, hC]))
        refine And.intro ⟨by show (-9223372036854775808 : Int) ≤ to - r.next; omega, by show to - r.next ≤ (9223372036854775807 : Int); omega⟩ ?_
        refine And.intro (by show ((r.out ++ [(⟨1, r.kept, []⟩ : Part)]).length + 1) * 32 ≤ _; rw [show (r.out ++ [(⟨1, r.kept, []⟩ : Part)]).length = r.out.length + 1 by simp]; omega) ?_
        refine Exists.intro [(38, 1004)] (And.intro rfl (And.intro (And.intro (Or.inl ?_) trivial) (And.intro (And.intro (Or.inl rfl) trivial) (And.intro (And.intro (Or.inl rfl) trivial) (And.intro (And.intro (Or.inl ?_) trivial) trivial)))))
        · show AV.i .i64 0 = AV.i .i64 (rflush r to).kept
          simp [rflush, hA, hB, hC]
        · show AV.vec 1004 .part (r.out ++ [(⟨1, r.kept, []⟩ : Part)] ++ [(⟨2, to - r.next, []⟩ : Part)]) = AV.vec 1004 .part (rflush r to).out
          simp [rflush, hA, hB, hC]
      · refine And.intro (fun _ => ?_) (fun h => absurd h (by simp [hA, hB, hC]))
        refine And.intro (fun _ => ?_) (fun h => absurd h (by simp [hA, hB, hC]))
        refine And.intro (fun h => absurd h (by simp [hA, hB, hC])) (fun _ => ?_)
        refine And.intro (fun h => absurd h (by simp [hA, hB, hC])) (fun _ => ?_)
        refine And.intro (fun h => absurd h (by simp [hA, hB, hC])) (fun _ => ?_)
        refine Exists.intro [] (And.intro rfl (And.intro (And.intro (Or.inl ?_) trivial) (And.intro (And.intro (Or.inl rfl) trivial) (And.intro (And.intro (Or.inl rfl) trivial) (And.intro (And.intro (Or.inl ?_) trivial) trivial)))))
        · show AV.i .i64 r.kept = AV.i .i64 (rflush r to).kept
          simp [rflush, hA, hB, hC]
        · show AV.vec 1004 .part (r.out) = AV.vec 1004 .part (rflush r to).out
          simp [rflush, hA, hB, hC]
    · by_cases hC : r.next < to
      · refine And.intro (fun _ => ?_) (fun h => absurd h (by simp [hA, hB, hC]))
        refine And.intro (fun h => absurd h (by simp [hA, hB, hC])) (fun _ => ?_)
        refine And.intro (fun _ => ?_) (fun h => absurd h (by simp [hA, hB, hC]))
        refine And.intro (by show (r.out.length + 1) * 32 ≤ _; omega) ?_
        refine And.intro (fun _ => ?_) (fun h => absurd h (by simp [hA, hB, hC]))
        refine And.intro (by show ((r.out ++ [(⟨1, r.kept, []⟩ : Part)]).length + 1) * 32 ≤ _; rw [show (r.out ++ [(⟨1, r.kept, []⟩ : Part)]).length = r.out.length + 1 by simp]; omega) ?_
        refine And.intro (fun _ => ?_) (fun h => absurd h (by simp [hA, hB, hC]))
        refine And.intro ⟨by show (-9223372036854775808 : Int) ≤ to - r.next; omega, by show to - r.next ≤ (9223372036854775807 : Int); omega⟩ ?_
        refine And.intro (by show ((r.out ++ [(⟨1, r.kept, []⟩ : Part)] ++ [(⟨3, 0, r.put⟩ : Part)]).length + 1) * 32 ≤ _; rw [show (r.out ++ [(⟨1, r.kept, []⟩ : Part)] ++ [(⟨3, 0, r.put⟩ : Part)]).length = r.out.length + 2 by simp]; omega) ?_
        refine Exists.intro [(38, 1004)] (And.intro rfl (And.intro (And.intro (Or.inl ?_) trivial) (And.intro (And.intro (Or.inl rfl) trivial) (And.intro (And.intro (Or.inl rfl) trivial) (And.intro (And.intro (Or.inl ?_) trivial) trivial)))))
        · show AV.i .i64 0 = AV.i .i64 (rflush r to).kept
          simp [rflush, hA, hB, hC]
        · show AV.vec 1004 .part (r.out ++ [(⟨1, r.kept, []⟩ : Part)] ++ [(⟨3, 0, r.put⟩ : Part)] ++ [(⟨2, to - r.next, []⟩ : Part)]) = AV.vec 1004 .part (rflush r to).out
          simp [rflush, hA, hB, hC]
      · refine And.intro (fun _ => ?_) (fun h => absurd h (by simp [hA, hB, hC]))
        refine And.intro (fun h => absurd h (by simp [hA, hB, hC])) (fun _ => ?_)
        refine And.intro (fun _ => ?_) (fun h => absurd h (by simp [hA, hB, hC]))
        refine And.intro (by show (r.out.length + 1) * 32 ≤ _; omega) ?_
        refine And.intro (fun _ => ?_) (fun h => absurd h (by simp [hA, hB, hC]))
        refine And.intro (by show ((r.out ++ [(⟨1, r.kept, []⟩ : Part)]).length + 1) * 32 ≤ _; rw [show (r.out ++ [(⟨1, r.kept, []⟩ : Part)]).length = r.out.length + 1 by simp]; omega) ?_
        refine And.intro (fun h => absurd h (by simp [hA, hB, hC])) (fun _ => ?_)
        refine Exists.intro [(28, 1004)] (And.intro rfl (And.intro (And.intro (Or.inl ?_) trivial) (And.intro (And.intro (Or.inl rfl) trivial) (And.intro (And.intro (Or.inl rfl) trivial) (And.intro (And.intro (Or.inl ?_) trivial) trivial)))))
        · show AV.i .i64 0 = AV.i .i64 (rflush r to).kept
          simp [rflush, hA, hB, hC]
        · show AV.vec 1004 .part (r.out ++ [(⟨1, r.kept, []⟩ : Part)] ++ [(⟨3, 0, r.put⟩ : Part)]) = AV.vec 1004 .part (rflush r to).out
          simp [rflush, hA, hB, hC]
  · by_cases hB : r.put = []
    · by_cases hC : r.next < to
      · refine And.intro (fun h => absurd h (by simp [hA, hB, hC])) (fun _ => ?_)
        refine And.intro (fun h => absurd h (by simp [hA, hB, hC])) (fun _ => ?_)
        refine And.intro (fun h => absurd h (by simp [hA, hB, hC])) (fun _ => ?_)
        refine And.intro (fun _ => ?_) (fun h => absurd h (by simp [hA, hB, hC]))
        refine And.intro ⟨by show (-9223372036854775808 : Int) ≤ to - r.next; omega, by show to - r.next ≤ (9223372036854775807 : Int); omega⟩ ?_
        refine And.intro (by show (r.out.length + 1) * 32 ≤ _; omega) ?_
        refine Exists.intro [(38, 1004)] (And.intro rfl (And.intro (And.intro (Or.inl ?_) trivial) (And.intro (And.intro (Or.inl rfl) trivial) (And.intro (And.intro (Or.inl rfl) trivial) (And.intro (And.intro (Or.inl ?_) trivial) trivial)))))
        · show AV.i .i64 r.kept = AV.i .i64 (rflush r to).kept
          simp [rflush, hA, hB, hC]
        · show AV.vec 1004 .part (r.out ++ [(⟨2, to - r.next, []⟩ : Part)]) = AV.vec 1004 .part (rflush r to).out
          simp [rflush, hA, hB, hC]
      · refine And.intro (fun h => absurd h (by simp [hA, hB, hC])) (fun _ => ?_)
        refine And.intro (fun h => absurd h (by simp [hA, hB, hC])) (fun _ => ?_)
        refine And.intro (fun h => absurd h (by simp [hA, hB, hC])) (fun _ => ?_)
        refine And.intro (fun h => absurd h (by simp [hA, hB, hC])) (fun _ => ?_)
        refine Exists.intro [] (And.intro rfl (And.intro (And.intro (Or.inl ?_) trivial) (And.intro (And.intro (Or.inl rfl) trivial) (And.intro (And.intro (Or.inl rfl) trivial) (And.intro (And.intro (Or.inl ?_) trivial) trivial)))))
        · show AV.i .i64 r.kept = AV.i .i64 (rflush r to).kept
          simp [rflush, hA, hB, hC]
        · show AV.vec 1004 .part (r.out) = AV.vec 1004 .part (rflush r to).out
          simp [rflush, hA, hB, hC]
    · by_cases hC : r.next < to
      · refine And.intro (fun h => absurd h (by simp [hA, hB, hC])) (fun _ => ?_)
        refine And.intro (fun h => absurd h (by simp [hA, hB, hC])) (fun _ => ?_)
        refine And.intro (fun _ => ?_) (fun h => absurd h (by simp [hA, hB, hC]))
        refine And.intro (by show (r.out.length + 1) * 32 ≤ _; omega) ?_
        refine And.intro (fun _ => ?_) (fun h => absurd h (by simp [hA, hB, hC]))
        refine And.intro ⟨by show (-9223372036854775808 : Int) ≤ to - r.next; omega, by show to - r.next ≤ (9223372036854775807 : Int); omega⟩ ?_
        refine And.intro (by show ((r.out ++ [(⟨3, 0, r.put⟩ : Part)]).length + 1) * 32 ≤ _; rw [show (r.out ++ [(⟨3, 0, r.put⟩ : Part)]).length = r.out.length + 1 by simp]; omega) ?_
        refine Exists.intro [(38, 1004)] (And.intro rfl (And.intro (And.intro (Or.inl ?_) trivial) (And.intro (And.intro (Or.inl rfl) trivial) (And.intro (And.intro (Or.inl rfl) trivial) (And.intro (And.intro (Or.inl ?_) trivial) trivial)))))
        · show AV.i .i64 r.kept = AV.i .i64 (rflush r to).kept
          simp [rflush, hA, hB, hC]
        · show AV.vec 1004 .part (r.out ++ [(⟨3, 0, r.put⟩ : Part)] ++ [(⟨2, to - r.next, []⟩ : Part)]) = AV.vec 1004 .part (rflush r to).out
          simp [rflush, hA, hB, hC]
      · refine And.intro (fun h => absurd h (by simp [hA, hB, hC])) (fun _ => ?_)
        refine And.intro (fun h => absurd h (by simp [hA, hB, hC])) (fun _ => ?_)
        refine And.intro (fun _ => ?_) (fun h => absurd h (by simp [hA, hB, hC]))
        refine And.intro (by show (r.out.length + 1) * 32 ≤ _; omega) ?_
        refine And.intro (fun h => absurd h (by simp [hA, hB, hC])) (fun _ => ?_)
        refine Exists.intro [(28, 1004)] (And.intro rfl (And.intro (And.intro (Or.inl ?_) trivial) (And.intro (And.intro (Or.inl rfl) trivial) (And.intro (And.intro (Or.inl rfl) trivial) (And.intro (And.intro (Or.inl ?_) trivial) trivial)))))
        · show AV.i .i64 r.kept = AV.i .i64 (rflush r to).kept
          simp [rflush, hA, hB, hC]
        · show AV.vec 1004 .part (r.out ++ [(⟨3, 0, r.put⟩ : Part)]) = AV.vec 1004 .part (rflush r to).out
          simp [rflush, hA, hB, hC]
theorem spec115 (r : Ref) (to : Int) (hk0 : 0 ≤ r.kept) (hol : r.out.length ≤ 100000000) (hd0 : -1000000000 ≤ to - r.next) (hd1 : to - r.next ≤ 1000000000) :
    CSpec Try.prog 115 [.i .i64 to, .pt 1000 0, .pt 1001 0, .pt 1002 0, .pt 1003 0] (rboxes r) (.tup []) (rboxes (rflush r to)) :=
  cspec_of_vc Γ_good Try.func115 rfl Try.call115 Try.results115 Try.ntmps115 (Nat.le_of_ble_eq_true rfl) (Nat.le_of_ble_eq_true rfl) (by rfl) (walk115 r to hk0 hol hd0 hd1)
end Go.Proofs.Ytjlbaagnoppfgaa
