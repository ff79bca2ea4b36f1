/-
  A part of the proof that 'typecaselaw.SpliceComposes' returns true, whatever the input: the check of a change, and the flush of the builder. No conditions.
-/
import Derived.Test.YtjlbaagnoppfgaaSxCtx
import Derived.Test.YtjlbaagnoppfgaaSxLaw
import Derived.Test.YtjlbaagnoppfgaaSpliceLaw
namespace Go.Proofs.Ytjlbaagnoppfgaa
open Go Go.SX Go.Spl
set_option maxRecDepth 100000
set_option maxHeartbeats 0
def resChk (r : Int × Int × Int) : AV := .tup [.i .i64 r.1, .i .i64 r.2.1, .i .i64 r.2.2]
theorem leaf66 {c : List Part} {k : Nat} {e : Int} (hl : ¬ (400 < (c.length : Int))) (hk : k < c.length) (hall : ∀ p ∈ c.take k, pfault p = 0)
    (he : pfault (c.getD (Int.toNat k) (dflt .part)) = e) (hne : e ≠ 0) : oneTup [.i .i64 0, .i .i64 0, .i .i64 e] = resChk (chk c) := by
  rw [chk_bad hl hk hall (by rw [Int.toNat_natCast] at he; exact he ▸ hne)]
  rw [Int.toNat_natCast] at he
  rw [← he]
  rfl
theorem next66 {c : List Part} {k : Nat} (hk : k < c.length) (hall : ∀ p ∈ c.take k, pfault p = 0) (he : pfault (c.getD (Int.toNat k) (dflt .part)) = 0) : ∀ p ∈ c.take (k + 1), pfault p = 0 := by
  intro p hp
  rw [List.take_add_one, List.mem_append] at hp
  rcases hp with hp | hp
  · exact hall p hp
  · rw [Int.toNat_natCast] at he
    rw [List.getElem?_eq_getElem hk] at hp
    simp at hp
    simp [hk] at he
    rw [hp]; exact he
theorem pov_eq (p : Part) : (p.kind = 3 → pov p = 0) ∧ (p.kind ≠ 3 → pov p = p.n) := by unfold pov; constructor <;> intro h <;> simp [h]
theorem pmk_eq (p : Part) : (p.kind = 2 → pmk p = 0) ∧ (p.kind ≠ 2 → pmk p = p.n + p.s.length) := by unfold pmk; constructor <;> intro h <;> simp [h]
theorem walk66 (c : List Part) : vc Try.prog Γ 85 [0, 2, 3, 4, 6, 9, 10, 11, 12, 13, 16, 25, 44, 49, 60, 67, 82] (Try.f66.body.getD .skip) (postK Γ [.tmp 2, .tmp 3, .tmp 4] (fun v => v = resChk (chk c))) ⟨argSlots 0 [.rd .part c], []⟩ := by
  intro hl
  refine And.intro (fun h => ?_) (fun h400 => ?_)
  · show _ = _
    unfold chk
    rw [if_pos (of_decide_eq_true h)]
    rfl
  · intro _
    simp only [decide_eq_false_iff_not] at h400
    refine Exists.intro [] (Exists.intro [] (Exists.intro [] (Exists.intro Nat (Exists.intro (fun k => k ≤ c.length ∧ ∀ p ∈ c.take k, pfault p = 0) (Exists.intro (fun k => ⟨[(2, .i .i64 (sumOv (c.take k))), (3, .i .i64 (sumMk (c.take k))), (10, .rd .part c), (11, .i .i64 c.length), (12, .i .i64 k)], []⟩) (Exists.intro (fun k => c.length - k) (Exists.intro 0 (And.intro ⟨Nat.zero_le _, by simp⟩ (And.intro ?_ ?_)))))))))
    · repeat' (first | exact trivial | exact Or.inl rfl | refine And.intro ?_ ?_)
    · intro k ⟨hk, hall⟩
      refine And.intro (fun h => ?_) (fun h => ?_)
      · have hk : k < c.length := by have := of_decide_eq_true h; omega
        refine And.intro ⟨by omega, by omega⟩ ?_
        have hsum := sums_le hall
        have hs1 := sum_take hk
        have hle : (c.take k).length ≤ c.length := by simp; omega
        have hpk : c.getD k default = c.getD (Int.toNat k) (dflt Ty.part) := by rw [Int.toNat_natCast]
        rw [hpk] at hs1
        clear hpk h hl
        have hleaf := fun e => @leaf66 c k e h400 hk hall
        have hnext := next66 hk hall
        repeat' (first
          | (refine And.intro (fun h => ?_) (fun h => ?_) <;> (try simp only [decide_eq_true_eq, decide_eq_false_iff_not, cond_true, cond_false, beq_iff_eq, bne_iff_ne, Bool.not_eq_true', beq_eq_false_iff_ne, bne_eq_false_iff_eq, ne_eq, Bool.not_eq_false', Bool.false_eq_true, Bool.true_eq_false, Bool.not_false, Bool.not_true] at h) <;> (try (exfalso; omega)))
          | refine And.intro ?_ ?_
          | intro h)
        all_goals first
          | omega
          | (refine Exists.intro [] (Exists.intro (k + 1) (And.intro ⟨hk, hnext ?_⟩ (And.intro ?_ ?_))))
          | refine hleaf _ ?_ (by decide)
        all_goals clear hleaf hnext
        all_goals generalize c.getD (Int.toNat (k:Int)) (dflt Ty.part) = p at *
        all_goals first
          | (unfold pfault; repeat' split
             all_goals first | rfl | omega | (simp_all; done) | (simp_all; omega))
          | (show c.length - (k + 1) < c.length - k; omega)
          | (have h1 := pov_eq p
             have h2 := pmk_eq p
             repeat' (first | exact trivial | exact Or.inl rfl | refine And.intro ?_ ?_)
             all_goals exact Or.inl (congrArg (AV.i .i64) (by omega)))
      · have hk : k = c.length := by have := of_decide_eq_false h; omega
        subst hk
        rw [List.take_length] at *
        have hg := chk_good h400 hall
        repeat' (first
          | (refine And.intro (fun h => ?_) (fun h => ?_) <;> (try simp only [decide_eq_true_eq, decide_eq_false_iff_not, cond_true, cond_false, beq_iff_eq, bne_iff_ne, Bool.not_eq_true', beq_eq_false_iff_ne, bne_eq_false_iff_eq, ne_eq, Bool.not_eq_false', Bool.false_eq_true, Bool.true_eq_false, Bool.not_false, Bool.not_true] at h) <;> (try (exfalso; omega)))
          | refine And.intro ?_ ?_
          | intro h)
        all_goals (show _ = _; rw [hg])
        all_goals first | (rw [if_pos (by omega)]; rfl) | (rw [if_neg (by omega)]; rfl)
theorem spec66 (c : List Part) : PSpec Try.prog 66 [.rd .part c] (resChk (chk c)) :=
  pspec_of_vc Γ_good Try.func66 rfl Try.call66 Try.results66 Try.ntmps66 (Nat.le_of_ble_eq_true rfl) (walk66 c)
def bcells (b : Bld) : List AV := [.vec 1001 .part b.out, .i .i64 b.cut, .s b.put]
theorem walk114 (b : Bld) (hb : b.out.length ≤ 100000000) : vc Try.prog Γ 46 [0, 6, 25, 1000, 1001] (Try.f114.body.getD .skip) (postBK Γ [] (.tup []) [(1000, bcells (flush b))]) ⟨argSlots 0 [.pt 1000 0], [(1000, bcells b)]⟩ := by
  refine And.intro (fun h => ?_) (fun h => ?_)
  · have hp : b.put ≠ [] := by simpa using h
    refine Exists.intro [.take 0, .blk [1, 2, 3, 4, 5, 6, 7, 8, 9, 10] [17], .one 11, .blk [12, 13], .one 14] (And.intro (by kernel_rfl) ?_)
    refine And.intro (by show (b.out.length + 1) * 32 ≤ _; omega) ?_
    refine And.intro (fun h => ?_) (fun h => ?_)
    · have hc : 0 < b.cut := of_decide_eq_true h
      refine Exists.intro [.take 0, .blk [1, 2, 3, 4, 5, 6, 7, 8, 9, 10] [36], .one 11, .blk [12, 13], .one 14] (And.intro (by kernel_rfl) ?_)
      refine And.intro (by show ((b.out ++ _).length + 1) * 32 ≤ _; rw [List.length_append]; show (b.out.length + 1 + 1) * 32 ≤ _; omega) ?_
      refine Exists.intro [(37, 1001)] (And.intro rfl (And.intro (And.intro (Or.inl ?_) (And.intro (Or.inl rfl) (And.intro (Or.inl rfl) trivial))) trivial))
      show AV.vec 1001 .part (b.out ++ [⟨3, 0, b.put⟩] ++ [⟨2, b.cut, []⟩]) = AV.vec 1001 .part (flush b).out
      simp [flush, hp, hc]
    · have hc : ¬ 0 < b.cut := of_decide_eq_false h
      refine Exists.intro [(18, 1001)] (And.intro rfl (And.intro (And.intro (Or.inl ?_) (And.intro (Or.inl rfl) (And.intro (Or.inl rfl) trivial))) trivial))
      show AV.vec 1001 .part (b.out ++ [⟨3, 0, b.put⟩]) = AV.vec 1001 .part (flush b).out
      simp [flush, hp, hc]
  · have hp : b.put = [] := by simpa using h
    refine And.intro (fun h => ?_) (fun h => ?_)
    · have hc : 0 < b.cut := of_decide_eq_true h
      refine Exists.intro [.take 0, .blk [1, 2, 3, 4, 5, 6, 7, 8, 9, 10] [36], .one 11, .blk [12, 13], .one 14] (And.intro (by kernel_rfl) ?_)
      refine And.intro (by show (b.out.length + 1) * 32 ≤ _; omega) ?_
      refine Exists.intro [(37, 1001)] (And.intro rfl (And.intro (And.intro (Or.inl ?_) (And.intro (Or.inl rfl) (And.intro (Or.inl rfl) trivial))) trivial))
      show AV.vec 1001 .part (b.out ++ [⟨2, b.cut, []⟩]) = AV.vec 1001 .part (flush b).out
      simp [flush, hp, hc]
    · have hc : ¬ 0 < b.cut := of_decide_eq_false h
      refine Exists.intro [] (And.intro rfl (And.intro (And.intro (Or.inl ?_) (And.intro (Or.inl rfl) (And.intro (Or.inl rfl) trivial))) trivial))
      show AV.vec 1001 .part (b.out) = AV.vec 1001 .part (flush b).out
      simp [flush, hp, hc]
theorem spec114 (b : Bld) (hb : b.out.length ≤ 100000000) : CSpec Try.prog 114 [.pt 1000 0] [(1000, bcells b)] (.tup []) [(1000, bcells (flush b))] :=
  cspec_of_vc Γ_good Try.func114 rfl Try.call114 Try.results114 Try.ntmps114 (Nat.le_of_ble_eq_true rfl) (Nat.le_of_ble_eq_true rfl) (by rfl) (walk114 b hb)
end Go.Proofs.Ytjlbaagnoppfgaa
