/-
  A part of the proof that 'typecaselaw.ValCompares' returns true: values in new memory, walked. No conditions.
-/
import Derived.Test.YtjlbaagnoppfgaaValC
import Derived.Test.YtjlbaagnoppfgaaSxArg4
namespace Go.Proofs.Ytjlbaagnoppfgaa
set_option linter.unusedSectionVars false
set_option linter.unusedSimpArgs false
set_option linter.unusedVariables false
open Go Go.SX Go.Vl
set_option maxRecDepth 100000
set_option maxHeartbeats 0
section
variable [G : Globs]
theorem w_own (a : Val) (hl : a.l.length ≤ 100000000) (he : a.e.length ≤ 100000000) (hc : ∀ x ∈ a.l, PSpec Try.prog 111 [.agg (encVal x)] (.agg (encVal x))) (hp : ∀ x ∈ a.e, PSpec Try.prog 111 [.agg (encVal x.2)] (.agg (encVal x.2))) : vc Try.prog Γ 48 [1, 2, 3, 4, 6, 8, 15, 16, 17, 18, 29, 30, 31, 32] (Try.f111.body.getD .skip) (postK Γ [.cell 2 94] (fun v => v = .agg (encVal a))) ⟨argSlots 0 [.agg (encVal a)], []⟩ := by
  refine Exists.intro [.blk [0, 1, 2, 3, 4, 5]] (And.intro (by kernel_rfl) ?_)
  intro hml
  refine Exists.intro [] (Exists.intro [(1, 4, 47, .val)] (Exists.intro [] (Exists.intro Nat (Exists.intro (fun i => i ≤ a.l.length) (Exists.intro (fun i => ⟨[(1, .pt 1 0), (2, .pt 2 0), (4, .rd .ent a.e), (15, .rd .val a.l), (16, .i .i64 a.l.length), (17, .i .i64 i)], [(1, [.i .i64 a.kind, .i .i64 a.n, .i .u64 a.f, .s a.s, .vec 47 .val (a.l.take i), .nl]), (2, [.i .i64 0, .i .i64 0, .i .u64 0, .s [], .nl, .nl])]⟩) (Exists.intro (fun i => a.l.length - i) (Exists.intro 0 (And.intro (Nat.zero_le _) (And.intro ?_ ?_)))))))))
  · (repeat' (first | exact trivial | exact Or.inl rfl | exact Or.inr (Or.inl ⟨rfl, _, rfl⟩) | exact Or.inr (Or.inr (Or.inr ⟨_, _, _, rfl, rfl⟩)) | refine And.intro ?_ ?_))
  · rintro i hi
    refine And.intro (fun hz => ?_) (fun hz => ?_)
    · have hi : i < a.l.length := by have : (i : Int) < (a.l.length : Int) := of_decide_eq_true hz
                                     omega
      have hg : a.l.getD (Int.toNat (i : Int)) (dflt .val) = a.l[i] := by rw [Int.toNat_natCast, List.getD_eq_getElem?_getD, List.getElem?_eq_getElem hi]; rfl
      refine And.intro ⟨by omega, by omega⟩ ?_
      have hs := hc a.l[i] (List.getElem_mem hi)
      rw [← hg] at hs
      refine Exists.intro [.blk [0, 1, 2, 3, 4] [25], .one 5, .take 6, .one 7] (And.intro (by kernel_rfl) ?_)
      refine Exists.intro _ (And.intro (hs) ?_)
      rw [hg]
      refine And.intro (show ((a.l.take i).length + 1) * 88 ≤ 140737488355328 by rw [List.length_take]; omega) ?_
      (refine And.intro (rng64 (by omega) (by omega)) ?_)
      have e : a.l.take i ++ [(⟨a.l[i].kind, a.l[i].n, a.l[i].f, a.l[i].s, a.l[i].l, a.l[i].e⟩ : Val)] = a.l.take (i + 1) := by rw [val_eta, List.take_add_one, List.getElem?_eq_getElem hi]; rfl
      refine Exists.intro [(26, 47)] (Exists.intro (i + 1) (And.intro hi (And.intro ?_ ?_)))
      · (repeat' (first | exact trivial | exact Or.inl rfl | exact Or.inl ((congrArg (AV.vec 47 .val) e)) | refine And.intro ?_ ?_))
      · show a.l.length - (i + 1) < a.l.length - i
        omega
    · have hi : i = a.l.length := by have : ¬ (i : Int) < (a.l.length : Int) := of_decide_eq_false hz
                                     omega
      subst hi
      rw [List.take_length]
      intro hme
      refine Exists.intro [] (Exists.intro [(1, 5, 46, .ent)] (Exists.intro [] (Exists.intro Nat (Exists.intro (fun i => i ≤ a.e.length) (Exists.intro (fun i => ⟨[(1, .pt 1 0), (2, .pt 2 0), (29, .rd .ent a.e), (30, .i .i64 a.e.length), (31, .i .i64 i)], [(1, [.i .i64 a.kind, .i .i64 a.n, .i .u64 a.f, .s a.s, .vec 47 .val a.l, .vec 46 .ent (a.e.take i)]), (2, [.i .i64 0, .i .i64 0, .i .u64 0, .s [], .nl, .nl])]⟩) (Exists.intro (fun i => a.e.length - i) (Exists.intro 0 (And.intro (Nat.zero_le _) (And.intro ?_ ?_)))))))))
      · (repeat' (first | exact trivial | exact Or.inl rfl | exact Or.inr (Or.inl ⟨rfl, _, rfl⟩) | exact Or.inr (Or.inr (Or.inr ⟨_, _, _, rfl, rfl⟩)) | refine And.intro ?_ ?_))
      · rintro i hi
        refine And.intro (fun hz => ?_) (fun hz => ?_)
        · have hi : i < a.e.length := by have : (i : Int) < (a.e.length : Int) := of_decide_eq_true hz
                                         omega
          have hg : a.e.getD (Int.toNat (i : Int)) (dflt .ent) = a.e[i] := by rw [Int.toNat_natCast, List.getD_eq_getElem?_getD, List.getElem?_eq_getElem hi]; rfl
          refine And.intro ⟨by omega, by omega⟩ ?_
          have hs := hp a.e[i] (List.getElem_mem hi)
          rw [← hg] at hs
          refine Exists.intro [.blk [0, 1, 2, 3, 4, 5, 6, 7, 8] [43], .one 9, .take 10, .one 11] (And.intro (by kernel_rfl) ?_)
          refine Exists.intro _ (And.intro (hs) ?_)
          rw [hg]
          refine And.intro (show ((a.e.take i).length + 1) * 104 ≤ 140737488355328 by rw [List.length_take]; omega) ?_
          (refine And.intro (rng64 (by omega) (by omega)) ?_)
          have e : a.e.take i ++ [(a.e[i].1, (⟨a.e[i].2.kind, a.e[i].2.n, a.e[i].2.f, a.e[i].2.s, a.e[i].2.l, a.e[i].2.e⟩ : Val))] = a.e.take (i + 1) := by rw [val_eta, List.take_add_one, List.getElem?_eq_getElem hi]; rfl
          refine Exists.intro [(44, 46)] (Exists.intro (i + 1) (And.intro hi (And.intro ?_ ?_)))
          · (repeat' (first | exact trivial | exact Or.inl rfl | exact Or.inl ((congrArg (AV.vec 46 .ent) e)) | refine And.intro ?_ ?_))
          · show a.e.length - (i + 1) < a.e.length - i
            omega
        · have hi : i = a.e.length := by have : ¬ (i : Int) < (a.e.length : Int) := of_decide_eq_false hz
                                         omega
          subst hi
          rw [List.take_length]
          rfl
theorem s_own (a : Val) (hl : a.l.length ≤ 100000000) (he : a.e.length ≤ 100000000) (hc : ∀ x ∈ a.l, PSpec Try.prog 111 [.agg (encVal x)] (.agg (encVal x))) (hp : ∀ x ∈ a.e, PSpec Try.prog 111 [.agg (encVal x.2)] (.agg (encVal x.2))) : PSpec Try.prog 111 [.agg (encVal a)] (.agg (encVal a)) :=
  pspec_of_vc Γ_good Try.func111 rfl Try.call111 Try.results111 Try.ntmps111 (Nat.le_of_ble_eq_true rfl) (w_own a hl he hc hp)
theorem own_spec : ∀ (m : Nat) (a : Val), SizeOf.sizeOf a < m → VN 100000000 a → PSpec Try.prog 111 [.agg (encVal a)] (.agg (encVal a)) := by
  intro m
  induction m with
  | zero => intro a h; exact absurd h (Nat.not_lt_zero _)
  | succ m ih =>
    intro a hs ha
    cases ha with
    | mk _ a1 a2 a3 a4 =>
      refine s_own a a1 a2 (fun x hx => ih x ?_ (a3 x hx)) (fun x hx => ih x.2 ?_ (a4 x hx))
      · have := val_sz_l hx; omega
      · have := val_sz_e hx; omega
theorem s_Own (a : Val) (ha : VN 100000000 a) : PSpec Try.prog 111 [.agg (encVal a)] (.agg (encVal a)) := own_spec _ a (Nat.lt_succ_self _) ha
theorem w_drop (l : List Ent) (k : Str) (hl1 : l.length ≤ 100000000) (hn : ∀ p ∈ l, VN 100000000 p.2) : vc Try.prog Γ 29 [0, 1, 4, 5, 7, 8, 9, 10, 11, 17] (Try.f57.body.getD .skip) (postK Γ [.tmp 4] (fun v => v = .rd .ent (withoutE l k))) ⟨argSlots 0 [.rd .ent l, .s k], []⟩ := by
  intro hl
  refine Exists.intro [(5, 5, .ent)] (Exists.intro [] (Exists.intro [] (Exists.intro Nat (Exists.intro (fun i => i ≤ l.length) (Exists.intro (fun i => ⟨[(1, .s k), (5, .vec 5 .ent (withoutE (l.take i) k)), (8, .rd .ent l), (9, .i .i64 l.length), (10, .i .i64 i)], []⟩) (Exists.intro (fun i => l.length - i) (Exists.intro 0 (And.intro (Nat.zero_le _) (And.intro ?_ ?_)))))))))
  · (repeat' (first | exact trivial | exact Or.inl rfl | exact Or.inr (Or.inl ⟨rfl, _, rfl⟩) | exact Or.inr (Or.inr (Or.inr ⟨_, _, _, rfl, rfl⟩)) | refine And.intro ?_ ?_))
  · rintro i hi
    refine And.intro (fun he => ?_) (fun he => ?_)
    · have hi : i < l.length := by have : (i : Int) < (l.length : Int) := of_decide_eq_true he
                                   omega
      have hg : l.getD (Int.toNat (i : Int)) (dflt .ent) = l[i] := by rw [Int.toNat_natCast, List.getD_eq_getElem?_getD, List.getElem?_eq_getElem hi]; rfl
      refine And.intro ⟨by omega, by omega⟩ ?_
      refine And.intro (fun hz => ?_) (fun hz => ?_)
      · have hz : keyIs k l[i] = false := by rw [← hg]; simpa [keyIs] using hz
        have hs := s_Own l[i].2 (hn _ (List.getElem_mem hi))
        rw [← hg] at hs
        refine Exists.intro [.blk [0, 1, 2, 3, 4, 5, 6, 7] [25], .one 8, .take 9] (And.intro (by kernel_rfl) ?_)
        refine Exists.intro _ (And.intro (hs) ?_)
        rw [hg]
        have hfl := filter_len (l := l) (k := k) (i := i)
        refine And.intro (show ((withoutE (l.take i) k).length + 1) * 104 ≤ 140737488355328 by omega) ?_
        (refine And.intro (rng64 (by omega) (by omega)) ?_)
        refine Exists.intro [(26, 5)] (Exists.intro (i + 1) (And.intro hi (And.intro ?_ ?_)))
        · have e : withoutE (l.take i) k ++ [(l[i].1, (⟨l[i].2.kind, l[i].2.n, l[i].2.f, l[i].2.s, l[i].2.l, l[i].2.e⟩ : Val))] = withoutE (l.take (i + 1)) k := by rw [val_eta]; exact (filter_next hi hz).symm
          (repeat' (first | exact trivial | exact Or.inl rfl | exact Or.inl ((congrArg (AV.vec 5 .ent) e)) | refine And.intro ?_ ?_))
        · show l.length - (i + 1) < l.length - i
          omega
      · have hz : keyIs k l[i] = true := by rw [← hg]; simpa [keyIs] using hz
        (refine And.intro (rng64 (by omega) (by omega)) ?_)
        refine Exists.intro [] (Exists.intro (i + 1) (And.intro hi (And.intro ?_ ?_)))
        · (repeat' (first | exact trivial | exact Or.inl rfl | exact Or.inl ((congrArg (AV.vec 5 .ent) (filter_skip hi hz).symm)) | refine And.intro ?_ ?_))
        · show l.length - (i + 1) < l.length - i
          omega
    · have hi : i = l.length := by have : ¬ (i : Int) < (l.length : Int) := of_decide_eq_false he
                                   omega
      subst hi
      rw [List.take_length]
      rfl
theorem s_drop (l : List Ent) (k : Str) (hl1 : l.length ≤ 100000000) (hn : ∀ p ∈ l, VN 100000000 p.2) : PSpec Try.prog 57 [.rd .ent l, .s k] (.rd .ent (withoutE l k)) :=
  pspec_of_vc Γ_good Try.func57 rfl Try.call57 Try.results57 Try.ntmps57 (Nat.le_of_ble_eq_true rfl) (w_drop l k hl1 hn)
end
end Go.Proofs.Ytjlbaagnoppfgaa
