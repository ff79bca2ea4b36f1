/-
  A part of the proof that 'typecaselaw.TokCuts' returns true: the tokens of the document, and the law. No conditions.
-/
import Derived.Test.YtjlbaagnoppfgaaTokD
namespace Go.Proofs.Ytjlbaagnoppfgaa
set_option linter.unusedSectionVars false
set_option linter.unusedSimpArgs false
set_option linter.unusedVariables false
open Go Go.SX Go.Tk
set_option maxRecDepth 100000
set_option maxHeartbeats 0
def frI (s : Str) : List Int := [0, (frontN (fun n => decide (blankc n)) s : Int), if c0 s = 10 then 1 else 0, (note s : Int), (frontN (fun n => decide (wordc n)) s : Int), if c0 s = 34 then (text s : Int) else 0, if markc (c0 s) then 1 else 0, 0]
/-- the last that is above 0 among the first k -/
def sel (l : List Int) : Nat → Int × Int
  | 0 => (7, 1)
  | k + 1 => if 0 < l.getD k 0 then ((k : Int), l.getD k 0) else sel l k
theorem cls_blank (n : Int) : (cls n = 1) = blankc n := by
  unfold cls
  by_cases h : blankc n
  · rw [if_pos h]; simp [h]
  · rw [if_neg h]
    simp only [h]
    refine eq_false ?_
    (repeat' split) <;> omega
theorem cls_word (n : Int) : (cls n = 4) = wordc n := by
  unfold cls
  by_cases h : wordc n
  · have h1 : ¬ blankc n := by unfold blankc; unfold wordc at h; omega
    have h2 : ¬ n = 10 := by unfold wordc at h; omega
    have h3 : ¬ (n = 35 ∨ n = 47) := by unfold wordc at h; omega
    rw [if_neg h1, if_neg h2, if_neg h3, if_pos h]; simp [h]
  · simp only [h]
    refine eq_false ?_
    rw [if_neg (fun e => e)]
    (repeat' split) <;> omega
theorem front_first {p : Int → Bool} {s : Str} (h0 : s ≠ []) : frontN p s = if p (c0 s) then 1 + frontN p (s.drop 1) else 0 := by
  cases s with
  | nil => exact absurd rfl h0
  | cons c r => simp only [frontN, c0, List.getD_cons_zero, List.drop_succ_cons, List.drop_zero]; split <;> omega
theorem sel_val (v1 v2 v3 v4 v5 v6 : Int) : sel [0, v1, v2, v3, v4, v5, v6, 0] 8 = if 0 < v6 then (6, v6) else if 0 < v5 then (5, v5) else if 0 < v4 then (4, v4) else if 0 < v3 then (3, v3) else if 0 < v2 then (2, v2) else if 0 < v1 then (1, v1) else (7, 1) := by
  simp [sel]
theorem sel_nx {s : Str} (h0 : s ≠ []) : sel (frI s) 8 = ((nx s).1, ((nx s).2 : Int)) := by
  have hb := by8_rng (s.getD 0 0)
  have h1 := front_first (p := fun n => decide (blankc n)) h0
  have h4 := front_first (p := fun n => decide (wordc n)) h0
  have e1 : (fun n => decide (blankc n)) = (fun n => decide (cls n = 1)) := by funext n; exact decide_eq_decide.2 (by rw [cls_blank])
  have e4 : (fun n => decide (wordc n)) = (fun n => decide (cls n = 4)) := by funext n; exact decide_eq_decide.2 (by rw [cls_word])
  have hn0 : c0 s ≠ 35 → c0 s ≠ 47 → note s = 0 := note_zero
  have hkd : kindL s = cls (c0 s) := rfl
  unfold frI
  rw [sel_val]
  have hcl : cls (c0 s) = if blankc (c0 s) then 1 else if c0 s = 10 then 2 else if c0 s = 35 ∨ c0 s = 47 then 3 else if wordc (c0 s) then 4 else if c0 s = 34 then 5 else if markc (c0 s) then 6 else 7 := rfl
  by_cases b1 : blankc (c0 s)
  · rw [if_pos b1] at hcl
    rw [if_pos (decide_eq_true b1)] at h1
    have w : ¬ wordc (c0 s) := by unfold wordc; unfold blankc at b1; omega
    rw [if_neg (by rw [decide_eq_false w]; decide)] at h4
    have hn := hn0 (by unfold blankc at b1; omega) (by unfold blankc at b1; omega)
    have hnx : nx s = (1, 1 + frontN (fun n => decide (blankc n)) (s.drop 1)) := by unfold nx; rw [if_pos (.inl (by rw [hkd, hcl])), hkd, hcl, e1]
    rw [hnx, h4, hn, h1, if_neg (show ¬ c0 s = 10 by unfold blankc at b1; omega), if_neg (show ¬ c0 s = 34 by unfold blankc at b1; omega), if_neg (show ¬ markc (c0 s) by unfold markc; unfold blankc at b1; omega)]
    (repeat' split) <;> first | omega | rfl
  · rw [if_neg b1] at hcl
    rw [if_neg (by rw [decide_eq_false b1]; decide)] at h1
    by_cases b2 : c0 s = 10
    · rw [if_pos b2] at hcl
      have w : ¬ wordc (c0 s) := by unfold wordc; omega
      rw [if_neg (by rw [decide_eq_false w]; decide)] at h4
      have hn := hn0 (by omega) (by omega)
      have hnx : nx s = (2, 1) := by unfold nx; rw [hkd, hcl]; rfl
      rw [hnx, h4, hn, h1, if_pos b2, if_neg (show ¬ c0 s = 34 by omega), if_neg (show ¬ markc (c0 s) by unfold markc; omega)]
      rfl
    · rw [if_neg b2] at hcl
      rw [if_neg b2]
      by_cases b3 : c0 s = 35 ∨ c0 s = 47
      · rw [if_pos b3] at hcl
        have w : ¬ wordc (c0 s) := by unfold wordc; omega
        rw [if_neg (by rw [decide_eq_false w]; decide)] at h4
        rw [h4, h1, if_neg (show ¬ c0 s = 34 by omega), if_neg (show ¬ markc (c0 s) by unfold markc; omega)]
        by_cases hz : note s = 0
        · have hnx : nx s = (7, 1) := by unfold nx; rw [hkd, hcl, if_neg (by decide), if_pos rfl, if_pos hz]
          rw [hnx, hz]
          rfl
        · have hnx : nx s = (3, note s) := by unfold nx; rw [hkd, hcl, if_neg (by decide), if_pos rfl, if_neg hz]
          rw [hnx]
          (repeat' split) <;> first | omega | rfl
      · rw [if_neg b3] at hcl
        have hn := hn0 (by omega) (by omega)
        rw [hn, h1]
        by_cases b4 : wordc (c0 s)
        · rw [if_pos b4] at hcl
          rw [if_pos (decide_eq_true b4)] at h4
          have hnx : nx s = (4, 1 + frontN (fun n => decide (wordc n)) (s.drop 1)) := by unfold nx; rw [if_pos (.inr (by rw [hkd, hcl])), hkd, hcl, e4]
          rw [hnx, h4, if_neg (show ¬ c0 s = 34 by unfold wordc at b4; omega), if_neg (show ¬ markc (c0 s) by unfold markc; unfold wordc at b4; omega)]
          (repeat' split) <;> first | omega | rfl
        · rw [if_neg b4] at hcl
          rw [if_neg (by rw [decide_eq_false b4]; decide)] at h4
          rw [h4]
          by_cases b5 : c0 s = 34
          · rw [if_pos b5] at hcl
            rw [if_pos b5, if_neg (show ¬ markc (c0 s) by unfold markc; omega)]
            by_cases hz : text s = 0
            · have hnx : nx s = (7, 1) := by unfold nx; rw [hkd, hcl, if_neg (by decide), if_neg (by decide), if_pos rfl, if_pos hz]
              rw [hnx, hz]
              rfl
            · have hnx : nx s = (5, text s) := by unfold nx; rw [hkd, hcl, if_neg (by decide), if_neg (by decide), if_pos rfl, if_neg hz]
              rw [hnx]
              (repeat' split) <;> first | omega | rfl
          · rw [if_neg b5] at hcl
            rw [if_neg b5]
            by_cases b6 : markc (c0 s)
            · rw [if_pos b6] at hcl
              have hnx : nx s = (6, 1) := by unfold nx; rw [hkd, hcl]; rfl
              rw [hnx, if_pos b6]
              rfl
            · rw [if_neg b6] at hcl
              have hnx : nx s = (7, 1) := by unfold nx; rw [hkd, hcl]; rfl
              rw [hnx, if_neg b6]
              rfl
section
variable [G : Globs]
theorem w_Tokens (s : Str) : vc Try.prog Γ 43 [0, 2, 3, 4, 5, 6, 7, 8, 9, 12, 16, 20, 21, 22, 26] (Try.f48.body.getD .skip) (postK Γ [.tmp 2, .tmp 3] (fun v => v = cutR s)) ⟨argSlots 0 [.s s], []⟩ := by
  intro _
  refine And.intro (fun hc => ?_) (fun hc => ?_)
  · have hc : (20000 : Int) < s.length := of_decide_eq_true hc
    rw [cutR, if_pos (by omega)]
    show _ = _
    rfl
  · have hc : ¬ (20000 : Int) < s.length := of_decide_eq_false hc
    rw [cutR, if_neg (by omega)]
    refine Exists.intro [(4, 60, .token)] (Exists.intro [] (Exists.intro [] (Exists.intro (List Token × Nat) (Exists.intro (fun x => x.2 ≤ s.length ∧ x.1.length ≤ x.2 ∧ x.1 ++ tokens s x.2 = tokens s 0) (Exists.intro (fun ⟨out, a⟩ => ⟨[(0, .s s), (4, .vec 60 .token out), (5, .i .i64 a)], []⟩) (Exists.intro (fun x => s.length - x.2) (Exists.intro ([], 0) (And.intro ⟨Nat.zero_le _, Nat.le_refl _, rfl⟩ (And.intro ?_ ?_)))))))))
    · (repeat' (first | exact trivial | exact Or.inl rfl | refine And.intro ?_ ?_))
    · rintro ⟨out, a⟩ ⟨ha, hol, heq⟩
      simp only at ha hol heq
      intro _
      refine And.intro (fun hc => ?_) (fun hc => ?_)
      · have hk : a < s.length := by have : (a : Int) < s.length := of_decide_eq_true hc; omega
        have ht : (s.take (Int.toNat (s.length : Int))).drop (Int.toNat a) = s.drop a := by simp only [Int.toNat_natCast, List.take_length]
        have hnb := nx_bounds (drop_ne hk)
        rw [List.length_drop] at hnb
        have qf := s_fronts (s.drop a) (drop_ne hk) (by rw [List.length_drop]; omega)
        have hsel := sel_nx (drop_ne hk)
        rw [tokens_step hk, ← List.singleton_append, ← List.append_assoc] at heq
        refine And.intro ⟨by omega, by omega, Int.le_refl _⟩ ?_
        rw [ht]
        refine Or.inl (Exists.intro _ (And.intro (qf) ?_))
        generalize hs' : s.drop a = t at qf hnb hsel heq
        refine Exists.intro [] (Exists.intro [] (Exists.intro [] (Exists.intro Nat (Exists.intro (fun k => k ≤ 8) (Exists.intro (fun k => ⟨[(0, .s s), (4, .vec 60 .token out), (5, .i .i64 a), (6, .i .i64 (sel (frI t) k).1), (7, .i .i64 (sel (frI t) k).2), (20, .agg (frV t)), (21, .i .i64 k)], []⟩) (Exists.intro (fun k => 8 - k) (Exists.intro 0 (And.intro (Nat.zero_le _) (And.intro ?_ ?_)))))))))
        · (repeat' (first | exact trivial | exact Or.inl rfl | refine And.intro ?_ ?_))
        · intro k hk8
          refine And.intro (fun hc8 => ?_) (fun hc8 => ?_)
          · have hk8 : k < 8 := by have : (k : Int) < 8 := of_decide_eq_true hc8; omega
            rcases (show k = 0 ∨ k = 1 ∨ k = 2 ∨ k = 3 ∨ k = 4 ∨ k = 5 ∨ k = 6 ∨ k = 7 by omega) with rfl | rfl | rfl | rfl | rfl | rfl | rfl | rfl
            · refine And.intro ⟨by decide, by decide⟩ ?_
              refine And.intro (fun h1 => ?_) (fun h1 => ?_)
              · have e : sel (frI t) (0 + 1) = (0, (frI t).getD 0 0) := if_pos (of_decide_eq_true h1)
                refine And.intro ⟨by decide, by decide⟩ ?_
                refine Exists.intro [] (Exists.intro (0 + 1) (And.intro (by omega) (And.intro ?_ ?_)))
                · (repeat' (first | exact trivial | exact Or.inl rfl | exact Or.inl (congrArg (fun x : Int × Int => AV.i .i64 x.1) e.symm) | exact Or.inl (congrArg (fun x : Int × Int => AV.i .i64 x.2) e.symm) | refine And.intro ?_ ?_))
                · decide
              · have e : sel (frI t) (0 + 1) = sel (frI t) 0 := if_neg (of_decide_eq_false h1)
                refine And.intro ⟨by decide, by decide⟩ ?_
                refine Exists.intro [] (Exists.intro (0 + 1) (And.intro (by omega) (And.intro ?_ ?_)))
                · (repeat' (first | exact trivial | exact Or.inl rfl | exact Or.inl (congrArg (fun x : Int × Int => AV.i .i64 x.1) e.symm) | exact Or.inl (congrArg (fun x : Int × Int => AV.i .i64 x.2) e.symm) | refine And.intro ?_ ?_))
                · decide
            · refine And.intro ⟨by decide, by decide⟩ ?_
              refine And.intro (fun h1 => ?_) (fun h1 => ?_)
              · have e : sel (frI t) (1 + 1) = (1, (frI t).getD 1 0) := if_pos (of_decide_eq_true h1)
                refine And.intro ⟨by decide, by decide⟩ ?_
                refine Exists.intro [] (Exists.intro (1 + 1) (And.intro (by omega) (And.intro ?_ ?_)))
                · (repeat' (first | exact trivial | exact Or.inl rfl | exact Or.inl (congrArg (fun x : Int × Int => AV.i .i64 x.1) e.symm) | exact Or.inl (congrArg (fun x : Int × Int => AV.i .i64 x.2) e.symm) | refine And.intro ?_ ?_))
                · decide
              · have e : sel (frI t) (1 + 1) = sel (frI t) 1 := if_neg (of_decide_eq_false h1)
                refine And.intro ⟨by decide, by decide⟩ ?_
                refine Exists.intro [] (Exists.intro (1 + 1) (And.intro (by omega) (And.intro ?_ ?_)))
                · (repeat' (first | exact trivial | exact Or.inl rfl | exact Or.inl (congrArg (fun x : Int × Int => AV.i .i64 x.1) e.symm) | exact Or.inl (congrArg (fun x : Int × Int => AV.i .i64 x.2) e.symm) | refine And.intro ?_ ?_))
                · decide
            · refine And.intro ⟨by decide, by decide⟩ ?_
              refine And.intro (fun h1 => ?_) (fun h1 => ?_)
              · have e : sel (frI t) (2 + 1) = (2, (frI t).getD 2 0) := if_pos (of_decide_eq_true h1)
                refine And.intro ⟨by decide, by decide⟩ ?_
                refine Exists.intro [] (Exists.intro (2 + 1) (And.intro (by omega) (And.intro ?_ ?_)))
                · (repeat' (first | exact trivial | exact Or.inl rfl | exact Or.inl (congrArg (fun x : Int × Int => AV.i .i64 x.1) e.symm) | exact Or.inl (congrArg (fun x : Int × Int => AV.i .i64 x.2) e.symm) | refine And.intro ?_ ?_))
                · decide
              · have e : sel (frI t) (2 + 1) = sel (frI t) 2 := if_neg (of_decide_eq_false h1)
                refine And.intro ⟨by decide, by decide⟩ ?_
                refine Exists.intro [] (Exists.intro (2 + 1) (And.intro (by omega) (And.intro ?_ ?_)))
                · (repeat' (first | exact trivial | exact Or.inl rfl | exact Or.inl (congrArg (fun x : Int × Int => AV.i .i64 x.1) e.symm) | exact Or.inl (congrArg (fun x : Int × Int => AV.i .i64 x.2) e.symm) | refine And.intro ?_ ?_))
                · decide
            · refine And.intro ⟨by decide, by decide⟩ ?_
              refine And.intro (fun h1 => ?_) (fun h1 => ?_)
              · have e : sel (frI t) (3 + 1) = (3, (frI t).getD 3 0) := if_pos (of_decide_eq_true h1)
                refine And.intro ⟨by decide, by decide⟩ ?_
                refine Exists.intro [] (Exists.intro (3 + 1) (And.intro (by omega) (And.intro ?_ ?_)))
                · (repeat' (first | exact trivial | exact Or.inl rfl | exact Or.inl (congrArg (fun x : Int × Int => AV.i .i64 x.1) e.symm) | exact Or.inl (congrArg (fun x : Int × Int => AV.i .i64 x.2) e.symm) | refine And.intro ?_ ?_))
                · decide
              · have e : sel (frI t) (3 + 1) = sel (frI t) 3 := if_neg (of_decide_eq_false h1)
                refine And.intro ⟨by decide, by decide⟩ ?_
                refine Exists.intro [] (Exists.intro (3 + 1) (And.intro (by omega) (And.intro ?_ ?_)))
                · (repeat' (first | exact trivial | exact Or.inl rfl | exact Or.inl (congrArg (fun x : Int × Int => AV.i .i64 x.1) e.symm) | exact Or.inl (congrArg (fun x : Int × Int => AV.i .i64 x.2) e.symm) | refine And.intro ?_ ?_))
                · decide
            · refine And.intro ⟨by decide, by decide⟩ ?_
              refine And.intro (fun h1 => ?_) (fun h1 => ?_)
              · have e : sel (frI t) (4 + 1) = (4, (frI t).getD 4 0) := if_pos (of_decide_eq_true h1)
                refine And.intro ⟨by decide, by decide⟩ ?_
                refine Exists.intro [] (Exists.intro (4 + 1) (And.intro (by omega) (And.intro ?_ ?_)))
                · (repeat' (first | exact trivial | exact Or.inl rfl | exact Or.inl (congrArg (fun x : Int × Int => AV.i .i64 x.1) e.symm) | exact Or.inl (congrArg (fun x : Int × Int => AV.i .i64 x.2) e.symm) | refine And.intro ?_ ?_))
                · decide
              · have e : sel (frI t) (4 + 1) = sel (frI t) 4 := if_neg (of_decide_eq_false h1)
                refine And.intro ⟨by decide, by decide⟩ ?_
                refine Exists.intro [] (Exists.intro (4 + 1) (And.intro (by omega) (And.intro ?_ ?_)))
                · (repeat' (first | exact trivial | exact Or.inl rfl | exact Or.inl (congrArg (fun x : Int × Int => AV.i .i64 x.1) e.symm) | exact Or.inl (congrArg (fun x : Int × Int => AV.i .i64 x.2) e.symm) | refine And.intro ?_ ?_))
                · decide
            · refine And.intro ⟨by decide, by decide⟩ ?_
              refine And.intro (fun h1 => ?_) (fun h1 => ?_)
              · have e : sel (frI t) (5 + 1) = (5, (frI t).getD 5 0) := if_pos (of_decide_eq_true h1)
                refine And.intro ⟨by decide, by decide⟩ ?_
                refine Exists.intro [] (Exists.intro (5 + 1) (And.intro (by omega) (And.intro ?_ ?_)))
                · (repeat' (first | exact trivial | exact Or.inl rfl | exact Or.inl (congrArg (fun x : Int × Int => AV.i .i64 x.1) e.symm) | exact Or.inl (congrArg (fun x : Int × Int => AV.i .i64 x.2) e.symm) | refine And.intro ?_ ?_))
                · decide
              · have e : sel (frI t) (5 + 1) = sel (frI t) 5 := if_neg (of_decide_eq_false h1)
                refine And.intro ⟨by decide, by decide⟩ ?_
                refine Exists.intro [] (Exists.intro (5 + 1) (And.intro (by omega) (And.intro ?_ ?_)))
                · (repeat' (first | exact trivial | exact Or.inl rfl | exact Or.inl (congrArg (fun x : Int × Int => AV.i .i64 x.1) e.symm) | exact Or.inl (congrArg (fun x : Int × Int => AV.i .i64 x.2) e.symm) | refine And.intro ?_ ?_))
                · decide
            · refine And.intro ⟨by decide, by decide⟩ ?_
              refine And.intro (fun h1 => ?_) (fun h1 => ?_)
              · have e : sel (frI t) (6 + 1) = (6, (frI t).getD 6 0) := if_pos (of_decide_eq_true h1)
                refine And.intro ⟨by decide, by decide⟩ ?_
                refine Exists.intro [] (Exists.intro (6 + 1) (And.intro (by omega) (And.intro ?_ ?_)))
                · (repeat' (first | exact trivial | exact Or.inl rfl | exact Or.inl (congrArg (fun x : Int × Int => AV.i .i64 x.1) e.symm) | exact Or.inl (congrArg (fun x : Int × Int => AV.i .i64 x.2) e.symm) | refine And.intro ?_ ?_))
                · decide
              · have e : sel (frI t) (6 + 1) = sel (frI t) 6 := if_neg (of_decide_eq_false h1)
                refine And.intro ⟨by decide, by decide⟩ ?_
                refine Exists.intro [] (Exists.intro (6 + 1) (And.intro (by omega) (And.intro ?_ ?_)))
                · (repeat' (first | exact trivial | exact Or.inl rfl | exact Or.inl (congrArg (fun x : Int × Int => AV.i .i64 x.1) e.symm) | exact Or.inl (congrArg (fun x : Int × Int => AV.i .i64 x.2) e.symm) | refine And.intro ?_ ?_))
                · decide
            · refine And.intro ⟨by decide, by decide⟩ ?_
              refine And.intro (fun h1 => ?_) (fun h1 => ?_)
              · have e : sel (frI t) (7 + 1) = (7, (frI t).getD 7 0) := if_pos (of_decide_eq_true h1)
                refine And.intro ⟨by decide, by decide⟩ ?_
                refine Exists.intro [] (Exists.intro (7 + 1) (And.intro (by omega) (And.intro ?_ ?_)))
                · (repeat' (first | exact trivial | exact Or.inl rfl | exact Or.inl (congrArg (fun x : Int × Int => AV.i .i64 x.1) e.symm) | exact Or.inl (congrArg (fun x : Int × Int => AV.i .i64 x.2) e.symm) | refine And.intro ?_ ?_))
                · decide
              · have e : sel (frI t) (7 + 1) = sel (frI t) 7 := if_neg (of_decide_eq_false h1)
                refine And.intro ⟨by decide, by decide⟩ ?_
                refine Exists.intro [] (Exists.intro (7 + 1) (And.intro (by omega) (And.intro ?_ ?_)))
                · (repeat' (first | exact trivial | exact Or.inl rfl | exact Or.inl (congrArg (fun x : Int × Int => AV.i .i64 x.1) e.symm) | exact Or.inl (congrArg (fun x : Int × Int => AV.i .i64 x.2) e.symm) | refine And.intro ?_ ?_))
                · decide
          · have hk8 : k = 8 := by have : ¬ (k : Int) < 8 := of_decide_eq_false hc8; omega
            subst hk8
            rw [hsel]
            refine And.intro ⟨by show _ ≤ (a : Int) + (nx t).2; omega, by show (a : Int) + (nx t).2 ≤ _; omega⟩ ?_
            refine And.intro (by show (out.length + 1) * 24 ≤ _; omega) ?_
            refine And.intro ⟨by show _ ≤ (a : Int) + (nx t).2; omega, by show (a : Int) + (nx t).2 ≤ _; omega⟩ ?_
            refine Exists.intro [(38, 60)] (Exists.intro (out ++ [⟨(nx t).1, a, ((a + (nx t).2 : Nat) : Int)⟩], a + (nx t).2) (And.intro ⟨by show a + (nx t).2 ≤ s.length; omega, by show (out ++ [_]).length ≤ _; rw [List.length_append, List.length_singleton]; show out.length + 1 ≤ a + (nx t).2; omega, heq⟩ (And.intro ?_ ?_)))
            · (repeat' (first | exact trivial | exact Or.inl rfl | refine And.intro ?_ ?_))
            · show s.length - (a + (nx t).2) < s.length - a
              omega
      · have hk : a = s.length := by have : ¬ (a : Int) < s.length := of_decide_eq_false hc; omega
        subst hk
        rw [tokens_end (Nat.le_refl _), List.append_nil] at heq
        rw [← heq]
        show _ = _
        rfl
theorem s_Tokens (s : Str) : PSpec Try.prog 48 [.s s] (cutR s) :=
  pspec_of_vc Γ_good Try.func48 rfl Try.call48 Try.results48 Try.ntmps48 (Nat.le_of_ble_eq_true rfl) (w_Tokens s)
theorem w_eqTok (l : List Token) : vc Try.prog Γ 26 [0, 1, 4, 5, 10, 12, 13, 14, 24] (Try.f60.body.getD .skip) (postK Γ [.tmp 4] (fun v => v = .b true)) ⟨argSlots 0 [.rd .token l, .rd .token l], []⟩ := by
  intro _ _
  (focus (refine And.intro (fun h9 => ?_) ?_; (focus (exfalso; revert h9; first | decide | (simp <;> omega) | (intro h9; simp at h9 <;> omega))); refine fun _ => ?_))
  intro hl
  refine Exists.intro [] (Exists.intro [] (Exists.intro [] (Exists.intro Nat (Exists.intro (fun k => k ≤ l.length) (Exists.intro (fun k => ⟨[(0, .rd .token l), (1, .rd .token l), (12, .i .i64 l.length), (13, .i .i64 k)], []⟩) (Exists.intro (fun k => l.length - k) (Exists.intro 0 (And.intro (Nat.zero_le _) (And.intro ?_ ?_)))))))))
  · (repeat' (first | exact trivial | exact Or.inl rfl | refine And.intro ?_ ?_))
  · intro k hk0
    refine And.intro (fun h => ?_) (fun h => ?_)
    · have hk : k < l.length := by have : (k : Int) < l.length := of_decide_eq_true h; omega
      refine Exists.intro [.blk [0, 1, 2, 3, 4, 5, 6, 7, 8]] (And.intro (by kernel_rfl) ?_)
      refine And.intro ⟨by omega, by omega⟩ ?_
      refine And.intro ⟨by omega, by omega⟩ ?_
      (focus (refine And.intro (fun h9 => ?_) ?_; (focus (exfalso; revert h9; first | decide | (simp <;> omega) | (intro h9; simp at h9 <;> omega))); refine fun _ => ?_))
      unfold maxLen at hl
      refine And.intro ⟨by omega, by omega⟩ ?_
      refine Exists.intro [] (Exists.intro (k + 1) (And.intro hk (And.intro ?_ ?_)))
      · (repeat' (first | exact trivial | exact Or.inl rfl | refine And.intro ?_ ?_))
      · show l.length - (k + 1) < l.length - k
        omega
    · show _ = _
      rfl
theorem s_eqTok (l : List Token) : PSpec Try.prog 60 [.rd .token l, .rd .token l] (.b true) :=
  pspec_of_vc Γ_good Try.func60 rfl Try.call60 Try.results60 Try.ntmps60 (Nat.le_of_ble_eq_true rfl) (w_eqTok l)
theorem w_eqNil : vc Try.prog Γ 26 [0, 1, 4, 5, 10, 12, 13, 14, 24] (Try.f60.body.getD .skip) (postK Γ [.tmp 4] (fun v => v = .b true)) ⟨argSlots 0 [.nl, .nl], []⟩ := by
  (focus (refine And.intro (fun h9 => ?_) ?_; (focus (exfalso; revert h9; first | decide | (simp <;> omega) | (intro h9; simp at h9 <;> omega))); refine fun _ => ?_))
  refine Exists.intro [] (Exists.intro [] (Exists.intro [] (Exists.intro Unit (Exists.intro (fun _ => True) (Exists.intro (fun _ => ⟨[(0, .nl), (1, .nl), (12, .i .i64 0), (13, .i .i64 0)], []⟩) (Exists.intro (fun _ => 0) (Exists.intro () (And.intro trivial (And.intro ?_ ?_)))))))))
  · (repeat' (first | exact trivial | exact Or.inl rfl | refine And.intro ?_ ?_))
  · intro _ _
    (focus (refine And.intro (fun h9 => ?_) ?_; (focus (exfalso; revert h9; first | decide | (simp <;> omega) | (intro h9; simp at h9 <;> omega))); refine fun _ => ?_))
    show _ = _
    rfl
theorem s_eqNil : PSpec Try.prog 60 [.nl, .nl] (.b true) :=
  pspec_of_vc Γ_good Try.func60 rfl Try.call60 Try.results60 Try.ntmps60 (Nat.le_of_ble_eq_true rfl) (w_eqNil )
theorem w_solid (n : Int) : vc Try.prog Γ 9 [0, 2] (Try.f61.body.getD .skip) (postK Γ [.tmp 2] (fun v => v = .b (decide (4 ≤ n ∧ n ≤ 7)))) ⟨argSlots 0 [.i .i64 n], []⟩ := by
  repeat' (refine And.intro (fun h => ?_) (fun h => ?_) <;> (try simp [-List.getD_eq_getElem?_getD, -Int.pred_toNat] at h))
  all_goals
    refine congrArg AV.b ?_
    rw [Bool.eq_iff_iff]
    simp only [cond_true, cond_false, decide_eq_true_eq, Bool.false_eq_true, true_iff, false_iff]
    first | omega | (constructor <;> intro h9 <;> (try (exfalso; exact h9)) <;> omega)
theorem s_solid (n : Int) : PSpec Try.prog 61 [.i .i64 n] (.b (decide (4 ≤ n ∧ n ≤ 7))) :=
  pspec_of_vc Γ_good Try.func61 rfl Try.call61 Try.results61 Try.ntmps61 (Nat.le_of_ble_eq_true rfl) (w_solid n)
theorem w_law (hml : HasML) (s : Str) (n : Int) : vc Try.prog Γ 46 [0, 1, 4, 5, 6, 7, 8] (Try.f12.body.getD .skip) (postK Γ [.tmp 4] (fun v => v = .b true)) ⟨argSlots 0 [.s s, .i .i64 n], []⟩ := by
  have qa := s_Cut hml s
  have qb := s_Tokens s
  by_cases h : 20000 < s.length
  · rw [cutR, if_pos h] at qa qb
    refine Or.inl (Exists.intro _ (And.intro (qa) ?_))
    refine Or.inl (Exists.intro _ (And.intro (qb) ?_))
    refine Or.inl (Exists.intro _ (And.intro (s_eqNil) ?_))
    (focus (refine And.intro ?_ (fun h9 => ?_); rotate_left 1; (focus (exfalso; revert h9; first | decide | (simp <;> omega) | (intro h9; simp at h9 <;> omega))); refine fun _ => ?_))
    (focus (refine And.intro ?_ (fun h9 => ?_); rotate_left 1; (focus (exfalso; revert h9; first | decide | (simp <;> omega) | (intro h9; simp at h9 <;> omega))); refine fun _ => ?_))
    refine Or.inl (Exists.intro _ (And.intro (s_solid n) ?_))
    repeat' (refine And.intro (fun h => ?_) (fun h => ?_) <;> (try simp [-List.getD_eq_getElem?_getD, -Int.pred_toNat] at h))
    all_goals
      refine congrArg AV.b ?_
      simp [*]
      try (rw [Bool.eq_iff_iff]; simp only [Bool.and_eq_true, decide_eq_true_eq, beq_iff_eq]; (constructor <;> intro h9 <;> (try (exfalso; exact h9)) <;> omega))
  · rw [cutR, if_neg h] at qa qb
    refine Or.inl (Exists.intro _ (And.intro (qa) ?_))
    refine Or.inl (Exists.intro _ (And.intro (qb) ?_))
    refine Or.inl (Exists.intro _ (And.intro (s_eqTok (tokens s 0)) ?_))
    (focus (refine And.intro ?_ (fun h9 => ?_); rotate_left 1; (focus (exfalso; revert h9; first | decide | (simp <;> omega) | (intro h9; simp at h9 <;> omega))); refine fun _ => ?_))
    (focus (refine And.intro ?_ (fun h9 => ?_); rotate_left 1; (focus (exfalso; revert h9; first | decide | (simp <;> omega) | (intro h9; simp at h9 <;> omega))); refine fun _ => ?_))
    refine Or.inl (Exists.intro _ (And.intro (s_solid n) ?_))
    repeat' (refine And.intro (fun h => ?_) (fun h => ?_) <;> (try simp [-List.getD_eq_getElem?_getD, -Int.pred_toNat] at h))
    all_goals
      refine congrArg AV.b ?_
      simp [*]
      try (rw [Bool.eq_iff_iff]; simp only [Bool.and_eq_true, decide_eq_true_eq, beq_iff_eq]; (constructor <;> intro h9 <;> (try (exfalso; exact h9)) <;> omega))
theorem s_law (hml : HasML) (s : Str) (n : Int) : PSpec Try.prog 12 [.s s, .i .i64 n] (.b true) :=
  pspec_of_vc Γ_good Try.func12 rfl Try.call12 Try.results12 Try.ntmps12 (Nat.le_of_ble_eq_true rfl) (w_law hml s n)
end
end Go.Proofs.Ytjlbaagnoppfgaa
