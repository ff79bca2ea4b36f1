/-
  A part of a proof: plain laws and walks, one after the other. No conditions.
-/
import Derived.Test.YtdcdmojbkmedpaaTr3
set_option linter.constructorNameAsVariable false
set_option linter.unusedVariables false
set_option linter.unusedSimpArgs false
set_option linter.unusedSectionVars false
section
namespace Go.Proofs.Ytdcdmojbkmedpaa
set_option linter.unusedSectionVars false
set_option linter.unusedSimpArgs false
set_option linter.unusedVariables false
open Go Go.SX Go.Tk
set_option maxRecDepth 100000
set_option maxHeartbeats 0
def c0 (s : Str) : Int := by8 (s.getD 0 0)
def frV (s : Str) : List AV := [.i .i64 0, .i .i64 (frontN (fun n => decide (blankc n)) s), .i .i64 (if c0 s = 10 then 1 else 0), .i .i64 (note s), .i .i64 (frontN (fun n => decide (wordc n)) s), .i .i64 (if c0 s = 34 then (text s : Int) else 0), .i .i64 (if markc (c0 s) then 1 else 0), .i .i64 0]
theorem by8_inj {a b : UInt8} (h : by8 a = by8 b) : a = b := UInt8.toNat_inj.1 (by unfold by8 at h; omega)
theorem c0_eq {s : Str} {b : UInt8} (h : c0 s = by8 b) : s.getD 0 0 = b := by8_inj h
theorem note_zero {s : Str} (h1 : c0 s ≠ 35) (h2 : c0 s ≠ 47) : note s = 0 := by
  unfold note
  rw [if_neg (fun e => h1 (by unfold c0; rw [e]; rfl)), if_neg (fun e => h2 (by unfold c0; rw [e.1]; rfl))]
theorem frV_eq {s : Str} (h10 : c0 s ≠ 10) (h34 : c0 s ≠ 34) (hm : ¬ markc (c0 s)) : frV s = [.i .i64 0, .i .i64 (frontN (fun n => decide (blankc n)) s), .i .i64 0, .i .i64 (note s), .i .i64 (frontN (fun n => decide (wordc n)) s), .i .i64 0, .i .i64 0, .i .i64 0] := by
  unfold frV
  rw [if_neg h10, if_neg h34, if_neg hm]
theorem frO {s : Str} (h35 : c0 s ≠ 35) (h47 : c0 s ≠ 47) (h34 : c0 s ≠ 34) (hm : ¬ markc (c0 s)) : frV s = [.i .i64 0, .i .i64 (frontN (fun n => decide (blankc n)) s), .i .i64 (if c0 s = 10 then 1 else 0), .i .i64 0, .i .i64 (frontN (fun n => decide (wordc n)) s), .i .i64 0, .i .i64 0, .i .i64 0] := by
  unfold frV
  rw [note_zero h35 h47, if_neg h34, if_neg hm]
  rfl
theorem frM {s : Str} (h10 : c0 s ≠ 10) (h35 : c0 s ≠ 35) (h47 : c0 s ≠ 47) (h34 : c0 s ≠ 34) (hm : markc (c0 s)) : frV s = [.i .i64 0, .i .i64 (frontN (fun n => decide (blankc n)) s), .i .i64 0, .i .i64 0, .i .i64 (frontN (fun n => decide (wordc n)) s), .i .i64 0, .i .i64 1, .i .i64 0] := by
  unfold frV
  rw [note_zero h35 h47, if_neg h34, if_neg h10, if_pos hm]
  rfl
theorem fr34 {s : Str} (hc : c0 s = 34) {t : Nat} (ht : text s = t) : frV s = [.i .i64 0, .i .i64 (frontN (fun n => decide (blankc n)) s), .i .i64 0, .i .i64 0, .i .i64 (frontN (fun n => decide (wordc n)) s), .i .i64 t, .i .i64 0, .i .i64 0] := by
  unfold frV
  rw [note_zero (by omega) (by omega), if_pos hc, if_neg (by omega), if_neg (by unfold markc; omega), ht]
  rfl
theorem take2 {s : Str} (h : 2 ≤ s.length) : s.take 2 = [s.getD 0 0, s.getD 1 0] := by
  match s with
  | [] => simp at h
  | [_] => simp at h
  | c :: d :: r => rfl
theorem pre2b {s : Str} (h : (s.take (Int.toNat 2)).drop (Int.toNat 0) = [47, 42]) : s.getD 0 0 = 47 ∧ s.getD 1 0 = 42 := by
  have h : s.take 2 = [47, 42] := h
  match s with
  | [] => cases h
  | [_] => cases h
  | c :: d :: r => injection h with h1 h2; injection h2 with h2 _; subst h1 h2; exact ⟨rfl, rfl⟩
theorem pre2 {s : Str} (h : (s.take (Int.toNat 2)).drop (Int.toNat 0) = [47, 42]) : c0 s = 47 := by
  unfold c0
  rw [(pre2b h).1]
  rfl
theorem note47 {s : Str} (h : s.getD 0 0 = 47 ∧ s.getD 1 0 = 42) (hl : 2 ≤ s.length) : note s = upn 4 (findSC (s.drop (4 - 2))) := by
  unfold note
  rw [if_neg (by rw [h.1]; decide), if_pos ⟨h.1, h.2, hl⟩]
  cases findSC (s.drop (4 - 2)) with
  | none => rfl
  | some n => exact Nat.add_comm _ _
theorem note_no47 {s : Str} (h35 : c0 s ≠ 35) (h : ¬ (s.take (Int.toNat 2)).drop (Int.toNat 0) = [47, 42]) : note s = 0 := by
  unfold note
  rw [if_neg (fun e => h35 (by unfold c0; rw [e]; rfl)), if_neg (fun e => h (by show s.take 2 = _; rw [take2 e.2.2, e.1, e.2.1]))]
theorem note_short {s : Str} (h35 : c0 s ≠ 35) (h : s.length < 4) : note s = 0 := by
  unfold note
  rw [if_neg (fun e => h35 (by unfold c0; rw [e]; rfl))]
  split
  · rw [findSC_end (by omega)]
  · rfl
theorem sub2 {s : Str} {i : Nat} (h2 : 2 ≤ i) (hk : i ≤ s.length) : (s.take (Int.toNat i)).drop (Int.toNat ((i : Int) - 2)) = [42, 47] ↔ (s.getD (i - 2) 0 = 42 ∧ s.getD (i - 2 + 1) 0 = 47) := by
  have e : Int.toNat ((i : Int) - 2) = i - 2 := by omega
  rw [e, Int.toNat_natCast]
  have : (s.take i).drop (i - 2) = [s.getD (i - 2) 0, s.getD (i - 2 + 1) 0] := by
    rw [List.drop_eq_getElem_cons (by rw [List.length_take]; omega), List.drop_eq_getElem_cons (by rw [List.length_take]; omega), List.drop_eq_nil_of_le (by rw [List.length_take]; omega)]
    simp [List.getD_eq_getElem?_getD, List.getElem?_eq_getElem (show i - 2 < s.length by omega), List.getElem?_eq_getElem (show i - 2 + 1 < s.length by omega)]
  rw [this]
  simp
section
variable [G : Globs]
theorem w_fronts (s : Str) (h0 : s ≠ []) (hs : s.length ≤ 1000000) : vc Try.prog Γ 104 [0, 2, 3, 4, 5, 11, 15, 26, 35, 43, 51, 67, 71, 83, 95, 101] (Try.f97.body.getD .skip) (postK Γ [.cell 2 153] (fun v => v = .agg (frV s))) ⟨argSlots 0 [.s s], []⟩ := by
  have hl : 1 ≤ s.length := by cases s with
    | nil => exact absurd rfl h0
    | cons c r => simp
  have q1 := s_run s 124 (fun n => decide (blankc n)) hs (fun x _ _ => s_f1 x)
  have q2 := s_run s 126 (fun n => decide (n ≠ 10)) hs (fun x _ _ => s_f2 x)
  have q4 := s_run s 127 (fun n => decide (wordc n)) hs (fun x _ _ => s_f3 x)
  have q6 := s_oneOf (c0 s) [123, 125, 91, 93, 58, 61, 44] (by decide)
  have hf1 := frontN_le (fun n => decide (blankc n)) s
  have htl := text_le s
  rw [oneN_mark] at q6
  by_cases hc : c0 s = 10
  · have q6 : PSpec Try.prog 125 [.i .u8 (c0 s), .s [123, 125, 91, 93, 58, 61, 44]] (.b false) := by rw [decide_eq_false (by unfold markc; omega)] at q6; exact q6
    have hfr := frO (s := s) (by omega) (by omega) (by omega) (by unfold markc; omega)
    rw [if_pos hc] at hfr
    refine Or.inl (Exists.intro _ (And.intro (q1) ?_))
    refine And.intro ⟨by decide, by decide⟩ ?_
    refine And.intro ⟨by omega, by omega⟩ ?_
    refine And.intro (fun _ => ?_) (fun h9 => absurd hc (show ¬ c0 s = 10 from ne_of_beq_false h9))
    refine And.intro ⟨by decide, by decide⟩ ?_
    refine And.intro ⟨by omega, by omega⟩ ?_
    refine And.intro (fun h9 => absurd (show c0 s = 35 from eq_of_beq h9) (by omega)) (fun _ => ?_)
    intro _
    refine And.intro (fun hlen => ?_) (fun hlen => ?_)
    · have hlen : (4 : Int) ≤ s.length := of_decide_eq_true hlen
      refine And.intro ⟨by omega, by omega, by omega⟩ ?_
      refine And.intro (fun h9 => absurd (pre2 (eq_of_beq h9)) (by omega)) (fun _ => ?_)
      refine Or.inl (Exists.intro _ (And.intro (q4) ?_))
      refine And.intro ⟨by decide, by decide⟩ ?_
      refine And.intro ⟨by omega, by omega⟩ ?_
      refine And.intro (fun h9 => absurd (show c0 s = 34 from eq_of_beq h9) (by omega)) (fun _ => ?_)
      refine And.intro ⟨by omega, by omega⟩ ?_
      refine Or.inl (Exists.intro _ (And.intro (q6) ?_))
      (focus (refine And.intro (fun h9 => ?_) ?_; (focus (exfalso; revert h9; first | decide | (simp <;> omega) | (intro h9; simp at h9 <;> omega))); refine fun _ => ?_))
      show AV.agg _ = _
      rw [hfr]
      all_goals rfl
    · (focus (refine And.intro (fun h9 => ?_) ?_; (focus (exfalso; revert h9; first | decide | (simp <;> omega) | (intro h9; simp at h9 <;> omega))); refine fun _ => ?_))
      refine Or.inl (Exists.intro _ (And.intro (q4) ?_))
      refine And.intro ⟨by decide, by decide⟩ ?_
      refine And.intro ⟨by omega, by omega⟩ ?_
      refine And.intro (fun h9 => absurd (show c0 s = 34 from eq_of_beq h9) (by omega)) (fun _ => ?_)
      refine And.intro ⟨by omega, by omega⟩ ?_
      refine Or.inl (Exists.intro _ (And.intro (q6) ?_))
      (focus (refine And.intro (fun h9 => ?_) ?_; (focus (exfalso; revert h9; first | decide | (simp <;> omega) | (intro h9; simp at h9 <;> omega))); refine fun _ => ?_))
      show AV.agg _ = _
      rw [hfr]
      all_goals rfl
  · by_cases hc : c0 s = 35
    · have q6 : PSpec Try.prog 125 [.i .u8 (c0 s), .s [123, 125, 91, 93, 58, 61, 44]] (.b false) := by rw [decide_eq_false (by unfold markc; omega)] at q6; exact q6
      have hfr := frV_eq (s := s) (by omega) (by omega) (by unfold markc; omega)
      have hn : note s = frontN (fun n => decide (n ≠ 10)) s := by unfold note; rw [if_pos (c0_eq (by rw [hc]; rfl))]
      rw [hn] at hfr
      refine Or.inl (Exists.intro _ (And.intro (q1) ?_))
      refine And.intro ⟨by decide, by decide⟩ ?_
      refine And.intro ⟨by omega, by omega⟩ ?_
      refine And.intro (fun h9 => absurd (show c0 s = 10 from eq_of_beq h9) (by omega)) (fun _ => ?_)
      refine And.intro ⟨by omega, by omega⟩ ?_
      refine And.intro (fun _ => ?_) (fun h9 => absurd hc (show ¬ c0 s = 35 from ne_of_beq_false h9))
      refine Or.inl (Exists.intro _ (And.intro (q2) ?_))
      refine And.intro ⟨by decide, by decide⟩ ?_
      intro _
      refine And.intro (fun hlen => ?_) (fun hlen => ?_)
      · have hlen : (4 : Int) ≤ s.length := of_decide_eq_true hlen
        refine And.intro ⟨by omega, by omega, by omega⟩ ?_
        refine And.intro (fun h9 => absurd (pre2 (eq_of_beq h9)) (by omega)) (fun _ => ?_)
        refine Or.inl (Exists.intro _ (And.intro (q4) ?_))
        refine And.intro ⟨by decide, by decide⟩ ?_
        refine And.intro ⟨by omega, by omega⟩ ?_
        refine And.intro (fun h9 => absurd (show c0 s = 34 from eq_of_beq h9) (by omega)) (fun _ => ?_)
        refine And.intro ⟨by omega, by omega⟩ ?_
        refine Or.inl (Exists.intro _ (And.intro (q6) ?_))
        (focus (refine And.intro (fun h9 => ?_) ?_; (focus (exfalso; revert h9; first | decide | (simp <;> omega) | (intro h9; simp at h9 <;> omega))); refine fun _ => ?_))
        show AV.agg _ = _
        rw [hfr]
        all_goals rfl
      · (focus (refine And.intro (fun h9 => ?_) ?_; (focus (exfalso; revert h9; first | decide | (simp <;> omega) | (intro h9; simp at h9 <;> omega))); refine fun _ => ?_))
        refine Or.inl (Exists.intro _ (And.intro (q4) ?_))
        refine And.intro ⟨by decide, by decide⟩ ?_
        refine And.intro ⟨by omega, by omega⟩ ?_
        refine And.intro (fun h9 => absurd (show c0 s = 34 from eq_of_beq h9) (by omega)) (fun _ => ?_)
        refine And.intro ⟨by omega, by omega⟩ ?_
        refine Or.inl (Exists.intro _ (And.intro (q6) ?_))
        (focus (refine And.intro (fun h9 => ?_) ?_; (focus (exfalso; revert h9; first | decide | (simp <;> omega) | (intro h9; simp at h9 <;> omega))); refine fun _ => ?_))
        show AV.agg _ = _
        rw [hfr]
        all_goals rfl
    · by_cases hc : c0 s = 47
      · have q6 : PSpec Try.prog 125 [.i .u8 (c0 s), .s [123, 125, 91, 93, 58, 61, 44]] (.b false) := by rw [decide_eq_false (by unfold markc; omega)] at q6; exact q6
        have hfr := frV_eq (s := s) (by omega) (by omega) (by unfold markc; omega)
        refine Or.inl (Exists.intro _ (And.intro (q1) ?_))
        refine And.intro ⟨by decide, by decide⟩ ?_
        refine And.intro ⟨by omega, by omega⟩ ?_
        refine And.intro (fun h9 => absurd (show c0 s = 10 from eq_of_beq h9) (by omega)) (fun _ => ?_)
        refine And.intro ⟨by omega, by omega⟩ ?_
        refine And.intro (fun h9 => absurd (show c0 s = 35 from eq_of_beq h9) (by omega)) (fun _ => ?_)
        intro _
        refine And.intro (fun hlen => ?_) (fun hlen => ?_)
        · have hlen : (4 : Int) ≤ s.length := of_decide_eq_true hlen
          refine And.intro ⟨by omega, by omega, by omega⟩ ?_
          refine And.intro (fun h9 => ?_) (fun h9 => ?_)
          · have hp := pre2b (eq_of_beq h9)
            have hnote : note s = upn 4 (findSC (s.drop (4 - 2))) := note47 hp (by omega)
            refine Exists.intro [] (Exists.intro [] (Exists.intro [] (Exists.intro (Nat × Nat) (Exists.intro (fun x => 4 ≤ x.1 ∧ ((x.2 = 0 ∧ note s = upn x.1 (findSC (s.drop (x.1 - 2)))) ∨ (x.2 ≠ 0 ∧ note s = x.2)) ∧ x.1 ≤ s.length + 1) (Exists.intro (fun ⟨i, v⟩ => ⟨[(0, .s s), (2, .pt 2 0), (3, .pt 3 0), (4, .i .i64 i)], [(2, [.i .i64 0, .i .i64 0, .i .i64 0, .i .i64 0, .i .i64 0, .i .i64 0, .i .i64 0, .i .i64 0]), (3, [.i .i64 0, .i .i64 (frontN (fun n => decide (blankc n)) s), .i .i64 0, .i .i64 v, .i .i64 0, .i .i64 0, .i .i64 0, .i .i64 0])]⟩) (Exists.intro (fun x => s.length + 2 - x.1) (Exists.intro (4, 0) (And.intro ⟨Nat.le_refl _, .inl ⟨rfl, hnote⟩, by show 4 ≤ s.length + 1; omega⟩ (And.intro ?_ ?_)))))))))
            · (repeat' (first | exact trivial | exact Or.inl rfl | exact Or.inr (Or.inl ⟨rfl, _, rfl⟩) | exact Or.inr (Or.inr (Or.inr ⟨_, _, _, rfl, rfl⟩)) | refine And.intro ?_ ?_))
            · rintro ⟨i, v⟩ ⟨hi, hv, hil⟩
              simp only at hi hv hil
              intro _
              refine And.intro (fun hcc => ?_) (fun hcc => ?_)
              · have hk : i ≤ s.length := by have : (i : Int) ≤ s.length := of_decide_eq_true hcc; omega
                refine And.intro ⟨by decide, by decide⟩ ?_
                refine And.intro (fun hz => ?_) (fun hz => ?_)
                · have hz : v = 0 := by have := eq_of_beq (show ((v : Int) == 0) = true from hz); omega
                  subst hz
                  have hv : note s = upn i (findSC (s.drop (i - 2))) := hv.elim (fun h => h.2) (fun h => absurd rfl h.1)
                  rw [findSC_step (by omega)] at hv
                  refine And.intro ⟨by omega, by omega⟩ ?_
                  refine And.intro ⟨by omega, by omega, by omega⟩ ?_
                  refine And.intro (fun hq => ?_) (fun hq => ?_)
                  · have hq := (sub2 (by omega) hk).1 (eq_of_beq hq)
                    rw [if_pos hq] at hv
                    refine And.intro ⟨by decide, by decide⟩ ?_
                    refine And.intro ⟨by omega, by omega⟩ ?_
                    refine Exists.intro [] (Exists.intro (i + 1, i) (And.intro ⟨by show 4 ≤ i + 1; omega, .inr ⟨by show i ≠ 0; omega, hv⟩, by show i + 1 ≤ s.length + 1; omega⟩ (And.intro ?_ ?_)))
                    · (repeat' (first | exact trivial | exact Or.inl rfl | exact Or.inr (Or.inl ⟨rfl, _, rfl⟩) | exact Or.inr (Or.inr (Or.inr ⟨_, _, _, rfl, rfl⟩)) | refine And.intro ?_ ?_))
                    · show s.length + 2 - (i + 1) < s.length + 2 - i
                      omega
                  · have hq := fun h => ne_of_beq_false hq ((sub2 (by omega) hk).2 h)
                    rw [if_neg hq, upn_map, show i - 2 + 1 = i + 1 - 2 by omega] at hv
                    refine And.intro ⟨by omega, by omega⟩ ?_
                    refine Exists.intro [] (Exists.intro (i + 1, 0) (And.intro ⟨by show 4 ≤ i + 1; omega, .inl ⟨rfl, hv⟩, by show i + 1 ≤ s.length + 1; omega⟩ (And.intro ?_ ?_)))
                    · (repeat' (first | exact trivial | exact Or.inl rfl | exact Or.inr (Or.inl ⟨rfl, _, rfl⟩) | exact Or.inr (Or.inr (Or.inr ⟨_, _, _, rfl, rfl⟩)) | refine And.intro ?_ ?_))
                    · show s.length + 2 - (i + 1) < s.length + 2 - i
                      omega
                · have hz : v ≠ 0 := by have := ne_of_beq_false (show ((v : Int) == 0) = false from hz); omega
                  have hv : note s = v := hv.elim (fun h => absurd h.1 hz) (fun h => h.2)
                  subst hv
                  refine Or.inl (Exists.intro _ (And.intro (q4) ?_))
                  refine And.intro ⟨by decide, by decide⟩ ?_
                  refine And.intro ⟨by omega, by omega⟩ ?_
                  refine And.intro (fun h9 => absurd (show c0 s = 34 from eq_of_beq h9) (by omega)) (fun _ => ?_)
                  refine And.intro ⟨by omega, by omega⟩ ?_
                  refine Or.inl (Exists.intro _ (And.intro (q6) ?_))
                  (focus (refine And.intro (fun h9 => ?_) ?_; (focus (exfalso; revert h9; first | decide | (simp <;> omega) | (intro h9; simp at h9 <;> omega))); refine fun _ => ?_))
                  show AV.agg _ = _
                  rw [hfr]
                  all_goals rfl
              · have hk : ¬ i ≤ s.length := by have : ¬ (i : Int) ≤ s.length := of_decide_eq_false hcc; omega
                have hv : note s = v := by
                  rcases hv with hv | hv
                  · rw [hv.1, hv.2, findSC_end (by omega)]; rfl
                  · exact hv.2
                subst hv
                (focus (refine And.intro (fun h9 => ?_) ?_; (focus (exfalso; revert h9; first | decide | (simp <;> omega) | (intro h9; simp at h9 <;> omega))); refine fun _ => ?_))
                refine Or.inl (Exists.intro _ (And.intro (q4) ?_))
                refine And.intro ⟨by decide, by decide⟩ ?_
                refine And.intro ⟨by omega, by omega⟩ ?_
                refine And.intro (fun h9 => absurd (show c0 s = 34 from eq_of_beq h9) (by omega)) (fun _ => ?_)
                refine And.intro ⟨by omega, by omega⟩ ?_
                refine Or.inl (Exists.intro _ (And.intro (q6) ?_))
                (focus (refine And.intro (fun h9 => ?_) ?_; (focus (exfalso; revert h9; first | decide | (simp <;> omega) | (intro h9; simp at h9 <;> omega))); refine fun _ => ?_))
                show AV.agg _ = _
                rw [hfr]
                all_goals rfl
          · have hz : note s = 0 := note_no47 (by omega) fun h => ne_of_beq_false h9 h
            rw [hz] at hfr
            refine Or.inl (Exists.intro _ (And.intro (q4) ?_))
            refine And.intro ⟨by decide, by decide⟩ ?_
            refine And.intro ⟨by omega, by omega⟩ ?_
            refine And.intro (fun h9 => absurd (show c0 s = 34 from eq_of_beq h9) (by omega)) (fun _ => ?_)
            refine And.intro ⟨by omega, by omega⟩ ?_
            refine Or.inl (Exists.intro _ (And.intro (q6) ?_))
            (focus (refine And.intro (fun h9 => ?_) ?_; (focus (exfalso; revert h9; first | decide | (simp <;> omega) | (intro h9; simp at h9 <;> omega))); refine fun _ => ?_))
            show AV.agg _ = _
            rw [hfr]
            all_goals rfl
        · have hlen : ¬ (4 : Int) ≤ s.length := of_decide_eq_false hlen
          have hz : note s = 0 := note_short (by omega) (by omega)
          rw [hz] at hfr
          (focus (refine And.intro (fun h9 => ?_) ?_; (focus (exfalso; revert h9; first | decide | (simp <;> omega) | (intro h9; simp at h9 <;> omega))); refine fun _ => ?_))
          refine Or.inl (Exists.intro _ (And.intro (q4) ?_))
          refine And.intro ⟨by decide, by decide⟩ ?_
          refine And.intro ⟨by omega, by omega⟩ ?_
          refine And.intro (fun h9 => absurd (show c0 s = 34 from eq_of_beq h9) (by omega)) (fun _ => ?_)
          refine And.intro ⟨by omega, by omega⟩ ?_
          refine Or.inl (Exists.intro _ (And.intro (q6) ?_))
          (focus (refine And.intro (fun h9 => ?_) ?_; (focus (exfalso; revert h9; first | decide | (simp <;> omega) | (intro h9; simp at h9 <;> omega))); refine fun _ => ?_))
          show AV.agg _ = _
          rw [hfr]
          all_goals rfl
      · by_cases hc : c0 s = 34
        · have q6 : PSpec Try.prog 125 [.i .u8 (c0 s), .s [123, 125, 91, 93, 58, 61, 44]] (.b false) := by rw [decide_eq_false (by unfold markc; omega)] at q6; exact q6
          refine Or.inl (Exists.intro _ (And.intro (q1) ?_))
          refine And.intro ⟨by decide, by decide⟩ ?_
          refine And.intro ⟨by omega, by omega⟩ ?_
          refine And.intro (fun h9 => absurd (show c0 s = 10 from eq_of_beq h9) (by omega)) (fun _ => ?_)
          refine And.intro ⟨by omega, by omega⟩ ?_
          refine And.intro (fun h9 => absurd (show c0 s = 35 from eq_of_beq h9) (by omega)) (fun _ => ?_)
          intro _
          refine And.intro (fun hlen => ?_) (fun hlen => ?_)
          · have hlen : (4 : Int) ≤ s.length := of_decide_eq_true hlen
            refine And.intro ⟨by omega, by omega, by omega⟩ ?_
            refine And.intro (fun h9 => absurd (pre2 (eq_of_beq h9)) (by omega)) (fun _ => ?_)
            refine Or.inl (Exists.intro _ (And.intro (q4) ?_))
            refine And.intro ⟨by decide, by decide⟩ ?_
            refine And.intro ⟨by omega, by omega⟩ ?_
            refine And.intro (fun _ => ?_) (fun h9 => absurd hc (show ¬ c0 s = 34 from ne_of_beq_false h9))
            refine Exists.intro [] (Exists.intro [] (Exists.intro [] (Exists.intro Nat (Exists.intro (fun i => 1 ≤ i ∧ text s = upn i (txt false (s.drop i))) (Exists.intro (fun i => ⟨[(0, .s s), (2, .pt 2 0), (3, .pt 3 0), (5, .i .i64 i)], [(2, [.i .i64 0, .i .i64 0, .i .i64 0, .i .i64 0, .i .i64 0, .i .i64 0, .i .i64 0, .i .i64 0]), (3, [.i .i64 0, .i .i64 (frontN (fun n => decide (blankc n)) s), .i .i64 0, .i .i64 0, .i .i64 (frontN (fun n => decide (wordc n)) s), .i .i64 0, .i .i64 0, .i .i64 0])]⟩) (Exists.intro (fun i => s.length + 2 - i) (Exists.intro 1 (And.intro ⟨Nat.le_refl _, rfl⟩ (And.intro ?_ ?_)))))))))
            · (repeat' (first | exact trivial | exact Or.inl rfl | exact Or.inr (Or.inl ⟨rfl, _, rfl⟩) | exact Or.inr (Or.inr (Or.inr ⟨_, _, _, rfl, rfl⟩)) | refine And.intro ?_ ?_))
            · rintro i ⟨hi, heq⟩
              intro _
              refine And.intro (fun hcc => ?_) (fun hcc => ?_)
              · have hk : i < s.length := by have : (i : Int) < s.length := of_decide_eq_true hcc; omega
                rw [txt_step hk] at heq
                refine And.intro ⟨by omega, by omega⟩ ?_
                refine And.intro (fun h34 => ?_) (fun h34 => ?_)
                · have h34 : ¬ by8 (s.getD i 0) = 34 := by have := (show (by8 (s.getD i 0) != 34) = true from h34); simpa only [bne_iff_ne, ne_eq] using this
                  refine And.intro ⟨by omega, by omega⟩ ?_
                  refine And.intro (fun h10 => ?_) (fun h10 => ?_)
                  · have h10 : ¬ by8 (s.getD i 0) = 10 := by have := (show (by8 (s.getD i 0) != 10) = true from h10); simpa only [bne_iff_ne, ne_eq] using this
                    rw [if_neg h10, if_neg (by decide), if_neg h34, upn_map] at heq
                    refine And.intro ⟨by omega, by omega⟩ ?_
                    refine And.intro (fun h92 => ?_) (fun h92 => ?_)
                    · have h92 : by8 (s.getD i 0) = 92 := eq_of_beq h92
                      rw [decide_eq_true h92] at heq
                      refine And.intro ⟨by omega, by omega⟩ ?_
                      intro _
                      refine And.intro (fun hc2 => ?_) (fun hc2 => ?_)
                      · have hk2 : i + 1 < s.length := by have : ((i : Int) + 1) < s.length := of_decide_eq_true hc2; omega
                        rw [txt_step hk2] at heq
                        refine And.intro ⟨by omega, by omega⟩ ?_
                        refine And.intro (fun hq => ?_) (fun hq => ?_)
                        · have hq : by8 (s.getD (i + 1) 0) = 10 := eq_of_beq hq
                          rw [if_pos hq] at heq
                          have hfr := fr34 hc (show text s = 0 from heq)
                          intro _
                          refine And.intro (fun _ => ?_) (fun h9 => absurd (show ¬ ((i : Int) + 1 : Int) < s.length from of_decide_eq_false h9) (by omega))
                          refine And.intro ⟨by omega, by omega⟩ ?_
                          refine And.intro (fun h9 => absurd (show by8 (s.getD (i + 1) 0) = 34 from eq_of_beq h9) (by omega)) (fun _ => ?_)
                          refine And.intro ⟨by omega, by omega⟩ ?_
                          refine Or.inl (Exists.intro _ (And.intro (q6) ?_))
                          (focus (refine And.intro (fun h9 => ?_) ?_; (focus (exfalso; revert h9; first | decide | (simp <;> omega) | (intro h9; simp at h9 <;> omega))); refine fun _ => ?_))
                          show AV.agg _ = _
                          rw [hfr]
                          all_goals rfl
                        · have hq : ¬ by8 (s.getD (i + 1) 0) = 10 := ne_of_beq_false hq
                          rw [if_neg hq, if_pos rfl, upn_map] at heq
                          refine And.intro ⟨by omega, by omega⟩ ?_
                          refine Exists.intro [] (Exists.intro (i + 1 + 1) (And.intro ⟨by omega, heq⟩ (And.intro ?_ ?_)))
                          · (repeat' (first | exact trivial | exact Or.inl rfl | exact Or.inr (Or.inl ⟨rfl, _, rfl⟩) | exact Or.inr (Or.inr (Or.inr ⟨_, _, _, rfl, rfl⟩)) | refine And.intro ?_ ?_))
                          · show s.length + 2 - (i + 1 + 1) < s.length + 2 - i
                            omega
                      · have hk2 : s.length ≤ i + 1 := by have : ¬ ((i : Int) + 1) < s.length := of_decide_eq_false hc2; omega
                        rw [txt_end hk2] at heq
                        (focus (refine And.intro (fun h9 => ?_) ?_; (focus (exfalso; revert h9; first | decide | (simp <;> omega) | (intro h9; simp at h9 <;> omega))); refine fun _ => ?_))
                        refine And.intro ⟨by omega, by omega⟩ ?_
                        refine Exists.intro [] (Exists.intro (i + 1 + 1) (And.intro ⟨by omega, by rw [txt_end (by omega)]; exact heq⟩ (And.intro ?_ ?_)))
                        · (repeat' (first | exact trivial | exact Or.inl rfl | exact Or.inr (Or.inl ⟨rfl, _, rfl⟩) | exact Or.inr (Or.inr (Or.inr ⟨_, _, _, rfl, rfl⟩)) | refine And.intro ?_ ?_))
                        · show s.length + 2 - (i + 1 + 1) < s.length + 2 - i
                          omega
                    · have h92 : ¬ by8 (s.getD i 0) = 92 := ne_of_beq_false h92
                      rw [decide_eq_false h92] at heq
                      refine And.intro ⟨by omega, by omega⟩ ?_
                      refine Exists.intro [] (Exists.intro (i + 1) (And.intro ⟨by omega, heq⟩ (And.intro ?_ ?_)))
                      · (repeat' (first | exact trivial | exact Or.inl rfl | exact Or.inr (Or.inl ⟨rfl, _, rfl⟩) | exact Or.inr (Or.inr (Or.inr ⟨_, _, _, rfl, rfl⟩)) | refine And.intro ?_ ?_))
                      · show s.length + 2 - (i + 1) < s.length + 2 - i
                        omega
                  · have h10 : by8 (s.getD i 0) = 10 := by have := (show (by8 (s.getD i 0) != 10) = false from h10); simpa only [bne_eq_false_iff_eq] using this
                    rw [if_pos h10] at heq
                    have hfr := fr34 hc (show text s = 0 from heq)
                    intro _
                    refine And.intro (fun _ => ?_) (fun h9 => absurd (show ¬ ((i : Int) : Int) < s.length from of_decide_eq_false h9) (by omega))
                    refine And.intro ⟨by omega, by omega⟩ ?_
                    refine And.intro (fun h9 => absurd (show by8 (s.getD i 0) = 34 from eq_of_beq h9) (by omega)) (fun _ => ?_)
                    refine And.intro ⟨by omega, by omega⟩ ?_
                    refine Or.inl (Exists.intro _ (And.intro (q6) ?_))
                    (focus (refine And.intro (fun h9 => ?_) ?_; (focus (exfalso; revert h9; first | decide | (simp <;> omega) | (intro h9; simp at h9 <;> omega))); refine fun _ => ?_))
                    show AV.agg _ = _
                    rw [hfr]
                    all_goals rfl
                · have h34 : by8 (s.getD i 0) = 34 := by have := (show (by8 (s.getD i 0) != 34) = false from h34); simpa only [bne_eq_false_iff_eq] using this
                  rw [if_neg (by omega), if_neg (by decide), if_pos h34] at heq
                  have hfr := fr34 hc (show text s = i + 1 from heq)
                  (focus (refine And.intro (fun h9 => ?_) ?_; (focus (exfalso; revert h9; first | decide | (simp <;> omega) | (intro h9; simp at h9 <;> omega))); refine fun _ => ?_))
                  intro _
                  refine And.intro (fun _ => ?_) (fun h9 => absurd (show ¬ ((i : Int) : Int) < s.length from of_decide_eq_false h9) (by omega))
                  refine And.intro ⟨by omega, by omega⟩ ?_
                  refine And.intro (fun _ => ?_) (fun h9 => absurd h34 (show ¬ by8 (s.getD i 0) = 34 from ne_of_beq_false h9))
                  refine And.intro ⟨by omega, by omega⟩ ?_
                  refine And.intro ⟨by decide, by decide⟩ ?_
                  refine And.intro ⟨by omega, by omega⟩ ?_
                  refine Or.inl (Exists.intro _ (And.intro (q6) ?_))
                  (focus (refine And.intro (fun h9 => ?_) ?_; (focus (exfalso; revert h9; first | decide | (simp <;> omega) | (intro h9; simp at h9 <;> omega))); refine fun _ => ?_))
                  show AV.agg _ = _
                  rw [hfr]
                  all_goals rfl
              · have hk : s.length ≤ i := by have : ¬ (i : Int) < s.length := of_decide_eq_false hcc; omega
                rw [txt_end hk] at heq
                have hfr := fr34 hc (show text s = 0 from heq)
                (focus (refine And.intro (fun h9 => ?_) ?_; (focus (exfalso; revert h9; first | decide | (simp <;> omega) | (intro h9; simp at h9 <;> omega))); refine fun _ => ?_))
                (focus (refine And.intro (fun h9 => ?_) ?_; (focus (exfalso; revert h9; first | decide | (simp <;> omega) | (intro h9; simp at h9 <;> omega))); refine fun _ => ?_))
                intro _
                refine And.intro (fun h9 => absurd (show ((i : Int) : Int) < s.length from of_decide_eq_true h9) (by omega)) (fun _ => ?_)
                (focus (refine And.intro (fun h9 => ?_) ?_; (focus (exfalso; revert h9; first | decide | (simp <;> omega) | (intro h9; simp at h9 <;> omega))); refine fun _ => ?_))
                refine And.intro ⟨by omega, by omega⟩ ?_
                refine Or.inl (Exists.intro _ (And.intro (q6) ?_))
                (focus (refine And.intro (fun h9 => ?_) ?_; (focus (exfalso; revert h9; first | decide | (simp <;> omega) | (intro h9; simp at h9 <;> omega))); refine fun _ => ?_))
                show AV.agg _ = _
                rw [hfr]
                all_goals rfl
          · (focus (refine And.intro (fun h9 => ?_) ?_; (focus (exfalso; revert h9; first | decide | (simp <;> omega) | (intro h9; simp at h9 <;> omega))); refine fun _ => ?_))
            refine Or.inl (Exists.intro _ (And.intro (q4) ?_))
            refine And.intro ⟨by decide, by decide⟩ ?_
            refine And.intro ⟨by omega, by omega⟩ ?_
            refine And.intro (fun _ => ?_) (fun h9 => absurd hc (show ¬ c0 s = 34 from ne_of_beq_false h9))
            refine Exists.intro [] (Exists.intro [] (Exists.intro [] (Exists.intro Nat (Exists.intro (fun i => 1 ≤ i ∧ text s = upn i (txt false (s.drop i))) (Exists.intro (fun i => ⟨[(0, .s s), (2, .pt 2 0), (3, .pt 3 0), (5, .i .i64 i)], [(2, [.i .i64 0, .i .i64 0, .i .i64 0, .i .i64 0, .i .i64 0, .i .i64 0, .i .i64 0, .i .i64 0]), (3, [.i .i64 0, .i .i64 (frontN (fun n => decide (blankc n)) s), .i .i64 0, .i .i64 0, .i .i64 (frontN (fun n => decide (wordc n)) s), .i .i64 0, .i .i64 0, .i .i64 0])]⟩) (Exists.intro (fun i => s.length + 2 - i) (Exists.intro 1 (And.intro ⟨Nat.le_refl _, rfl⟩ (And.intro ?_ ?_)))))))))
            · (repeat' (first | exact trivial | exact Or.inl rfl | exact Or.inr (Or.inl ⟨rfl, _, rfl⟩) | exact Or.inr (Or.inr (Or.inr ⟨_, _, _, rfl, rfl⟩)) | refine And.intro ?_ ?_))
            · rintro i ⟨hi, heq⟩
              intro _
              refine And.intro (fun hcc => ?_) (fun hcc => ?_)
              · have hk : i < s.length := by have : (i : Int) < s.length := of_decide_eq_true hcc; omega
                rw [txt_step hk] at heq
                refine And.intro ⟨by omega, by omega⟩ ?_
                refine And.intro (fun h34 => ?_) (fun h34 => ?_)
                · have h34 : ¬ by8 (s.getD i 0) = 34 := by have := (show (by8 (s.getD i 0) != 34) = true from h34); simpa only [bne_iff_ne, ne_eq] using this
                  refine And.intro ⟨by omega, by omega⟩ ?_
                  refine And.intro (fun h10 => ?_) (fun h10 => ?_)
                  · have h10 : ¬ by8 (s.getD i 0) = 10 := by have := (show (by8 (s.getD i 0) != 10) = true from h10); simpa only [bne_iff_ne, ne_eq] using this
                    rw [if_neg h10, if_neg (by decide), if_neg h34, upn_map] at heq
                    refine And.intro ⟨by omega, by omega⟩ ?_
                    refine And.intro (fun h92 => ?_) (fun h92 => ?_)
                    · have h92 : by8 (s.getD i 0) = 92 := eq_of_beq h92
                      rw [decide_eq_true h92] at heq
                      refine And.intro ⟨by omega, by omega⟩ ?_
                      intro _
                      refine And.intro (fun hc2 => ?_) (fun hc2 => ?_)
                      · have hk2 : i + 1 < s.length := by have : ((i : Int) + 1) < s.length := of_decide_eq_true hc2; omega
                        rw [txt_step hk2] at heq
                        refine And.intro ⟨by omega, by omega⟩ ?_
                        refine And.intro (fun hq => ?_) (fun hq => ?_)
                        · have hq : by8 (s.getD (i + 1) 0) = 10 := eq_of_beq hq
                          rw [if_pos hq] at heq
                          have hfr := fr34 hc (show text s = 0 from heq)
                          intro _
                          refine And.intro (fun _ => ?_) (fun h9 => absurd (show ¬ ((i : Int) + 1 : Int) < s.length from of_decide_eq_false h9) (by omega))
                          refine And.intro ⟨by omega, by omega⟩ ?_
                          refine And.intro (fun h9 => absurd (show by8 (s.getD (i + 1) 0) = 34 from eq_of_beq h9) (by omega)) (fun _ => ?_)
                          refine And.intro ⟨by omega, by omega⟩ ?_
                          refine Or.inl (Exists.intro _ (And.intro (q6) ?_))
                          (focus (refine And.intro (fun h9 => ?_) ?_; (focus (exfalso; revert h9; first | decide | (simp <;> omega) | (intro h9; simp at h9 <;> omega))); refine fun _ => ?_))
                          show AV.agg _ = _
                          rw [hfr]
                          all_goals rfl
                        · have hq : ¬ by8 (s.getD (i + 1) 0) = 10 := ne_of_beq_false hq
                          rw [if_neg hq, if_pos rfl, upn_map] at heq
                          refine And.intro ⟨by omega, by omega⟩ ?_
                          refine Exists.intro [] (Exists.intro (i + 1 + 1) (And.intro ⟨by omega, heq⟩ (And.intro ?_ ?_)))
                          · (repeat' (first | exact trivial | exact Or.inl rfl | exact Or.inr (Or.inl ⟨rfl, _, rfl⟩) | exact Or.inr (Or.inr (Or.inr ⟨_, _, _, rfl, rfl⟩)) | refine And.intro ?_ ?_))
                          · show s.length + 2 - (i + 1 + 1) < s.length + 2 - i
                            omega
                      · have hk2 : s.length ≤ i + 1 := by have : ¬ ((i : Int) + 1) < s.length := of_decide_eq_false hc2; omega
                        rw [txt_end hk2] at heq
                        (focus (refine And.intro (fun h9 => ?_) ?_; (focus (exfalso; revert h9; first | decide | (simp <;> omega) | (intro h9; simp at h9 <;> omega))); refine fun _ => ?_))
                        refine And.intro ⟨by omega, by omega⟩ ?_
                        refine Exists.intro [] (Exists.intro (i + 1 + 1) (And.intro ⟨by omega, by rw [txt_end (by omega)]; exact heq⟩ (And.intro ?_ ?_)))
                        · (repeat' (first | exact trivial | exact Or.inl rfl | exact Or.inr (Or.inl ⟨rfl, _, rfl⟩) | exact Or.inr (Or.inr (Or.inr ⟨_, _, _, rfl, rfl⟩)) | refine And.intro ?_ ?_))
                        · show s.length + 2 - (i + 1 + 1) < s.length + 2 - i
                          omega
                    · have h92 : ¬ by8 (s.getD i 0) = 92 := ne_of_beq_false h92
                      rw [decide_eq_false h92] at heq
                      refine And.intro ⟨by omega, by omega⟩ ?_
                      refine Exists.intro [] (Exists.intro (i + 1) (And.intro ⟨by omega, heq⟩ (And.intro ?_ ?_)))
                      · (repeat' (first | exact trivial | exact Or.inl rfl | exact Or.inr (Or.inl ⟨rfl, _, rfl⟩) | exact Or.inr (Or.inr (Or.inr ⟨_, _, _, rfl, rfl⟩)) | refine And.intro ?_ ?_))
                      · show s.length + 2 - (i + 1) < s.length + 2 - i
                        omega
                  · have h10 : by8 (s.getD i 0) = 10 := by have := (show (by8 (s.getD i 0) != 10) = false from h10); simpa only [bne_eq_false_iff_eq] using this
                    rw [if_pos h10] at heq
                    have hfr := fr34 hc (show text s = 0 from heq)
                    intro _
                    refine And.intro (fun _ => ?_) (fun h9 => absurd (show ¬ ((i : Int) : Int) < s.length from of_decide_eq_false h9) (by omega))
                    refine And.intro ⟨by omega, by omega⟩ ?_
                    refine And.intro (fun h9 => absurd (show by8 (s.getD i 0) = 34 from eq_of_beq h9) (by omega)) (fun _ => ?_)
                    refine And.intro ⟨by omega, by omega⟩ ?_
                    refine Or.inl (Exists.intro _ (And.intro (q6) ?_))
                    (focus (refine And.intro (fun h9 => ?_) ?_; (focus (exfalso; revert h9; first | decide | (simp <;> omega) | (intro h9; simp at h9 <;> omega))); refine fun _ => ?_))
                    show AV.agg _ = _
                    rw [hfr]
                    all_goals rfl
                · have h34 : by8 (s.getD i 0) = 34 := by have := (show (by8 (s.getD i 0) != 34) = false from h34); simpa only [bne_eq_false_iff_eq] using this
                  rw [if_neg (by omega), if_neg (by decide), if_pos h34] at heq
                  have hfr := fr34 hc (show text s = i + 1 from heq)
                  (focus (refine And.intro (fun h9 => ?_) ?_; (focus (exfalso; revert h9; first | decide | (simp <;> omega) | (intro h9; simp at h9 <;> omega))); refine fun _ => ?_))
                  intro _
                  refine And.intro (fun _ => ?_) (fun h9 => absurd (show ¬ ((i : Int) : Int) < s.length from of_decide_eq_false h9) (by omega))
                  refine And.intro ⟨by omega, by omega⟩ ?_
                  refine And.intro (fun _ => ?_) (fun h9 => absurd h34 (show ¬ by8 (s.getD i 0) = 34 from ne_of_beq_false h9))
                  refine And.intro ⟨by omega, by omega⟩ ?_
                  refine And.intro ⟨by decide, by decide⟩ ?_
                  refine And.intro ⟨by omega, by omega⟩ ?_
                  refine Or.inl (Exists.intro _ (And.intro (q6) ?_))
                  (focus (refine And.intro (fun h9 => ?_) ?_; (focus (exfalso; revert h9; first | decide | (simp <;> omega) | (intro h9; simp at h9 <;> omega))); refine fun _ => ?_))
                  show AV.agg _ = _
                  rw [hfr]
                  all_goals rfl
              · have hk : s.length ≤ i := by have : ¬ (i : Int) < s.length := of_decide_eq_false hcc; omega
                rw [txt_end hk] at heq
                have hfr := fr34 hc (show text s = 0 from heq)
                (focus (refine And.intro (fun h9 => ?_) ?_; (focus (exfalso; revert h9; first | decide | (simp <;> omega) | (intro h9; simp at h9 <;> omega))); refine fun _ => ?_))
                (focus (refine And.intro (fun h9 => ?_) ?_; (focus (exfalso; revert h9; first | decide | (simp <;> omega) | (intro h9; simp at h9 <;> omega))); refine fun _ => ?_))
                intro _
                refine And.intro (fun h9 => absurd (show ((i : Int) : Int) < s.length from of_decide_eq_true h9) (by omega)) (fun _ => ?_)
                (focus (refine And.intro (fun h9 => ?_) ?_; (focus (exfalso; revert h9; first | decide | (simp <;> omega) | (intro h9; simp at h9 <;> omega))); refine fun _ => ?_))
                refine And.intro ⟨by omega, by omega⟩ ?_
                refine Or.inl (Exists.intro _ (And.intro (q6) ?_))
                (focus (refine And.intro (fun h9 => ?_) ?_; (focus (exfalso; revert h9; first | decide | (simp <;> omega) | (intro h9; simp at h9 <;> omega))); refine fun _ => ?_))
                show AV.agg _ = _
                rw [hfr]
                all_goals rfl
        · by_cases hm : markc (c0 s)
          · have q6 : PSpec Try.prog 125 [.i .u8 (c0 s), .s [123, 125, 91, 93, 58, 61, 44]] (.b true) := by rw [decide_eq_true hm] at q6; exact q6
            have hfr := frM (s := s) (by omega) (by omega) (by omega) (by omega) hm
            refine Or.inl (Exists.intro _ (And.intro (q1) ?_))
            refine And.intro ⟨by decide, by decide⟩ ?_
            refine And.intro ⟨by omega, by omega⟩ ?_
            refine And.intro (fun h9 => absurd (show c0 s = 10 from eq_of_beq h9) (by omega)) (fun _ => ?_)
            refine And.intro ⟨by omega, by omega⟩ ?_
            refine And.intro (fun h9 => absurd (show c0 s = 35 from eq_of_beq h9) (by omega)) (fun _ => ?_)
            intro _
            refine And.intro (fun hlen => ?_) (fun hlen => ?_)
            · have hlen : (4 : Int) ≤ s.length := of_decide_eq_true hlen
              refine And.intro ⟨by omega, by omega, by omega⟩ ?_
              refine And.intro (fun h9 => absurd (pre2 (eq_of_beq h9)) (by omega)) (fun _ => ?_)
              refine Or.inl (Exists.intro _ (And.intro (q4) ?_))
              refine And.intro ⟨by decide, by decide⟩ ?_
              refine And.intro ⟨by omega, by omega⟩ ?_
              refine And.intro (fun h9 => absurd (show c0 s = 34 from eq_of_beq h9) (by omega)) (fun _ => ?_)
              refine And.intro ⟨by omega, by omega⟩ ?_
              refine Or.inl (Exists.intro _ (And.intro (q6) ?_))
              (focus (refine And.intro ?_ (fun h9 => ?_); rotate_left 1; (focus (exfalso; revert h9; first | decide | (simp <;> omega) | (intro h9; simp at h9 <;> omega))); refine fun _ => ?_))
              refine And.intro ⟨by decide, by decide⟩ ?_
              show AV.agg _ = _
              rw [hfr]
              all_goals rfl
            · (focus (refine And.intro (fun h9 => ?_) ?_; (focus (exfalso; revert h9; first | decide | (simp <;> omega) | (intro h9; simp at h9 <;> omega))); refine fun _ => ?_))
              refine Or.inl (Exists.intro _ (And.intro (q4) ?_))
              refine And.intro ⟨by decide, by decide⟩ ?_
              refine And.intro ⟨by omega, by omega⟩ ?_
              refine And.intro (fun h9 => absurd (show c0 s = 34 from eq_of_beq h9) (by omega)) (fun _ => ?_)
              refine And.intro ⟨by omega, by omega⟩ ?_
              refine Or.inl (Exists.intro _ (And.intro (q6) ?_))
              (focus (refine And.intro ?_ (fun h9 => ?_); rotate_left 1; (focus (exfalso; revert h9; first | decide | (simp <;> omega) | (intro h9; simp at h9 <;> omega))); refine fun _ => ?_))
              refine And.intro ⟨by decide, by decide⟩ ?_
              show AV.agg _ = _
              rw [hfr]
              all_goals rfl
          · have q6 : PSpec Try.prog 125 [.i .u8 (c0 s), .s [123, 125, 91, 93, 58, 61, 44]] (.b false) := by rw [decide_eq_false hm] at q6; exact q6
            have hfr := frO (s := s) (by omega) (by omega) (by omega) hm
            rw [if_neg (by omega)] at hfr
            refine Or.inl (Exists.intro _ (And.intro (q1) ?_))
            refine And.intro ⟨by decide, by decide⟩ ?_
            refine And.intro ⟨by omega, by omega⟩ ?_
            refine And.intro (fun h9 => absurd (show c0 s = 10 from eq_of_beq h9) (by omega)) (fun _ => ?_)
            refine And.intro ⟨by omega, by omega⟩ ?_
            refine And.intro (fun h9 => absurd (show c0 s = 35 from eq_of_beq h9) (by omega)) (fun _ => ?_)
            intro _
            refine And.intro (fun hlen => ?_) (fun hlen => ?_)
            · have hlen : (4 : Int) ≤ s.length := of_decide_eq_true hlen
              refine And.intro ⟨by omega, by omega, by omega⟩ ?_
              refine And.intro (fun h9 => absurd (pre2 (eq_of_beq h9)) (by omega)) (fun _ => ?_)
              refine Or.inl (Exists.intro _ (And.intro (q4) ?_))
              refine And.intro ⟨by decide, by decide⟩ ?_
              refine And.intro ⟨by omega, by omega⟩ ?_
              refine And.intro (fun h9 => absurd (show c0 s = 34 from eq_of_beq h9) (by omega)) (fun _ => ?_)
              refine And.intro ⟨by omega, by omega⟩ ?_
              refine Or.inl (Exists.intro _ (And.intro (q6) ?_))
              (focus (refine And.intro (fun h9 => ?_) ?_; (focus (exfalso; revert h9; first | decide | (simp <;> omega) | (intro h9; simp at h9 <;> omega))); refine fun _ => ?_))
              show AV.agg _ = _
              rw [hfr]
              all_goals rfl
            · (focus (refine And.intro (fun h9 => ?_) ?_; (focus (exfalso; revert h9; first | decide | (simp <;> omega) | (intro h9; simp at h9 <;> omega))); refine fun _ => ?_))
              refine Or.inl (Exists.intro _ (And.intro (q4) ?_))
              refine And.intro ⟨by decide, by decide⟩ ?_
              refine And.intro ⟨by omega, by omega⟩ ?_
              refine And.intro (fun h9 => absurd (show c0 s = 34 from eq_of_beq h9) (by omega)) (fun _ => ?_)
              refine And.intro ⟨by omega, by omega⟩ ?_
              refine Or.inl (Exists.intro _ (And.intro (q6) ?_))
              (focus (refine And.intro (fun h9 => ?_) ?_; (focus (exfalso; revert h9; first | decide | (simp <;> omega) | (intro h9; simp at h9 <;> omega))); refine fun _ => ?_))
              show AV.agg _ = _
              rw [hfr]
              all_goals rfl
theorem s_fronts (s : Str) (h0 : s ≠ []) (hs : s.length ≤ 1000000) : PSpec Try.prog 97 [.s s] (.agg (frV s)) :=
  pspec_of_vc Γ_good Try.func97 rfl Try.call97 Try.results97 Try.ntmps97 (Nat.le_of_ble_eq_true rfl) (w_fronts s h0 hs)
end
end Go.Proofs.Ytdcdmojbkmedpaa
end
section
namespace Go.Proofs.Ytdcdmojbkmedpaa
set_option linter.unusedSectionVars false
set_option linter.unusedSimpArgs false
set_option linter.unusedVariables false
open Go Go.SX Go.Tk
set_option maxRecDepth 100000
set_option maxHeartbeats 0
def frI (s : Str) : List Int := [0, (frontN (fun n => decide (blankc n)) s : Int), if c0 s = 10 then 1 else 0, (note s : Int), (frontN (fun n => decide (wordc n)) s : Int), if c0 s = 34 then (text s : Int) else 0, if markc (c0 s) then 1 else 0, 0]
/-- the last that is above 0 among the first k -/
def sel (l : List Int) : Nat → Int × Int
  | 0 => (7, 1)
  | k + 1 => if 0 < l.getD k 0 then ((k : Int), l.getD k 0) else sel l k
theorem cls_blank (n : Int) : (cls n = 1) = blankc n := by
  unfold cls
  by_cases h : blankc n
  · rw [if_pos h]; simp [h]
  · rw [if_neg h]
    simp only [h]
    refine eq_false ?_
    (repeat' split) <;> omega
theorem cls_word (n : Int) : (cls n = 4) = wordc n := by
  unfold cls
  by_cases h : wordc n
  · have h1 : ¬ blankc n := by unfold blankc; unfold wordc at h; omega
    have h2 : ¬ n = 10 := by unfold wordc at h; omega
    have h3 : ¬ (n = 35 ∨ n = 47) := by unfold wordc at h; omega
    rw [if_neg h1, if_neg h2, if_neg h3, if_pos h]; simp [h]
  · simp only [h]
    refine eq_false ?_
    rw [if_neg (fun e => e)]
    (repeat' split) <;> omega
theorem front_first {p : Int → Bool} {s : Str} (h0 : s ≠ []) : frontN p s = if p (c0 s) then 1 + frontN p (s.drop 1) else 0 := by
  cases s with
  | nil => exact absurd rfl h0
  | cons c r => simp only [frontN, c0, List.getD_cons_zero, List.drop_succ_cons, List.drop_zero]; split <;> omega
theorem sel_val (v1 v2 v3 v4 v5 v6 : Int) : sel [0, v1, v2, v3, v4, v5, v6, 0] 8 = if 0 < v6 then (6, v6) else if 0 < v5 then (5, v5) else if 0 < v4 then (4, v4) else if 0 < v3 then (3, v3) else if 0 < v2 then (2, v2) else if 0 < v1 then (1, v1) else (7, 1) := by
  simp [sel]
theorem sel_nx {s : Str} (h0 : s ≠ []) : sel (frI s) 8 = ((nx s).1, ((nx s).2 : Int)) := by
  have hb := by8_rng (s.getD 0 0)
  have h1 := front_first (p := fun n => decide (blankc n)) h0
  have h4 := front_first (p := fun n => decide (wordc n)) h0
  have e1 : (fun n => decide (blankc n)) = (fun n => decide (cls n = 1)) := by funext n; exact decide_eq_decide.2 (by rw [cls_blank])
  have e4 : (fun n => decide (wordc n)) = (fun n => decide (cls n = 4)) := by funext n; exact decide_eq_decide.2 (by rw [cls_word])
  have hn0 : c0 s ≠ 35 → c0 s ≠ 47 → note s = 0 := note_zero
  have hkd : kindL s = cls (c0 s) := rfl
  unfold frI
  rw [sel_val]
  have hcl : cls (c0 s) = if blankc (c0 s) then 1 else if c0 s = 10 then 2 else if c0 s = 35 ∨ c0 s = 47 then 3 else if wordc (c0 s) then 4 else if c0 s = 34 then 5 else if markc (c0 s) then 6 else 7 := rfl
  by_cases b1 : blankc (c0 s)
  · rw [if_pos b1] at hcl
    rw [if_pos (decide_eq_true b1)] at h1
    have w : ¬ wordc (c0 s) := by unfold wordc; unfold blankc at b1; omega
    rw [if_neg (by rw [decide_eq_false w]; decide)] at h4
    have hn := hn0 (by unfold blankc at b1; omega) (by unfold blankc at b1; omega)
    have hnx : nx s = (1, 1 + frontN (fun n => decide (blankc n)) (s.drop 1)) := by unfold nx; rw [if_pos (.inl (by rw [hkd, hcl])), hkd, hcl, e1]
    rw [hnx, h4, hn, h1, if_neg (show ¬ c0 s = 10 by unfold blankc at b1; omega), if_neg (show ¬ c0 s = 34 by unfold blankc at b1; omega), if_neg (show ¬ markc (c0 s) by unfold markc; unfold blankc at b1; omega)]
    (repeat' split) <;> first | omega | rfl
  · rw [if_neg b1] at hcl
    rw [if_neg (by rw [decide_eq_false b1]; decide)] at h1
    by_cases b2 : c0 s = 10
    · rw [if_pos b2] at hcl
      have w : ¬ wordc (c0 s) := by unfold wordc; omega
      rw [if_neg (by rw [decide_eq_false w]; decide)] at h4
      have hn := hn0 (by omega) (by omega)
      have hnx : nx s = (2, 1) := by unfold nx; rw [hkd, hcl]; rfl
      rw [hnx, h4, hn, h1, if_pos b2, if_neg (show ¬ c0 s = 34 by omega), if_neg (show ¬ markc (c0 s) by unfold markc; omega)]
      rfl
    · rw [if_neg b2] at hcl
      rw [if_neg b2]
      by_cases b3 : c0 s = 35 ∨ c0 s = 47
      · rw [if_pos b3] at hcl
        have w : ¬ wordc (c0 s) := by unfold wordc; omega
        rw [if_neg (by rw [decide_eq_false w]; decide)] at h4
        rw [h4, h1, if_neg (show ¬ c0 s = 34 by omega), if_neg (show ¬ markc (c0 s) by unfold markc; omega)]
        by_cases hz : note s = 0
        · have hnx : nx s = (7, 1) := by unfold nx; rw [hkd, hcl, if_neg (by decide), if_pos rfl, if_pos hz]
          rw [hnx, hz]
          rfl
        · have hnx : nx s = (3, note s) := by unfold nx; rw [hkd, hcl, if_neg (by decide), if_pos rfl, if_neg hz]
          rw [hnx]
          (repeat' split) <;> first | omega | rfl
      · rw [if_neg b3] at hcl
        have hn := hn0 (by omega) (by omega)
        rw [hn, h1]
        by_cases b4 : wordc (c0 s)
        · rw [if_pos b4] at hcl
          rw [if_pos (decide_eq_true b4)] at h4
          have hnx : nx s = (4, 1 + frontN (fun n => decide (wordc n)) (s.drop 1)) := by unfold nx; rw [if_pos (.inr (by rw [hkd, hcl])), hkd, hcl, e4]
          rw [hnx, h4, if_neg (show ¬ c0 s = 34 by unfold wordc at b4; omega), if_neg (show ¬ markc (c0 s) by unfold markc; unfold wordc at b4; omega)]
          (repeat' split) <;> first | omega | rfl
        · rw [if_neg b4] at hcl
          rw [if_neg (by rw [decide_eq_false b4]; decide)] at h4
          rw [h4]
          by_cases b5 : c0 s = 34
          · rw [if_pos b5] at hcl
            rw [if_pos b5, if_neg (show ¬ markc (c0 s) by unfold markc; omega)]
            by_cases hz : text s = 0
            · have hnx : nx s = (7, 1) := by unfold nx; rw [hkd, hcl, if_neg (by decide), if_neg (by decide), if_pos rfl, if_pos hz]
              rw [hnx, hz]
              rfl
            · have hnx : nx s = (5, text s) := by unfold nx; rw [hkd, hcl, if_neg (by decide), if_neg (by decide), if_pos rfl, if_neg hz]
              rw [hnx]
              (repeat' split) <;> first | omega | rfl
          · rw [if_neg b5] at hcl
            rw [if_neg b5]
            by_cases b6 : markc (c0 s)
            · rw [if_pos b6] at hcl
              have hnx : nx s = (6, 1) := by unfold nx; rw [hkd, hcl]; rfl
              rw [hnx, if_pos b6]
              rfl
            · rw [if_neg b6] at hcl
              have hnx : nx s = (7, 1) := by unfold nx; rw [hkd, hcl]; rfl
              rw [hnx, if_neg b6]
              rfl
section
variable [G : Globs]
theorem w_Tokens (s : Str) : vc Try.prog Γ 43 [0, 2, 3, 4, 5, 6, 7, 8, 9, 12, 16, 20, 21, 22, 26] (Try.f62.body.getD .skip) (postK Γ [.tmp 2, .tmp 3] (fun v => v = cutR s)) ⟨argSlots 0 [.s s], []⟩ := by
  intro _
  refine And.intro (fun hc => ?_) (fun hc => ?_)
  · have hc : (20000 : Int) < s.length := of_decide_eq_true hc
    rw [cutR, if_pos (by omega)]
    show _ = _
    rfl
  · have hc : ¬ (20000 : Int) < s.length := of_decide_eq_false hc
    rw [cutR, if_neg (by omega)]
    refine Exists.intro [(4, 60, .token)] (Exists.intro [] (Exists.intro [] (Exists.intro (List Token × Nat) (Exists.intro (fun x => x.2 ≤ s.length ∧ x.1.length ≤ x.2 ∧ x.1 ++ tokens s x.2 = tokens s 0) (Exists.intro (fun ⟨out, a⟩ => ⟨[(0, .s s), (4, .vec 60 .token out), (5, .i .i64 a)], []⟩) (Exists.intro (fun x => s.length - x.2) (Exists.intro ([], 0) (And.intro ⟨Nat.zero_le _, Nat.le_refl _, rfl⟩ (And.intro ?_ ?_)))))))))
    · (repeat' (first | exact trivial | exact Or.inl rfl | exact Or.inr (Or.inl ⟨rfl, _, rfl⟩) | exact Or.inr (Or.inr (Or.inr ⟨_, _, _, rfl, rfl⟩)) | refine And.intro ?_ ?_))
    · rintro ⟨out, a⟩ ⟨ha, hol, heq⟩
      simp only at ha hol heq
      intro _
      refine And.intro (fun hc => ?_) (fun hc => ?_)
      · have hk : a < s.length := by have : (a : Int) < s.length := of_decide_eq_true hc; omega
        have ht : (s.take (Int.toNat (s.length : Int))).drop (Int.toNat a) = s.drop a := by simp only [Int.toNat_natCast, List.take_length]
        have hnb := nx_bounds (drop_ne hk)
        rw [List.length_drop] at hnb
        have qf := s_fronts (s.drop a) (drop_ne hk) (by rw [List.length_drop]; omega)
        have hsel := sel_nx (drop_ne hk)
        rw [tokens_step hk, ← List.singleton_append, ← List.append_assoc] at heq
        refine And.intro ⟨by omega, by omega, Int.le_refl _⟩ ?_
        rw [ht]
        refine Or.inl (Exists.intro _ (And.intro (qf) ?_))
        generalize hs' : s.drop a = t at qf hnb hsel heq
        refine Exists.intro [] (Exists.intro [] (Exists.intro [] (Exists.intro Nat (Exists.intro (fun k => k ≤ 8) (Exists.intro (fun k => ⟨[(0, .s s), (4, .vec 60 .token out), (5, .i .i64 a), (6, .i .i64 (sel (frI t) k).1), (7, .i .i64 (sel (frI t) k).2), (20, .agg (frV t)), (21, .i .i64 k)], []⟩) (Exists.intro (fun k => 8 - k) (Exists.intro 0 (And.intro (Nat.zero_le _) (And.intro ?_ ?_)))))))))
        · (repeat' (first | exact trivial | exact Or.inl rfl | exact Or.inr (Or.inl ⟨rfl, _, rfl⟩) | exact Or.inr (Or.inr (Or.inr ⟨_, _, _, rfl, rfl⟩)) | refine And.intro ?_ ?_))
        · intro k hk8
          refine And.intro (fun hc8 => ?_) (fun hc8 => ?_)
          · have hk8 : k < 8 := by have : (k : Int) < 8 := of_decide_eq_true hc8; omega
            rcases (show k = 0 ∨ k = 1 ∨ k = 2 ∨ k = 3 ∨ k = 4 ∨ k = 5 ∨ k = 6 ∨ k = 7 by omega) with rfl | rfl | rfl | rfl | rfl | rfl | rfl | rfl
            · refine And.intro ⟨by decide, by decide⟩ ?_
              refine And.intro (fun h1 => ?_) (fun h1 => ?_)
              · have e : sel (frI t) (0 + 1) = (0, (frI t).getD 0 0) := if_pos (of_decide_eq_true h1)
                refine And.intro ⟨by decide, by decide⟩ ?_
                refine Exists.intro [] (Exists.intro (0 + 1) (And.intro (by omega) (And.intro ?_ ?_)))
                · (repeat' (first | exact trivial | exact Or.inl rfl | exact Or.inl (congrArg (fun x : Int × Int => AV.i .i64 x.1) e.symm) | exact Or.inl (congrArg (fun x : Int × Int => AV.i .i64 x.2) e.symm) | refine And.intro ?_ ?_))
                · decide
              · have e : sel (frI t) (0 + 1) = sel (frI t) 0 := if_neg (of_decide_eq_false h1)
                refine And.intro ⟨by decide, by decide⟩ ?_
                refine Exists.intro [] (Exists.intro (0 + 1) (And.intro (by omega) (And.intro ?_ ?_)))
                · (repeat' (first | exact trivial | exact Or.inl rfl | exact Or.inl (congrArg (fun x : Int × Int => AV.i .i64 x.1) e.symm) | exact Or.inl (congrArg (fun x : Int × Int => AV.i .i64 x.2) e.symm) | refine And.intro ?_ ?_))
                · decide
            · refine And.intro ⟨by decide, by decide⟩ ?_
              refine And.intro (fun h1 => ?_) (fun h1 => ?_)
              · have e : sel (frI t) (1 + 1) = (1, (frI t).getD 1 0) := if_pos (of_decide_eq_true h1)
                refine And.intro ⟨by decide, by decide⟩ ?_
                refine Exists.intro [] (Exists.intro (1 + 1) (And.intro (by omega) (And.intro ?_ ?_)))
                · (repeat' (first | exact trivial | exact Or.inl rfl | exact Or.inl (congrArg (fun x : Int × Int => AV.i .i64 x.1) e.symm) | exact Or.inl (congrArg (fun x : Int × Int => AV.i .i64 x.2) e.symm) | refine And.intro ?_ ?_))
                · decide
              · have e : sel (frI t) (1 + 1) = sel (frI t) 1 := if_neg (of_decide_eq_false h1)
                refine And.intro ⟨by decide, by decide⟩ ?_
                refine Exists.intro [] (Exists.intro (1 + 1) (And.intro (by omega) (And.intro ?_ ?_)))
                · (repeat' (first | exact trivial | exact Or.inl rfl | exact Or.inl (congrArg (fun x : Int × Int => AV.i .i64 x.1) e.symm) | exact Or.inl (congrArg (fun x : Int × Int => AV.i .i64 x.2) e.symm) | refine And.intro ?_ ?_))
                · decide
            · refine And.intro ⟨by decide, by decide⟩ ?_
              refine And.intro (fun h1 => ?_) (fun h1 => ?_)
              · have e : sel (frI t) (2 + 1) = (2, (frI t).getD 2 0) := if_pos (of_decide_eq_true h1)
                refine And.intro ⟨by decide, by decide⟩ ?_
                refine Exists.intro [] (Exists.intro (2 + 1) (And.intro (by omega) (And.intro ?_ ?_)))
                · (repeat' (first | exact trivial | exact Or.inl rfl | exact Or.inl (congrArg (fun x : Int × Int => AV.i .i64 x.1) e.symm) | exact Or.inl (congrArg (fun x : Int × Int => AV.i .i64 x.2) e.symm) | refine And.intro ?_ ?_))
                · decide
              · have e : sel (frI t) (2 + 1) = sel (frI t) 2 := if_neg (of_decide_eq_false h1)
                refine And.intro ⟨by decide, by decide⟩ ?_
                refine Exists.intro [] (Exists.intro (2 + 1) (And.intro (by omega) (And.intro ?_ ?_)))
                · (repeat' (first | exact trivial | exact Or.inl rfl | exact Or.inl (congrArg (fun x : Int × Int => AV.i .i64 x.1) e.symm) | exact Or.inl (congrArg (fun x : Int × Int => AV.i .i64 x.2) e.symm) | refine And.intro ?_ ?_))
                · decide
            · refine And.intro ⟨by decide, by decide⟩ ?_
              refine And.intro (fun h1 => ?_) (fun h1 => ?_)
              · have e : sel (frI t) (3 + 1) = (3, (frI t).getD 3 0) := if_pos (of_decide_eq_true h1)
                refine And.intro ⟨by decide, by decide⟩ ?_
                refine Exists.intro [] (Exists.intro (3 + 1) (And.intro (by omega) (And.intro ?_ ?_)))
                · (repeat' (first | exact trivial | exact Or.inl rfl | exact Or.inl (congrArg (fun x : Int × Int => AV.i .i64 x.1) e.symm) | exact Or.inl (congrArg (fun x : Int × Int => AV.i .i64 x.2) e.symm) | refine And.intro ?_ ?_))
                · decide
              · have e : sel (frI t) (3 + 1) = sel (frI t) 3 := if_neg (of_decide_eq_false h1)
                refine And.intro ⟨by decide, by decide⟩ ?_
                refine Exists.intro [] (Exists.intro (3 + 1) (And.intro (by omega) (And.intro ?_ ?_)))
                · (repeat' (first | exact trivial | exact Or.inl rfl | exact Or.inl (congrArg (fun x : Int × Int => AV.i .i64 x.1) e.symm) | exact Or.inl (congrArg (fun x : Int × Int => AV.i .i64 x.2) e.symm) | refine And.intro ?_ ?_))
                · decide
            · refine And.intro ⟨by decide, by decide⟩ ?_
              refine And.intro (fun h1 => ?_) (fun h1 => ?_)
              · have e : sel (frI t) (4 + 1) = (4, (frI t).getD 4 0) := if_pos (of_decide_eq_true h1)
                refine And.intro ⟨by decide, by decide⟩ ?_
                refine Exists.intro [] (Exists.intro (4 + 1) (And.intro (by omega) (And.intro ?_ ?_)))
                · (repeat' (first | exact trivial | exact Or.inl rfl | exact Or.inl (congrArg (fun x : Int × Int => AV.i .i64 x.1) e.symm) | exact Or.inl (congrArg (fun x : Int × Int => AV.i .i64 x.2) e.symm) | refine And.intro ?_ ?_))
                · decide
              · have e : sel (frI t) (4 + 1) = sel (frI t) 4 := if_neg (of_decide_eq_false h1)
                refine And.intro ⟨by decide, by decide⟩ ?_
                refine Exists.intro [] (Exists.intro (4 + 1) (And.intro (by omega) (And.intro ?_ ?_)))
                · (repeat' (first | exact trivial | exact Or.inl rfl | exact Or.inl (congrArg (fun x : Int × Int => AV.i .i64 x.1) e.symm) | exact Or.inl (congrArg (fun x : Int × Int => AV.i .i64 x.2) e.symm) | refine And.intro ?_ ?_))
                · decide
            · refine And.intro ⟨by decide, by decide⟩ ?_
              refine And.intro (fun h1 => ?_) (fun h1 => ?_)
              · have e : sel (frI t) (5 + 1) = (5, (frI t).getD 5 0) := if_pos (of_decide_eq_true h1)
                refine And.intro ⟨by decide, by decide⟩ ?_
                refine Exists.intro [] (Exists.intro (5 + 1) (And.intro (by omega) (And.intro ?_ ?_)))
                · (repeat' (first | exact trivial | exact Or.inl rfl | exact Or.inl (congrArg (fun x : Int × Int => AV.i .i64 x.1) e.symm) | exact Or.inl (congrArg (fun x : Int × Int => AV.i .i64 x.2) e.symm) | refine And.intro ?_ ?_))
                · decide
              · have e : sel (frI t) (5 + 1) = sel (frI t) 5 := if_neg (of_decide_eq_false h1)
                refine And.intro ⟨by decide, by decide⟩ ?_
                refine Exists.intro [] (Exists.intro (5 + 1) (And.intro (by omega) (And.intro ?_ ?_)))
                · (repeat' (first | exact trivial | exact Or.inl rfl | exact Or.inl (congrArg (fun x : Int × Int => AV.i .i64 x.1) e.symm) | exact Or.inl (congrArg (fun x : Int × Int => AV.i .i64 x.2) e.symm) | refine And.intro ?_ ?_))
                · decide
            · refine And.intro ⟨by decide, by decide⟩ ?_
              refine And.intro (fun h1 => ?_) (fun h1 => ?_)
              · have e : sel (frI t) (6 + 1) = (6, (frI t).getD 6 0) := if_pos (of_decide_eq_true h1)
                refine And.intro ⟨by decide, by decide⟩ ?_
                refine Exists.intro [] (Exists.intro (6 + 1) (And.intro (by omega) (And.intro ?_ ?_)))
                · (repeat' (first | exact trivial | exact Or.inl rfl | exact Or.inl (congrArg (fun x : Int × Int => AV.i .i64 x.1) e.symm) | exact Or.inl (congrArg (fun x : Int × Int => AV.i .i64 x.2) e.symm) | refine And.intro ?_ ?_))
                · decide
              · have e : sel (frI t) (6 + 1) = sel (frI t) 6 := if_neg (of_decide_eq_false h1)
                refine And.intro ⟨by decide, by decide⟩ ?_
                refine Exists.intro [] (Exists.intro (6 + 1) (And.intro (by omega) (And.intro ?_ ?_)))
                · (repeat' (first | exact trivial | exact Or.inl rfl | exact Or.inl (congrArg (fun x : Int × Int => AV.i .i64 x.1) e.symm) | exact Or.inl (congrArg (fun x : Int × Int => AV.i .i64 x.2) e.symm) | refine And.intro ?_ ?_))
                · decide
            · refine And.intro ⟨by decide, by decide⟩ ?_
              refine And.intro (fun h1 => ?_) (fun h1 => ?_)
              · have e : sel (frI t) (7 + 1) = (7, (frI t).getD 7 0) := if_pos (of_decide_eq_true h1)
                refine And.intro ⟨by decide, by decide⟩ ?_
                refine Exists.intro [] (Exists.intro (7 + 1) (And.intro (by omega) (And.intro ?_ ?_)))
                · (repeat' (first | exact trivial | exact Or.inl rfl | exact Or.inl (congrArg (fun x : Int × Int => AV.i .i64 x.1) e.symm) | exact Or.inl (congrArg (fun x : Int × Int => AV.i .i64 x.2) e.symm) | refine And.intro ?_ ?_))
                · decide
              · have e : sel (frI t) (7 + 1) = sel (frI t) 7 := if_neg (of_decide_eq_false h1)
                refine And.intro ⟨by decide, by decide⟩ ?_
                refine Exists.intro [] (Exists.intro (7 + 1) (And.intro (by omega) (And.intro ?_ ?_)))
                · (repeat' (first | exact trivial | exact Or.inl rfl | exact Or.inl (congrArg (fun x : Int × Int => AV.i .i64 x.1) e.symm) | exact Or.inl (congrArg (fun x : Int × Int => AV.i .i64 x.2) e.symm) | refine And.intro ?_ ?_))
                · decide
          · have hk8 : k = 8 := by have : ¬ (k : Int) < 8 := of_decide_eq_false hc8; omega
            subst hk8
            rw [hsel]
            refine And.intro ⟨by show _ ≤ (a : Int) + (nx t).2; omega, by show (a : Int) + (nx t).2 ≤ _; omega⟩ ?_
            refine And.intro (by show (out.length + 1) * 24 ≤ _; omega) ?_
            refine And.intro ⟨by show _ ≤ (a : Int) + (nx t).2; omega, by show (a : Int) + (nx t).2 ≤ _; omega⟩ ?_
            refine Exists.intro [(38, 60)] (Exists.intro (out ++ [⟨(nx t).1, a, ((a + (nx t).2 : Nat) : Int)⟩], a + (nx t).2) (And.intro ⟨by show a + (nx t).2 ≤ s.length; omega, by show (out ++ [_]).length ≤ _; rw [List.length_append, List.length_singleton]; show out.length + 1 ≤ a + (nx t).2; omega, heq⟩ (And.intro ?_ ?_)))
            · (repeat' (first | exact trivial | exact Or.inl rfl | exact Or.inr (Or.inl ⟨rfl, _, rfl⟩) | exact Or.inr (Or.inr (Or.inr ⟨_, _, _, rfl, rfl⟩)) | refine And.intro ?_ ?_))
            · show s.length - (a + (nx t).2) < s.length - a
              omega
      · have hk : a = s.length := by have : ¬ (a : Int) < s.length := of_decide_eq_false hc; omega
        subst hk
        rw [tokens_end (Nat.le_refl _), List.append_nil] at heq
        rw [← heq]
        show _ = _
        rfl
theorem s_Tokens (s : Str) : PSpec Try.prog 62 [.s s] (cutR s) :=
  pspec_of_vc Γ_good Try.func62 rfl Try.call62 Try.results62 Try.ntmps62 (Nat.le_of_ble_eq_true rfl) (w_Tokens s)
theorem w_solid (n : Int) : vc Try.prog Γ 9 [0, 2] (Try.f96.body.getD .skip) (postK Γ [.tmp 2] (fun v => v = .b (decide (4 ≤ n ∧ n ≤ 7)))) ⟨argSlots 0 [.i .i64 n], []⟩ := by
  repeat' (refine And.intro (fun h => ?_) (fun h => ?_) <;> (try simp [-List.getD_eq_getElem?_getD, -Int.pred_toNat] at h))
  all_goals
    refine congrArg AV.b ?_
    rw [Bool.eq_iff_iff]
    simp only [cond_true, cond_false, decide_eq_true_eq, Bool.false_eq_true, true_iff, false_iff]
    first | omega | (constructor <;> intro h9 <;> (try (exfalso; exact h9)) <;> omega)
theorem s_solid (n : Int) : PSpec Try.prog 96 [.i .i64 n] (.b (decide (4 ≤ n ∧ n ≤ 7))) :=
  pspec_of_vc Γ_good Try.func96 rfl Try.call96 Try.results96 Try.ntmps96 (Nat.le_of_ble_eq_true rfl) (w_solid n)
end
end Go.Proofs.Ytdcdmojbkmedpaa
end
section
namespace Go.Proofs.Ytdcdmojbkmedpaa
set_option linter.unusedSectionVars false
set_option linter.unusedSimpArgs false
set_option linter.unusedVariables false
open Go Go.SX Go.Tk Go.Tr
set_option maxRecDepth 100000
set_option maxHeartbeats 1000000
theorem sk_le3 (ts : List Token) {a m : Nat} (ha : a ≤ m) (hts : ts.length ≤ m) : sk ts a ≤ m := by
  by_cases h : a ≤ ts.length
  · have := sk_le ts h; omega
  · rw [sk_end ts (by omega)]; exact ha
theorem rngI {n : Int} (h0 : -9223372036854775808 ≤ n) (h1 : n ≤ 9223372036854775807) : Rng .i64 n := ⟨h0, h1⟩
section
variable [G : Globs]
theorem w_skip (s : Str) (ts : List Token) (a : Nat) (bad wh : Int) (hts : ts.length ≤ 1000000) (ha : a ≤ 100000000) : vc Try.prog Γ 34 [0, 26, 1000] (Try.f60.body.getD .skip) (postBK Γ [] (.tup []) [(1000, [.s s, .rd .token ts, .i .i64 (sk ts a : Int), .i .i64 bad, .i .i64 wh])]) ⟨argSlots 0 [.pt 1000 0], [(1000, [.s s, .rd .token ts, .i .i64 (a : Int), .i .i64 bad, .i .i64 wh])]⟩ := by
  refine Exists.intro [] (Exists.intro [] (Exists.intro [] (Exists.intro Nat (Exists.intro (fun q => a ≤ q ∧ q ≤ 100000000 ∧ sk ts q = sk ts a) (Exists.intro (fun q => ⟨[(0, .pt 1000 0)], [(1000, [.s s, .rd .token ts, .i .i64 (q : Int), .i .i64 bad, .i .i64 wh])]⟩) (Exists.intro (fun q => ts.length - q) (Exists.intro a (And.intro ⟨Nat.le_refl _, ha, rfl⟩ (And.intro ?_ ?_)))))))))
  · (repeat' (first | exact trivial | exact Or.inl rfl | exact Or.inr (Or.inl ⟨rfl, _, rfl⟩) | exact Or.inr (Or.inr (Or.inr ⟨_, _, _, rfl, rfl⟩)) | refine And.intro ?_ ?_))
  · rintro q ⟨hq, hq2, hI⟩
    refine Exists.intro [.blk [0, 1, 2, 3, 4, 5, 6, 7, 8, 9, 10, 11, 12, 13, 14, 15, 16, 17, 18, 19, 20, 21, 22, 23, 24]] (And.intro (by kernel_rfl) ?_)
    by_cases hlt : q < ts.length
    · have hst := sk_step ts hlt
      have hgt : ts.getD (Int.toNat (q : Int)) (dflt .token) = ts.getD q default := by rw [Int.toNat_natCast]
      refine And.intro (fun _ => ?_) (fun h => absurd (show (q : Int) < (ts.length : Int) by omega) (of_decide_eq_false h))
      refine And.intro ⟨by omega, by omega⟩ ?_
      rw [hgt]
      generalize ts.getD q default = t at hst
      refine Exists.intro _ (And.intro (s_solid t.kind) ?_)
      have hs0 : sol t = decide (4 ≤ t.kind ∧ t.kind ≤ 7) := rfl
      rw [← hs0]
      by_cases hs : sol t = true
      · rw [if_pos hs] at hst
        rw [hs]
        refine And.intro (fun h => by cases h) (fun _ => ?_)
        rw [← hI, hst]
        refine Exists.intro [] (And.intro rfl ?_)
        (repeat' (first | exact trivial | exact Or.inl rfl | exact Or.inr (Or.inl ⟨rfl, _, rfl⟩) | exact Or.inr (Or.inr (Or.inr ⟨_, _, _, rfl, rfl⟩)) | refine And.intro ?_ ?_))
      · rw [if_neg hs] at hst
        have hs : sol t = false := by simpa using hs
        rw [hs]
        refine And.intro (fun _ => ?_) (fun h => by cases h)
        refine And.intro (rngI (by omega) (by omega)) ?_
        refine Exists.intro [] (Exists.intro (q + 1) (And.intro ⟨by omega, by omega, by rw [← hst]; exact hI⟩ (And.intro ?_ ?_)))
        · (repeat' (first | exact trivial | exact Or.inl rfl | exact Or.inr (Or.inl ⟨rfl, _, rfl⟩) | exact Or.inr (Or.inr (Or.inr ⟨_, _, _, rfl, rfl⟩)) | refine And.intro ?_ ?_))
        · show ts.length - (q + 1) < ts.length - q
          omega
    · have hst := sk_end ts (show ts.length ≤ q by omega)
      refine And.intro (fun h => absurd (of_decide_eq_true h) (by omega)) (fun _ => ?_)
      refine And.intro (fun h => by cases h) (fun _ => ?_)
      rw [← hI, hst]
      refine Exists.intro [] (And.intro rfl ?_)
      (repeat' (first | exact trivial | exact Or.inl rfl | exact Or.inr (Or.inl ⟨rfl, _, rfl⟩) | exact Or.inr (Or.inr (Or.inr ⟨_, _, _, rfl, rfl⟩)) | refine And.intro ?_ ?_))
theorem s_skip (s : Str) (ts : List Token) (a : Nat) (bad wh : Int) (hts : ts.length ≤ 1000000) (ha : a ≤ 100000000) : CSpec Try.prog 60 [.pt 1000 0] [(1000, [.s s, .rd .token ts, .i .i64 (a : Int), .i .i64 bad, .i .i64 wh])] (.tup []) [(1000, [.s s, .rd .token ts, .i .i64 (sk ts a : Int), .i .i64 bad, .i .i64 wh])] :=
  cspec_of_vc Γ_good Try.func60 rfl Try.call60 Try.results60 Try.ntmps60 (Nat.le_of_ble_eq_true rfl) (Nat.le_of_ble_eq_true rfl) (by rfl) (w_skip s ts a bad wh hts ha)
/-- a fault, if there was none -/
def failW (s : Str) (ts : List Token) (a : Nat) (bad wh e : Int) : Int × Int := if bad ≠ 0 then (bad, wh) else (e, plc s ts a)
theorem w_fail (s : Str) (ts : List Token) (a : Nat) (bad wh e : Int) (hts : ts.length ≤ 1000000) (ha : a ≤ 100000000) : vc Try.prog Γ 45 [0, 1, 8, 30, 1000] (Try.f61.body.getD .skip) (postBK Γ [] (.tup []) [(1000, [.s s, .rd .token ts, .i .i64 (a : Int), .i .i64 (failW s ts a bad wh e).1, .i .i64 (failW s ts a bad wh e).2])]) ⟨argSlots 0 [.pt 1000 0, .i .i64 e], [(1000, [.s s, .rd .token ts, .i .i64 (a : Int), .i .i64 bad, .i .i64 wh])]⟩ := by
  unfold failW
  by_cases hb : bad = 0
  · rw [if_neg (by simpa using hb)]
    unfold plc
    by_cases hlt : a < ts.length
    · rw [if_pos hlt]
      have hgt : ts.getD (Int.toNat (a : Int)) (dflt .token) = ts.getD a default := by rw [Int.toNat_natCast]
      (repeat' (first | (refine And.intro (fun h => ?_) (fun h => ?_) <;> (try simp [-List.getD_eq_getElem?_getD, -Int.pred_toNat] at h) <;> (try (exfalso; first | omega | contradiction))) | (refine And.intro (rng64 (by omega) (by omega)) ?_) | (refine And.intro ⟨by omega, by omega⟩ ?_) | (refine And.intro ⟨by omega, by omega, by omega⟩ ?_) | (intro _)))
      refine Exists.intro [.blk [0, 1, 2, 3, 4, 5, 6, 7, 8, 9]] (And.intro (by kernel_rfl) ?_)
      (repeat' (first | (refine And.intro (fun h => ?_) (fun h => ?_) <;> (try simp [-List.getD_eq_getElem?_getD, -Int.pred_toNat] at h) <;> (try (exfalso; first | omega | contradiction))) | (refine And.intro (rng64 (by omega) (by omega)) ?_) | (refine And.intro ⟨by omega, by omega⟩ ?_) | (refine And.intro ⟨by omega, by omega, by omega⟩ ?_) | (intro _)))
      refine Exists.intro [.blk [0, 1, 2, 3, 4, 5, 6, 7, 8, 9, 10, 11, 12, 13], .one 14] (And.intro (by kernel_rfl) ?_)
      refine And.intro ⟨by omega, by omega⟩ ?_
      rw [hgt]
      refine Exists.intro [] (And.intro rfl ?_)
      (repeat' (first | exact trivial | exact Or.inl rfl | exact Or.inr (Or.inl ⟨rfl, _, rfl⟩) | exact Or.inr (Or.inr (Or.inr ⟨_, _, _, rfl, rfl⟩)) | refine And.intro ?_ ?_))
    · rw [if_neg hlt]
      (repeat' (first | (refine And.intro (fun h => ?_) (fun h => ?_) <;> (try simp [-List.getD_eq_getElem?_getD, -Int.pred_toNat] at h) <;> (try (exfalso; first | omega | contradiction))) | (refine And.intro (rng64 (by omega) (by omega)) ?_) | (refine And.intro ⟨by omega, by omega⟩ ?_) | (refine And.intro ⟨by omega, by omega, by omega⟩ ?_) | (intro _)))
      refine Exists.intro [.blk [0, 1, 2, 3, 4, 5, 6, 7, 8, 9]] (And.intro (by kernel_rfl) ?_)
      (repeat' (first | (refine And.intro (fun h => ?_) (fun h => ?_) <;> (try simp [-List.getD_eq_getElem?_getD, -Int.pred_toNat] at h) <;> (try (exfalso; first | omega | contradiction))) | (refine And.intro (rng64 (by omega) (by omega)) ?_) | (refine And.intro ⟨by omega, by omega⟩ ?_) | (refine And.intro ⟨by omega, by omega, by omega⟩ ?_) | (intro _)))
      refine Exists.intro [] (And.intro rfl ?_)
      (repeat' (first | exact trivial | exact Or.inl rfl | exact Or.inr (Or.inl ⟨rfl, _, rfl⟩) | exact Or.inr (Or.inr (Or.inr ⟨_, _, _, rfl, rfl⟩)) | refine And.intro ?_ ?_))
  · rw [if_pos hb]
    (repeat' (first | (refine And.intro (fun h => ?_) (fun h => ?_) <;> (try simp [-List.getD_eq_getElem?_getD, -Int.pred_toNat] at h) <;> (try (exfalso; first | omega | contradiction))) | (refine And.intro (rng64 (by omega) (by omega)) ?_) | (refine And.intro ⟨by omega, by omega⟩ ?_) | (refine And.intro ⟨by omega, by omega, by omega⟩ ?_) | (intro _)))
    refine Exists.intro [] (And.intro rfl ?_)
    (repeat' (first | exact trivial | exact Or.inl rfl | exact Or.inr (Or.inl ⟨rfl, _, rfl⟩) | exact Or.inr (Or.inr (Or.inr ⟨_, _, _, rfl, rfl⟩)) | refine And.intro ?_ ?_))
theorem s_fail (s : Str) (ts : List Token) (a : Nat) (bad wh e : Int) (hts : ts.length ≤ 1000000) (ha : a ≤ 100000000) : CSpec Try.prog 61 [.pt 1000 0, .i .i64 e] [(1000, [.s s, .rd .token ts, .i .i64 (a : Int), .i .i64 bad, .i .i64 wh])] (.tup []) [(1000, [.s s, .rd .token ts, .i .i64 (a : Int), .i .i64 (failW s ts a bad wh e).1, .i .i64 (failW s ts a bad wh e).2])] :=
  cspec_of_vc Γ_good Try.func61 rfl Try.call61 Try.results61 Try.ntmps61 (Nat.le_of_ble_eq_true rfl) (Nat.le_of_ble_eq_true rfl) (by rfl) (w_fail s ts a bad wh e hts ha)
theorem w_mark (s : Str) (ts : List Token) (a : Nat) (bad wh : Int) (hts : ts.length ≤ 1000000) (ha : a ≤ 99999999) (hfr : ∀ t ∈ ts, t.kind = 6 → 0 ≤ t.fr ∧ t.fr < s.length) : vc Try.prog Γ 45 [0, 2, 28, 1000] (Try.f90.body.getD .skip) (postBK Γ [.tmp 2] (.i .u8 (mkB s ts (sk ts a))) [(1000, [.s s, .rd .token ts, .i .i64 (sk ts a : Int), .i .i64 bad, .i .i64 wh])]) ⟨argSlots 0 [.pt 1000 0], [(1000, [.s s, .rd .token ts, .i .i64 (a : Int), .i .i64 bad, .i .i64 wh])]⟩ := by
  refine Or.inr (Or.inl (Exists.intro [] (Exists.intro _ (Exists.intro _ (Exists.intro _ (Exists.intro _ (Exists.intro _ (Exists.intro [(1000, 1000)] (And.intro (s_skip s ts a bad wh hts (by omega)) ?_)))))))))
  refine (And.intro rfl (And.intro rfl (And.intro rfl (And.intro rfl (And.intro rfl ?_)))))
  have hle := sk_le3 ts ha (by omega)
  generalize sk ts a = b at hle
  refine Exists.intro [.blk [0, 1, 2, 3, 4, 5, 6, 7, 8, 9, 10, 11, 12, 13, 14, 15, 16, 17, 18, 19, 20, 21, 22, 23]] (And.intro (by kernel_rfl) ?_)
  unfold mkB
  by_cases hlt : b < ts.length
  · have hgt : ts.getD (Int.toNat (b : Int)) (dflt .token) = ts.getD b default := by rw [Int.toNat_natCast]
    have hmem : ts.getD b default ∈ ts := by rw [List.getD_eq_getElem?_getD, List.getElem?_eq_getElem hlt]; exact List.getElem_mem hlt
    have hfr := hfr _ hmem
    by_cases hk : (ts.getD b default).kind = 6
    · have hk6 : (ts.getD (Int.toNat (b : Int)) (dflt .token)).kind = 6 := by rw [hgt]; exact hk
      have hf := hfr hk
      rw [if_pos ⟨hlt, hk⟩]
      (repeat' (first | (refine And.intro (fun h => ?_) (fun h => ?_) <;> (try simp [-List.getD_eq_getElem?_getD, -Int.pred_toNat] at h) <;> (try (exfalso; first | omega | contradiction))) | (refine And.intro (rng64 (by omega) (by omega)) ?_) | (refine And.intro ⟨by omega, by omega⟩ ?_) | (refine And.intro ⟨by omega, by omega, by omega⟩ ?_) | (intro _)))
      refine Exists.intro [.blk [0, 1, 2, 3, 4, 5, 6, 7, 8, 9, 10, 11, 12, 13, 14, 15, 16]] (And.intro (by kernel_rfl) ?_)
      refine And.intro ⟨by omega, by omega⟩ ?_
      rw [hgt]
      refine And.intro ⟨hf.1, hf.2⟩ ?_
      refine Exists.intro [] (And.intro rfl ?_)
      (repeat' (first | exact trivial | exact Or.inl rfl | exact Or.inr (Or.inl ⟨rfl, _, rfl⟩) | exact Or.inr (Or.inr (Or.inr ⟨_, _, _, rfl, rfl⟩)) | refine And.intro ?_ ?_))
    · have hk6 : ¬ (ts.getD (Int.toNat (b : Int)) (dflt .token)).kind = 6 := by rw [hgt]; exact hk
      rw [if_neg (fun h => hk h.2)]
      (repeat' (first | (refine And.intro (fun h => ?_) (fun h => ?_) <;> (try simp [-List.getD_eq_getElem?_getD, -Int.pred_toNat] at h) <;> (try (exfalso; first | omega | contradiction))) | (refine And.intro (rng64 (by omega) (by omega)) ?_) | (refine And.intro ⟨by omega, by omega⟩ ?_) | (refine And.intro ⟨by omega, by omega, by omega⟩ ?_) | (intro _)))
      refine Exists.intro [] (And.intro rfl ?_)
      (repeat' (first | exact trivial | exact Or.inl rfl | exact Or.inr (Or.inl ⟨rfl, _, rfl⟩) | exact Or.inr (Or.inr (Or.inr ⟨_, _, _, rfl, rfl⟩)) | refine And.intro ?_ ?_))
  · rw [if_neg (fun h => hlt h.1)]
    (repeat' (first | (refine And.intro (fun h => ?_) (fun h => ?_) <;> (try simp [-List.getD_eq_getElem?_getD, -Int.pred_toNat] at h) <;> (try (exfalso; first | omega | contradiction))) | (refine And.intro (rng64 (by omega) (by omega)) ?_) | (refine And.intro ⟨by omega, by omega⟩ ?_) | (refine And.intro ⟨by omega, by omega, by omega⟩ ?_) | (intro _)))
    refine Exists.intro [] (And.intro rfl ?_)
    (repeat' (first | exact trivial | exact Or.inl rfl | exact Or.inr (Or.inl ⟨rfl, _, rfl⟩) | exact Or.inr (Or.inr (Or.inr ⟨_, _, _, rfl, rfl⟩)) | refine And.intro ?_ ?_))
theorem s_mark (s : Str) (ts : List Token) (a : Nat) (bad wh : Int) (hts : ts.length ≤ 1000000) (ha : a ≤ 99999999) (hfr : ∀ t ∈ ts, t.kind = 6 → 0 ≤ t.fr ∧ t.fr < s.length) : CSpec Try.prog 90 [.pt 1000 0] [(1000, [.s s, .rd .token ts, .i .i64 (a : Int), .i .i64 bad, .i .i64 wh])] (.i .u8 (mkB s ts (sk ts a))) [(1000, [.s s, .rd .token ts, .i .i64 (sk ts a : Int), .i .i64 bad, .i .i64 wh])] :=
  cspec_of_vc Γ_good Try.func90 rfl Try.call90 Try.results90 Try.ntmps90 (Nat.le_of_ble_eq_true rfl) (Nat.le_of_ble_eq_true rfl) (by rfl) (w_mark s ts a bad wh hts ha hfr)
/-- a node without kids, as it is handed back -/
def bareN (n : SX.Node) : AV := .agg [.i .i64 n.kind, .i .i64 n.fr, .i .i64 n.to, .nl]
theorem w_leaf (s : Str) (ts : List Token) (k : Int) (a : Nat) (hts : ts.length ≤ 1000000) (ha : a ≤ 100000000) : vc Try.prog Γ 66 [0, 1, 4, 44, 1000] (Try.f95.body.getD .skip) (postBK Γ [.cell 4 50] (bareN (leafP s ts k (sk ts a)).1) [(1000, [.s s, .rd .token ts, .i .i64 ((leafP s ts k (sk ts a)).2.1 : Int), .i .i64 (leafP s ts k (sk ts a)).2.2.1, .i .i64 (leafP s ts k (sk ts a)).2.2.2])]) ⟨argSlots 0 [.pt 1000 0, .i .i64 k], [(1000, [.s s, .rd .token ts, .i .i64 (a : Int), .i .i64 0, .i .i64 0])]⟩ := by
  have hS := s_skip s ts a 0 0 hts ha
  have hle := sk_le3 ts ha (by omega)
  refine Or.inr (Or.inl (Exists.intro [] (Exists.intro _ (Exists.intro _ (Exists.intro _ (Exists.intro _ (Exists.intro _ (Exists.intro [(1000, 1000)] (And.intro (hS) ?_)))))))))
  refine (And.intro rfl (And.intro rfl (And.intro rfl (And.intro rfl (And.intro rfl ?_)))))
  generalize sk ts a = b at hle
  have hF := s_fail s ts b 0 0 4 hts (by omega)
  refine Exists.intro [.blk [0, 1, 2, 3, 4, 5, 6, 7, 8, 9, 10, 11, 12, 13, 14, 15, 16, 17, 18, 19, 20, 21, 22, 23, 24, 25, 26, 27, 28, 29, 30, 31, 32, 33, 34, 35, 36, 37]] (And.intro (by kernel_rfl) ?_)
  unfold leafP wrd
  by_cases hlt : b < ts.length
  · have hgt : ts.getD (Int.toNat (b : Int)) (dflt .token) = ts.getD b default := by rw [Int.toNat_natCast]
    by_cases h4 : (ts.getD b default).kind = 4
    · have h44 : (ts.getD (Int.toNat (b : Int)) (dflt .token)).kind = 4 := by rw [hgt]; exact h4
      rw [if_pos (decide_eq_true ⟨hlt, Or.inl h4⟩)]
      (repeat' (first | (refine And.intro (fun h => ?_) (fun h => ?_) <;> (try simp [-List.getD_eq_getElem?_getD, -Int.pred_toNat] at h) <;> (try (exfalso; first | omega | contradiction))) | (refine And.intro (rng64 (by omega) (by omega)) ?_) | (refine And.intro ⟨by omega, by omega⟩ ?_) | (refine And.intro ⟨by omega, by omega, by omega⟩ ?_) | (intro _)))
      refine Exists.intro [.blk [0, 1, 2, 3, 4, 5, 6, 7, 8, 9, 10], .one 11] (And.intro (by kernel_rfl) ?_)
      refine And.intro (rngI (by omega) (by omega)) ?_
      have hb1 : (b : Int) + 1 - 1 = b := by omega
      rw [hb1]
      refine Exists.intro [] (And.intro rfl ?_)
      (repeat' (first | exact trivial | exact Or.inl rfl | exact Or.inr (Or.inl ⟨rfl, _, rfl⟩) | exact Or.inr (Or.inr (Or.inr ⟨_, _, _, rfl, rfl⟩)) | refine And.intro ?_ ?_))
    · have h44 : ¬ (ts.getD (Int.toNat (b : Int)) (dflt .token)).kind = 4 := by rw [hgt]; exact h4
      by_cases h5 : (ts.getD b default).kind = 5
      · have h55 : (ts.getD (Int.toNat (b : Int)) (dflt .token)).kind = 5 := by rw [hgt]; exact h5
        rw [if_pos (decide_eq_true ⟨hlt, Or.inr h5⟩)]
        (repeat' (first | (refine And.intro (fun h => ?_) (fun h => ?_) <;> (try simp [-List.getD_eq_getElem?_getD, -Int.pred_toNat] at h) <;> (try (exfalso; first | omega | contradiction))) | (refine And.intro (rng64 (by omega) (by omega)) ?_) | (refine And.intro ⟨by omega, by omega⟩ ?_) | (refine And.intro ⟨by omega, by omega, by omega⟩ ?_) | (intro _)))
        refine Exists.intro [.blk [0, 1, 2, 3, 4, 5, 6, 7, 8, 9, 10], .one 11] (And.intro (by kernel_rfl) ?_)
        refine And.intro (rngI (by omega) (by omega)) ?_
        have hb1 : (b : Int) + 1 - 1 = b := by omega
        rw [hb1]
        refine Exists.intro [] (And.intro rfl ?_)
        (repeat' (first | exact trivial | exact Or.inl rfl | exact Or.inr (Or.inl ⟨rfl, _, rfl⟩) | exact Or.inr (Or.inr (Or.inr ⟨_, _, _, rfl, rfl⟩)) | refine And.intro ?_ ?_))
      · have h55 : ¬ (ts.getD (Int.toNat (b : Int)) (dflt .token)).kind = 5 := by rw [hgt]; exact h5
        rw [if_neg (by rw [decide_eq_true_eq]; exact fun h => h.2.elim h4 h5)]
        (repeat' (first | (refine And.intro (fun h => ?_) (fun h => ?_) <;> (try simp [-List.getD_eq_getElem?_getD, -Int.pred_toNat] at h) <;> (try (exfalso; first | omega | contradiction))) | (refine And.intro (rng64 (by omega) (by omega)) ?_) | (refine And.intro ⟨by omega, by omega⟩ ?_) | (refine And.intro ⟨by omega, by omega, by omega⟩ ?_) | (intro _)))
        refine Or.inr (Or.inl (Exists.intro [] (Exists.intro _ (Exists.intro _ (Exists.intro _ (Exists.intro _ (Exists.intro _ (Exists.intro [(1000, 1000)] (And.intro (hF) ?_)))))))))
        refine (And.intro rfl (And.intro rfl (And.intro rfl (And.intro rfl (And.intro rfl ?_)))))
        (repeat' (first | (refine And.intro (fun h => ?_) (fun h => ?_) <;> (try simp [-List.getD_eq_getElem?_getD, -Int.pred_toNat] at h) <;> (try (exfalso; first | omega | contradiction))) | (refine And.intro (rng64 (by omega) (by omega)) ?_) | (refine And.intro ⟨by omega, by omega⟩ ?_) | (refine And.intro ⟨by omega, by omega, by omega⟩ ?_) | (intro _)))
        have hFW : failW s ts b 0 0 4 = (4, plc s ts b) := if_neg (by decide)
        rw [hFW]
        refine Exists.intro [] (And.intro rfl ?_)
        (repeat' (first | exact trivial | exact Or.inl rfl | exact Or.inr (Or.inl ⟨rfl, _, rfl⟩) | exact Or.inr (Or.inr (Or.inr ⟨_, _, _, rfl, rfl⟩)) | refine And.intro ?_ ?_))
  · rw [if_neg (by rw [decide_eq_true_eq]; exact fun h => hlt h.1)]
    (repeat' (first | (refine And.intro (fun h => ?_) (fun h => ?_) <;> (try simp [-List.getD_eq_getElem?_getD, -Int.pred_toNat] at h) <;> (try (exfalso; first | omega | contradiction))) | (refine And.intro (rng64 (by omega) (by omega)) ?_) | (refine And.intro ⟨by omega, by omega⟩ ?_) | (refine And.intro ⟨by omega, by omega, by omega⟩ ?_) | (intro _)))
    refine Or.inr (Or.inl (Exists.intro [] (Exists.intro _ (Exists.intro _ (Exists.intro _ (Exists.intro _ (Exists.intro _ (Exists.intro [(1000, 1000)] (And.intro (hF) ?_)))))))))
    refine (And.intro rfl (And.intro rfl (And.intro rfl (And.intro rfl (And.intro rfl ?_)))))
    (repeat' (first | (refine And.intro (fun h => ?_) (fun h => ?_) <;> (try simp [-List.getD_eq_getElem?_getD, -Int.pred_toNat] at h) <;> (try (exfalso; first | omega | contradiction))) | (refine And.intro (rng64 (by omega) (by omega)) ?_) | (refine And.intro ⟨by omega, by omega⟩ ?_) | (refine And.intro ⟨by omega, by omega, by omega⟩ ?_) | (intro _)))
    have hFW : failW s ts b 0 0 4 = (4, plc s ts b) := if_neg (by decide)
    rw [hFW]
    refine Exists.intro [] (And.intro rfl ?_)
    (repeat' (first | exact trivial | exact Or.inl rfl | exact Or.inr (Or.inl ⟨rfl, _, rfl⟩) | exact Or.inr (Or.inr (Or.inr ⟨_, _, _, rfl, rfl⟩)) | refine And.intro ?_ ?_))
theorem s_leaf (s : Str) (ts : List Token) (k : Int) (a : Nat) (hts : ts.length ≤ 1000000) (ha : a ≤ 100000000) : CSpec Try.prog 95 [.pt 1000 0, .i .i64 k] [(1000, [.s s, .rd .token ts, .i .i64 (a : Int), .i .i64 0, .i .i64 0])] (bareN (leafP s ts k (sk ts a)).1) [(1000, [.s s, .rd .token ts, .i .i64 ((leafP s ts k (sk ts a)).2.1 : Int), .i .i64 (leafP s ts k (sk ts a)).2.2.1, .i .i64 (leafP s ts k (sk ts a)).2.2.2])] :=
  cspec_of_vc Γ_good Try.func95 rfl Try.call95 Try.results95 Try.ntmps95 (Nat.le_of_ble_eq_true rfl) (Nat.le_of_ble_eq_true rfl) (by rfl) (w_leaf s ts k a hts ha)
end
end Go.Proofs.Ytdcdmojbkmedpaa
end
section
namespace Go.Proofs.Ytdcdmojbkmedpaa
set_option linter.unusedSectionVars false
set_option linter.unusedSimpArgs false
set_option linter.unusedVariables false
open Go Go.SX Go.Tk Go.Tr
set_option maxRecDepth 100000
set_option maxHeartbeats 1000000
theorem so_get {ts : List Token} {so : List Int} (hso : ∀ x ∈ so, 0 ≤ x ∧ x < (ts.length : Int)) {i : Nat} (hi : i < so.length) : 0 ≤ so.getD i 0 ∧ so.getD i 0 < ts.length := by
  refine hso _ ?_
  rw [List.getD_eq_getElem?_getD, List.getElem?_eq_getElem hi]
  exact List.getElem_mem hi
section
variable [G : Globs]
theorem w_fault (s : Str) (ts : List Token) (so : List Int) (i : Nat) (bad wh e : Int) (hso : ∀ x ∈ so, 0 ≤ x ∧ x < (ts.length : Int)) (hi : i ≤ so.length) (hl : so.length ≤ 100000) : vc Try.prog Γ 51 [0, 1, 8, 30, 1000] (Try.f64.body.getD .skip) (postBK Γ [] (.tup []) [(1000, [.s s, .rd .token ts, .rd .int so, .i .i64 (i : Int), .i .i64 (if bad ≠ 0 then bad else e), .i .i64 (if bad ≠ 0 then wh else plcD s ts so i)])]) ⟨argSlots 0 [.pt 1000 0, .i .i64 e], [(1000, [.s s, .rd .token ts, .rd .int so, .i .i64 (i : Int), .i .i64 bad, .i .i64 wh])]⟩ := by
  by_cases hb : bad = 0
  · rw [if_neg (by simpa using hb), if_neg (by simpa using hb)]
    unfold plcD
    by_cases hlt : i < so.length
    · rw [if_pos hlt]
      obtain ⟨g0, g1⟩ := so_get hso hlt
      have hgt : so.getD (Int.toNat (i : Int)) (dflt .int) = so.getD i 0 := by rw [Int.toNat_natCast]
      (repeat' (first | (refine And.intro (fun h => ?_) (fun h => ?_) <;> (try simp [-List.getD_eq_getElem?_getD, -Int.pred_toNat] at h) <;> (try (exfalso; first | omega | contradiction))) | (refine And.intro (rng64 (by omega) (by omega)) ?_) | (refine And.intro ⟨by omega, by omega⟩ ?_) | (refine And.intro ⟨by omega, by omega, by omega⟩ ?_) | (intro _)))
      refine Exists.intro [.blk [0, 1, 2, 3, 4, 5, 6, 7, 8, 9]] (And.intro (by kernel_rfl) ?_)
      (repeat' (first | (refine And.intro (fun h => ?_) (fun h => ?_) <;> (try simp [-List.getD_eq_getElem?_getD, -Int.pred_toNat] at h) <;> (try (exfalso; first | omega | contradiction))) | (refine And.intro (rng64 (by omega) (by omega)) ?_) | (refine And.intro ⟨by omega, by omega⟩ ?_) | (refine And.intro ⟨by omega, by omega, by omega⟩ ?_) | (intro _)))
      refine Exists.intro [.blk [0, 1, 2, 3, 4, 5, 6, 7, 8, 9, 10, 11, 12, 13, 14, 15, 16, 17, 18, 19], .one 20] (And.intro (by kernel_rfl) ?_)
      refine And.intro ⟨by omega, by omega⟩ ?_
      rw [hgt]
      refine And.intro ⟨g0, g1⟩ ?_
      refine Exists.intro [] (And.intro rfl ?_)
      (repeat' (first | exact trivial | exact Or.inl rfl | exact Or.inr (Or.inl ⟨rfl, _, rfl⟩) | exact Or.inr (Or.inr (Or.inr ⟨_, _, _, rfl, rfl⟩)) | refine And.intro ?_ ?_))
    · rw [if_neg hlt]
      (repeat' (first | (refine And.intro (fun h => ?_) (fun h => ?_) <;> (try simp [-List.getD_eq_getElem?_getD, -Int.pred_toNat] at h) <;> (try (exfalso; first | omega | contradiction))) | (refine And.intro (rng64 (by omega) (by omega)) ?_) | (refine And.intro ⟨by omega, by omega⟩ ?_) | (refine And.intro ⟨by omega, by omega, by omega⟩ ?_) | (intro _)))
      refine Exists.intro [.blk [0, 1, 2, 3, 4, 5, 6, 7, 8, 9]] (And.intro (by kernel_rfl) ?_)
      (repeat' (first | (refine And.intro (fun h => ?_) (fun h => ?_) <;> (try simp [-List.getD_eq_getElem?_getD, -Int.pred_toNat] at h) <;> (try (exfalso; first | omega | contradiction))) | (refine And.intro (rng64 (by omega) (by omega)) ?_) | (refine And.intro ⟨by omega, by omega⟩ ?_) | (refine And.intro ⟨by omega, by omega, by omega⟩ ?_) | (intro _)))
      refine Exists.intro [] (And.intro rfl ?_)
      (repeat' (first | exact trivial | exact Or.inl rfl | exact Or.inr (Or.inl ⟨rfl, _, rfl⟩) | exact Or.inr (Or.inr (Or.inr ⟨_, _, _, rfl, rfl⟩)) | refine And.intro ?_ ?_))
  · rw [if_pos hb, if_pos hb]
    (repeat' (first | (refine And.intro (fun h => ?_) (fun h => ?_) <;> (try simp [-List.getD_eq_getElem?_getD, -Int.pred_toNat] at h) <;> (try (exfalso; first | omega | contradiction))) | (refine And.intro (rng64 (by omega) (by omega)) ?_) | (refine And.intro ⟨by omega, by omega⟩ ?_) | (refine And.intro ⟨by omega, by omega, by omega⟩ ?_) | (intro _)))
    refine Exists.intro [] (And.intro rfl ?_)
    (repeat' (first | exact trivial | exact Or.inl rfl | exact Or.inr (Or.inl ⟨rfl, _, rfl⟩) | exact Or.inr (Or.inr (Or.inr ⟨_, _, _, rfl, rfl⟩)) | refine And.intro ?_ ?_))
theorem s_fault (s : Str) (ts : List Token) (so : List Int) (i : Nat) (bad wh e : Int) (hso : ∀ x ∈ so, 0 ≤ x ∧ x < (ts.length : Int)) (hi : i ≤ so.length) (hl : so.length ≤ 100000) : CSpec Try.prog 64 [.pt 1000 0, .i .i64 e] [(1000, [.s s, .rd .token ts, .rd .int so, .i .i64 (i : Int), .i .i64 bad, .i .i64 wh])] (.tup []) [(1000, [.s s, .rd .token ts, .rd .int so, .i .i64 (i : Int), .i .i64 (if bad ≠ 0 then bad else e), .i .i64 (if bad ≠ 0 then wh else plcD s ts so i)])] :=
  cspec_of_vc Γ_good Try.func64 rfl Try.call64 Try.results64 Try.ntmps64 (Nat.le_of_ble_eq_true rfl) (Nat.le_of_ble_eq_true rfl) (by rfl) (w_fault s ts so i bad wh e hso hi hl)
theorem sees_rng (s : Str) (ts : List Token) (so : List Int) (i : Nat) : 0 ≤ seesD s ts so i ∧ seesD s ts so i ≤ 255 := by
  unfold seesD
  split
  · split
    · have := (s.getD (ts.getD (so.getD i 0).toNat default).fr.toNat 0).toNat_lt
      omega
    · split <;> decide
  · decide
theorem w_sees (s : Str) (ts : List Token) (so : List Int) (i : Nat) (bad wh : Int) (hso : ∀ x ∈ so, 0 ≤ x ∧ x < (ts.length : Int)) (hi : i ≤ so.length) (hl : so.length ≤ 100000) (hfr : ∀ t ∈ ts, t.kind = 6 → 0 ≤ t.fr ∧ t.fr < s.length) : vc Try.prog Γ 43 [0, 2, 3, 13, 31, 32, 41, 1000] (Try.f98.body.getD .skip) (postBK Γ [.tmp 2] (.i .u8 (seesD s ts so i)) [(1000, [.s s, .rd .token ts, .rd .int so, .i .i64 (i : Int), .i .i64 bad, .i .i64 wh])]) ⟨argSlots 0 [.pt 1000 0], [(1000, [.s s, .rd .token ts, .rd .int so, .i .i64 (i : Int), .i .i64 bad, .i .i64 wh])]⟩ := by
  unfold seesD
  (repeat' (first | (refine And.intro (fun h => ?_) (fun h => ?_) <;> (try simp [-List.getD_eq_getElem?_getD, -Int.pred_toNat] at h) <;> (try (exfalso; first | omega | contradiction))) | (refine And.intro (rng64 (by omega) (by omega)) ?_) | (refine And.intro ⟨by omega, by omega⟩ ?_) | (refine And.intro ⟨by omega, by omega, by omega⟩ ?_) | (intro _)))
  refine Exists.intro [.blk [0, 1, 2, 3, 4, 5, 6, 7, 8, 9]] (And.intro (by kernel_rfl) ?_)
  by_cases hlt : i < so.length
  · rw [if_pos hlt]
    obtain ⟨g0, g1⟩ := so_get hso hlt
    have hgt : so.getD (Int.toNat (i : Int)) (dflt .int) = so.getD i 0 := by rw [Int.toNat_natCast]
    have hgt2 : ts.getD (Int.toNat (so.getD i 0)) (dflt .token) = ts.getD (so.getD i 0).toNat default := rfl
    have hmem : ts.getD (so.getD i 0).toNat default ∈ ts := by rw [List.getD_eq_getElem?_getD, List.getElem?_eq_getElem (by omega)]; exact List.getElem_mem _
    have hfr := hfr _ hmem
    (repeat' (first | (refine And.intro (fun h => ?_) (fun h => ?_) <;> (try simp [-List.getD_eq_getElem?_getD, -Int.pred_toNat] at h) <;> (try (exfalso; first | omega | contradiction))) | (refine And.intro (rng64 (by omega) (by omega)) ?_) | (refine And.intro ⟨by omega, by omega⟩ ?_) | (refine And.intro ⟨by omega, by omega, by omega⟩ ?_) | (intro _)))
    refine Exists.intro [.blk [0, 1, 2, 3, 4, 5, 6, 7, 8, 9, 10, 11, 12, 13, 14, 15, 16] [3], .one 17] (And.intro (by kernel_rfl) ?_)
    refine And.intro ⟨by omega, by omega⟩ ?_
    rw [hgt]
    refine And.intro ⟨g0, g1⟩ ?_
    rw [hgt2]
    generalize ts.getD (so.getD i 0).toNat default = t at hfr
    refine And.intro (fun h6 => ?_) (fun h6 => ?_)
    · rw [if_pos (eq_of_beq h6)]
      have hf := hfr (eq_of_beq h6)
      refine Exists.intro [.blk [0, 1, 2, 3, 4, 5, 6, 7]] (And.intro (by kernel_rfl) ?_)
      refine And.intro ⟨by omega, by omega⟩ ?_
      refine Exists.intro [] (And.intro rfl ?_)
      (repeat' (first | exact trivial | exact Or.inl rfl | exact Or.inr (Or.inl ⟨rfl, _, rfl⟩) | exact Or.inr (Or.inr (Or.inr ⟨_, _, _, rfl, rfl⟩)) | refine And.intro ?_ ?_))
    · rw [if_neg (ne_of_beq_false h6)]
      refine And.intro (fun h7 => ?_) (fun h7 => ?_)
      · rw [if_pos (eq_of_beq h7)]
        refine Exists.intro [] (And.intro rfl ?_)
        (repeat' (first | exact trivial | exact Or.inl rfl | exact Or.inr (Or.inl ⟨rfl, _, rfl⟩) | exact Or.inr (Or.inr (Or.inr ⟨_, _, _, rfl, rfl⟩)) | refine And.intro ?_ ?_))
      · rw [if_neg (ne_of_beq_false h7)]
        refine Exists.intro [] (And.intro rfl ?_)
        (repeat' (first | exact trivial | exact Or.inl rfl | exact Or.inr (Or.inl ⟨rfl, _, rfl⟩) | exact Or.inr (Or.inr (Or.inr ⟨_, _, _, rfl, rfl⟩)) | refine And.intro ?_ ?_))
  · rw [if_neg hlt]
    (repeat' (first | (refine And.intro (fun h => ?_) (fun h => ?_) <;> (try simp [-List.getD_eq_getElem?_getD, -Int.pred_toNat] at h) <;> (try (exfalso; first | omega | contradiction))) | (refine And.intro (rng64 (by omega) (by omega)) ?_) | (refine And.intro ⟨by omega, by omega⟩ ?_) | (refine And.intro ⟨by omega, by omega, by omega⟩ ?_) | (intro _)))
    refine Exists.intro [] (And.intro rfl ?_)
    (repeat' (first | exact trivial | exact Or.inl rfl | exact Or.inr (Or.inl ⟨rfl, _, rfl⟩) | exact Or.inr (Or.inr (Or.inr ⟨_, _, _, rfl, rfl⟩)) | refine And.intro ?_ ?_))
theorem s_sees (s : Str) (ts : List Token) (so : List Int) (i : Nat) (bad wh : Int) (hso : ∀ x ∈ so, 0 ≤ x ∧ x < (ts.length : Int)) (hi : i ≤ so.length) (hl : so.length ≤ 100000) (hfr : ∀ t ∈ ts, t.kind = 6 → 0 ≤ t.fr ∧ t.fr < s.length) : CSpec Try.prog 98 [.pt 1000 0] [(1000, [.s s, .rd .token ts, .rd .int so, .i .i64 (i : Int), .i .i64 bad, .i .i64 wh])] (.i .u8 (seesD s ts so i)) [(1000, [.s s, .rd .token ts, .rd .int so, .i .i64 (i : Int), .i .i64 bad, .i .i64 wh])] :=
  cspec_of_vc Γ_good Try.func98 rfl Try.call98 Try.results98 Try.ntmps98 (Nat.le_of_ble_eq_true rfl) (Nat.le_of_ble_eq_true rfl) (by rfl) (w_sees s ts so i bad wh hso hi hl hfr)
end
end Go.Proofs.Ytdcdmojbkmedpaa
end
section
namespace Go.Proofs.Ytdcdmojbkmedpaa
set_option linter.unusedSectionVars false
set_option linter.unusedSimpArgs false
set_option linter.unusedVariables false
open Go Go.SX Go.Tk Go.Tr
set_option maxRecDepth 100000
set_option maxHeartbeats 1000000
section
variable [G : Globs]
theorem w_nodeN (s : Str) (ts : List Token) (so : List Int) (i f : Nat) (k bad wh : Int) (hso : ∀ x ∈ so, 0 ≤ x ∧ x < (ts.length : Int)) (hi : i ≤ so.length) (hi1 : 1 ≤ i) (hf : f < so.length) (hl : so.length ≤ 100000) (hts : ts.length ≤ 100000) : vc Try.prog Γ 31 [0, 1, 2, 3, 8, 1000] (Try.f99.body.getD .skip) (postBK Γ [.cell 8 50] (.agg [.i .i64 k, .i .i64 (so.getD f 0), .i .i64 (so.getD (i - 1) 0 + 1), .nl]) [(1000, [.s s, .rd .token ts, .rd .int so, .i .i64 (i : Int), .i .i64 bad, .i .i64 wh])]) ⟨argSlots 0 [.pt 1000 0, .i .i64 k, .i .i64 (f : Int), .nl], [(1000, [.s s, .rd .token ts, .rd .int so, .i .i64 (i : Int), .i .i64 bad, .i .i64 wh])]⟩ := by
  have hgt : so.getD (Int.toNat (f : Int)) (dflt .int) = so.getD f 0 := by rw [Int.toNat_natCast]
  have hgt2 : so.getD (Int.toNat ((i : Int) - 1)) (dflt .int) = so.getD (i - 1) 0 := by rw [show Int.toNat ((i : Int) - 1) = i - 1 by omega]
  obtain ⟨g0, g1⟩ := so_get hso (show i - 1 < so.length by omega)
  (repeat' (first | (refine And.intro (fun h => ?_) (fun h => ?_) <;> (try simp [-List.getD_eq_getElem?_getD, -Int.pred_toNat] at h) <;> (try (exfalso; first | omega | contradiction))) | (refine And.intro (rng64 (by omega) (by omega)) ?_) | (refine And.intro ⟨by omega, by omega⟩ ?_) | (refine And.intro ⟨by omega, by omega, by omega⟩ ?_) | (intro _)))
  refine Exists.intro [.blk [0, 1, 2, 3, 4, 5, 6, 7, 8, 9, 10, 11, 12, 13, 14, 15, 16, 17, 18, 19, 20, 21], .one 22] (And.intro (by kernel_rfl) ?_)
  refine And.intro ⟨by omega, by omega⟩ ?_
  rw [hgt]
  refine And.intro (rngI (by omega) (by omega)) ?_
  refine And.intro ⟨by omega, by omega⟩ ?_
  rw [hgt2]
  refine And.intro (rngI (by omega) (by omega)) ?_
  refine Exists.intro [] (And.intro rfl ?_)
  (repeat' (first | exact trivial | exact Or.inl rfl | exact Or.inr (Or.inl ⟨rfl, _, rfl⟩) | exact Or.inr (Or.inr (Or.inr ⟨_, _, _, rfl, rfl⟩)) | refine And.intro ?_ ?_))
theorem s_nodeN (s : Str) (ts : List Token) (so : List Int) (i f : Nat) (k bad wh : Int) (hso : ∀ x ∈ so, 0 ≤ x ∧ x < (ts.length : Int)) (hi : i ≤ so.length) (hi1 : 1 ≤ i) (hf : f < so.length) (hl : so.length ≤ 100000) (hts : ts.length ≤ 100000) : CSpec Try.prog 99 [.pt 1000 0, .i .i64 k, .i .i64 (f : Int), .nl] [(1000, [.s s, .rd .token ts, .rd .int so, .i .i64 (i : Int), .i .i64 bad, .i .i64 wh])] (.agg [.i .i64 k, .i .i64 (so.getD f 0), .i .i64 (so.getD (i - 1) 0 + 1), .nl]) [(1000, [.s s, .rd .token ts, .rd .int so, .i .i64 (i : Int), .i .i64 bad, .i .i64 wh])] :=
  cspec_of_vc Γ_good Try.func99 rfl Try.call99 Try.results99 Try.ntmps99 (Nat.le_of_ble_eq_true rfl) (Nat.le_of_ble_eq_true rfl) (by rfl) (w_nodeN s ts so i f k bad wh hso hi hi1 hf hl hts)
theorem w_nodeV (s : Str) (ts : List Token) (so : List Int) (i f : Nat) (k bad wh : Int) (kids : List SX.Node) (hso : ∀ x ∈ so, 0 ≤ x ∧ x < (ts.length : Int)) (hi : i ≤ so.length) (hi1 : 1 ≤ i) (hf : f < so.length) (hl : so.length ≤ 100000) (hts : ts.length ≤ 100000) : vc Try.prog Γ 31 [0, 1, 2, 3, 8, 1000, 1001] (Try.f99.body.getD .skip) (postBK Γ [.cell 8 50] (.agg [.i .i64 k, .i .i64 (so.getD f 0), .i .i64 (so.getD (i - 1) 0 + 1), .rd .node kids]) [(1000, [.s s, .rd .token ts, .rd .int so, .i .i64 (i : Int), .i .i64 bad, .i .i64 wh])]) ⟨argSlots 0 [.pt 1000 0, .i .i64 k, .i .i64 (f : Int), .vec 1001 .node kids], [(1000, [.s s, .rd .token ts, .rd .int so, .i .i64 (i : Int), .i .i64 bad, .i .i64 wh])]⟩ := by
  have hgt : so.getD (Int.toNat (f : Int)) (dflt .int) = so.getD f 0 := by rw [Int.toNat_natCast]
  have hgt2 : so.getD (Int.toNat ((i : Int) - 1)) (dflt .int) = so.getD (i - 1) 0 := by rw [show Int.toNat ((i : Int) - 1) = i - 1 by omega]
  obtain ⟨g0, g1⟩ := so_get hso (show i - 1 < so.length by omega)
  (repeat' (first | (refine And.intro (fun h => ?_) (fun h => ?_) <;> (try simp [-List.getD_eq_getElem?_getD, -Int.pred_toNat] at h) <;> (try (exfalso; first | omega | contradiction))) | (refine And.intro (rng64 (by omega) (by omega)) ?_) | (refine And.intro ⟨by omega, by omega⟩ ?_) | (refine And.intro ⟨by omega, by omega, by omega⟩ ?_) | (intro _)))
  refine Exists.intro [.blk [0, 1, 2, 3, 4, 5, 6, 7, 8, 9, 10, 11, 12, 13, 14, 15, 16, 17, 18, 19, 20], .one 21, .one 22] (And.intro (by kernel_rfl) ?_)
  refine And.intro ⟨by omega, by omega⟩ ?_
  rw [hgt]
  refine And.intro (rngI (by omega) (by omega)) ?_
  refine And.intro ⟨by omega, by omega⟩ ?_
  rw [hgt2]
  refine And.intro (rngI (by omega) (by omega)) ?_
  refine Exists.intro [] (And.intro rfl ?_)
  (repeat' (first | exact trivial | exact Or.inl rfl | exact Or.inr (Or.inl ⟨rfl, _, rfl⟩) | exact Or.inr (Or.inr (Or.inr ⟨_, _, _, rfl, rfl⟩)) | refine And.intro ?_ ?_))
theorem s_nodeV (s : Str) (ts : List Token) (so : List Int) (i f : Nat) (k bad wh : Int) (kids : List SX.Node) (hso : ∀ x ∈ so, 0 ≤ x ∧ x < (ts.length : Int)) (hi : i ≤ so.length) (hi1 : 1 ≤ i) (hf : f < so.length) (hl : so.length ≤ 100000) (hts : ts.length ≤ 100000) : CSpec Try.prog 99 [.pt 1000 0, .i .i64 k, .i .i64 (f : Int), .vec 1001 .node kids] [(1000, [.s s, .rd .token ts, .rd .int so, .i .i64 (i : Int), .i .i64 bad, .i .i64 wh])] (.agg [.i .i64 k, .i .i64 (so.getD f 0), .i .i64 (so.getD (i - 1) 0 + 1), .rd .node kids]) [(1000, [.s s, .rd .token ts, .rd .int so, .i .i64 (i : Int), .i .i64 bad, .i .i64 wh])] :=
  cspec_of_vc Γ_good Try.func99 rfl Try.call99 Try.results99 Try.ntmps99 (Nat.le_of_ble_eq_true rfl) (Nat.le_of_ble_eq_true rfl) (by rfl) (w_nodeV s ts so i f k bad wh kids hso hi hi1 hf hl hts)
end
end Go.Proofs.Ytdcdmojbkmedpaa
end
section
namespace Go.SX
set_option linter.unusedSectionVars false
variable [Globs]
/-- what a condition comes to: the code's own weakest precondition -/
structure VCs (P : Program) (Γ : Ctx) (N : Nat) (L : List Nat) (c : Code) (Q : Exit → St → Prop) (s : St) : Prop where
  ok : ∀ (W0 : World) (F : Fr) (X : Nat → Prop) (Q' : Exit → Act → World → Prop) (a : Act) (w : World), (∀ e s a w, Q e s → Inv W0 F X N s a w → Q' e a w) → Inv W0 F X N s a w → c.wp P Q' a w
section
variable {P : Program} {N : Nat} {Γ : Ctx} {L : List Nat} {s : St}
theorem VCs.of_vc (hΓ : Γ.good P) {c : Code} {Q : Exit → St → Prop} (h : vc P Γ N L c Q s) : VCs P Γ N L c Q s := ⟨fun _ _ _ Q' a w hQ hI => vc_ok hΓ c Q Q' s a w hQ h hI⟩
/-- the first part is walked, the second one is walked behind each of its ends -/
theorem VCs.seq (hΓ : Γ.good P) {x y : Code} {Q : Exit → St → Prop} (h : vc P Γ N L x (fun e s' => match e with
    | .normal => VCs P Γ N L y Q s'
    | e => Q e s') s) : VCs P Γ N L (.seq x y) Q s := ⟨fun W0 F X Q' a w hQ hI =>
  wp_seq (vc_ok hΓ x _ _ s a w (fun e s' a' w' hq hI' => by
    cases e with
    | normal => exact hq.ok W0 F X Q' a' w' hQ hI'
    | _ => exact hQ _ _ _ _ hq hI') h hI)⟩
/-- a cut: behind the first part the state is as told -/
theorem VCs.cut (hΓ : Γ.good P) {x y : Code} {Q : Exit → St → Prop} (σ : Type) (I : σ → Prop) (S : σ → St) (h : vc P Γ N L x (fun e s' => match e with
    | .normal => ∃ v, I v ∧ Wk s' (S v)
    | e => Q e s') s) (h2 : ∀ v, I v → VCs P Γ N L y Q (S v)) : VCs P Γ N L (.seq x y) Q s := ⟨fun W0 F X Q' a w hQ hI =>
  wp_seq (vc_ok hΓ x _ _ s a w (fun e s' a' w' hq hI' => by
    cases e with
    | normal =>
      obtain ⟨v, hv, hw⟩ := hq
      obtain ⟨β, hI'⟩ := hI'
      exact (h2 v hv).ok W0 F X Q' a' w' hQ ⟨β, hI'.wk hw⟩
    | _ => exact hQ _ _ _ _ hq hI') h hI)⟩
/-- ways within ways -/
theorem VCs.block {id : Nat} {c : Code} {Q : Exit → St → Prop} (h : VCs P Γ N L c (fun e s' => match e with
    | .exit id' => bif Nat.beq id' id then Q .normal s' else Q (.exit id') s'
    | e => Q e s') s) : VCs P Γ N L (.block id c) Q s := ⟨fun W0 F X Q' a w hQ hI => by
  refine wp_block (h.ok W0 F X _ a w (fun e s' a' w' hq hI' => ?_) hI)
  cases e with
  | exit id' =>
    have hq : bif Nat.beq id' id then Q .normal s' else Q (.exit id') s' := hq
    cases hb : Nat.beq id' id with
    | true =>
      rw [hb] at hq
      have hq1 : Q .normal s' := hq
      have e := Nat.eq_of_beq_eq_true hb
      subst e
      simp only [Exit.inBlock, if_true]
      exact hQ _ _ _ _ hq1 hI'
    | false =>
      rw [hb] at hq
      have hne : id' ≠ id := fun e => by subst e; rw [Nat.beq_refl] at hb; cases hb
      simp only [Exit.inBlock, hne, if_false]; exact hQ _ _ _ _ hq hI'
  | _ => exact hQ _ _ _ _ hq hI'⟩
theorem VCs.cond {c : Operand} {x y : Code} {Q : Exit → St → Prop} {t : Bool} (hc : ev s c = .b t) (h1 : t = true → VCs P Γ N L x Q s) (h2 : t = false → VCs P Γ N L y Q s) : VCs P Γ N L (.cond c x y) Q s := ⟨fun W0 F X Q' a w hQ hI => by
  obtain ⟨β, hI⟩ := hI
  have hr := (ev_rel hI c).1
  rw [hc] at hr
  exact wp_cond_split hr.inv_b (fun ht => (h1 ht).ok W0 F X Q' a w hQ ⟨β, hI⟩) (fun ht => (h2 ht).ok W0 F X Q' a w hQ ⟨β, hI⟩)⟩
theorem VCs.seqS {x y : Code} {Q : Exit → St → Prop} (h : VCs P Γ N L x (fun e s' => match e with
    | .normal => VCs P Γ N L y Q s'
    | e => Q e s') s) : VCs P Γ N L (.seq x y) Q s := ⟨fun W0 F X Q' a w hQ hI =>
  wp_seq (h.ok W0 F X _ a w (fun e s' a' w' hq hI' => by
    cases e with
    | normal => exact hq.ok W0 F X Q' a' w' hQ hI'
    | _ => exact hQ _ _ _ _ hq hI') hI)⟩
theorem VCs.cutS {x y : Code} {Q : Exit → St → Prop} (σ : Type) (I : σ → Prop) (S : σ → St) (h : VCs P Γ N L x (fun e s' => match e with
    | .normal => ∃ v, I v ∧ Wk s' (S v)
    | e => Q e s') s) (h2 : ∀ v, I v → VCs P Γ N L y Q (S v)) : VCs P Γ N L (.seq x y) Q s := ⟨fun W0 F X Q' a w hQ hI =>
  wp_seq (h.ok W0 F X _ a w (fun e s' a' w' hq hI' => by
    cases e with
    | normal =>
      obtain ⟨v, hv, hw⟩ := hq
      obtain ⟨β, hI'⟩ := hI'
      exact (h2 v hv).ok W0 F X Q' a' w' hQ ⟨β, hI'.wk hw⟩
    | _ => exact hQ _ _ _ _ hq hI') hI)⟩
/-- a contract out of it -/
theorem pspec_of_VCs (_hΓ : Γ.good P) {f : FuncId} {fn : Func} {c : Code} (hf : P.funcs[f]? = some fn) (hb : fn.body = some c) (hcall : ∀ (vs : Array Value) (w : World), (callFunc f vs).run P w = .ok (.enter f vs) w)
    {rs : Array ResultVar} (hrs : fn.results = rs) (hN : fn.ntmps = N) {args : List AV} {r : AV} (hlen : args.length ≤ N)
    (hvc : VCs P Γ N L c (postK Γ rs.toList (fun v => v = r)) ⟨argSlots 0 args, []⟩) (hΓ : Γ.good P) : PSpec P f args r := by
  refine ⟨hcall, fun O w vs hO hG hargs => ?_⟩
  refine calls_of_wp hf hb ?_
  have hsz : vs.length = args.length := hargs.1.symm
  have hI : InvB w Fr.none O N ⟨argSlots 0 args, []⟩ (fun _ => none) { tmps := vs.toArray ++ Array.replicate (fn.ntmps - vs.toArray.size) undef, defers := [] } w := by
    have hNm : ∀ n, ¬ Nm ⟨argSlots 0 args, []⟩ n := by
      rintro n (⟨cs, h⟩ | ⟨m, h⟩ | ⟨b, cs, h, _⟩)
      · cases h
      · have := look_args args 0 m
        rw [Nat.zero_add] at this
        simp only [this] at h
        by_cases hm : m < args.length
        · rw [List.getD_eq_getElem?_getD, List.getElem?_eq_getElem hm] at h
          have := (hargs.2 m _ _ (List.getElem?_eq_getElem hm) (List.getElem?_eq_getElem (by rw [hsz]; exact hm))).ids_nil
          rw [show (some args[m]).getD AV.x = args[m] from rfl, this] at h
          cases h
        · rw [List.getD_eq_getElem?_getD, List.getElem?_eq_none (by omega)] at h
          simp [ids, ids0] at h
      · cases h
    refine ⟨Stp.refl _ _, fun n => ?_, ?_, fun n cs h => (by cases h), fun n m g hn => absurd hn (hNm n), fun n g hn => absurd hn (hNm n), rfl, fun k hk => ⟨hO k hk, id⟩, fun n cs g h => (by cases h), fun _ _ => rfl, hG.step (Stp.refl (fun _ => False) w) (fun _ _ h => h.elim) fun k _ hk => hk.elim id fun h => h.elim⟩
    · have h1 := look_args args 0 n
      rw [Nat.zero_add] at h1
      show Rel _ _ _ (look (argSlots 0 args) n) _
      rw [h1]
      by_cases hm : n < args.length
      · have hmv : n < vs.length := by rw [hsz]; exact hm
        have h2 := hargs.2 n _ _ (List.getElem?_eq_getElem hm) (List.getElem?_eq_getElem hmv)
        rw [List.getD_eq_getElem?_getD, List.getElem?_eq_getElem hm]
        have h3 : (vs.toArray ++ Array.replicate (fn.ntmps - vs.toArray.size) undef).getD n undef = vs[n] := by
          rw [Array.getD_eq_getD_getElem?, Array.getElem?_append_left (by simpa using hmv)]
          simp [hmv]
        rw [h3]
        refine Rel.im (h2.mono fun k hk => ?_)
        rcases hk with hk | ⟨m, hm', _⟩
        · exact hk
        · exact absurd hm' (hNm m)
      · rw [List.getD_eq_getElem?_getD, List.getElem?_eq_none (by omega)]
        exact Rel.x
    · show (vs.toArray ++ Array.replicate (fn.ntmps - vs.toArray.size) undef).size = N
      simp only [Array.size_append, List.size_toArray, Array.size_replicate, hN, hsz]
      omega
  refine hvc.ok w Fr.none O _ _ _ (fun e s a w' hq ⟨β, hI'⟩ => ?_) ⟨_, hI⟩
  have key : retK Γ s rs.toList (fun v => v = r) → a.defers = [] ∧ ∃ v, (results fn a.tmps).run P w' = .ok v w' ∧ ∃ v', Ending.returned v = .returned v' ∧ Stp (fun _ => False) w w' ∧ Im O w' r v' := by
    intro h
    rw [← hrs] at h
    obtain ⟨v, u, rfl, h1, h2⟩ := ret_ok hΓ hI' h
    exact ⟨hI'.defers, u, h2, u, rfl, hI'.ext, h1⟩
  cases e with
  | normal => exact key hq
  | ret => exact key hq
  | _ => exact hq.elim
/-- .. one that writes -/
theorem cspec_of_VCs (hΓ : Γ.good P) {f : FuncId} {fn : Func} {c : Code} (hf : P.funcs[f]? = some fn) (hb : fn.body = some c) (hcall : ∀ (vs : Array Value) (w : World), (callFunc f vs).run P w = .ok (.enter f vs) w)
    {rs : Array ResultVar} (hrs : fn.results = rs) (hN : fn.ntmps = N) {args : List AV} {boxes : List (Nat × List AV)} {r : AV} {boxes' : List (Nat × List AV)} {L : List Nat} (hlen : args.length ≤ N) (hN1 : 1 ≤ N)
    (hlow : (boxNames boxes).all (fun n => Nat.ble N n) = true) (hvc : VCs P Γ N L c (postBK Γ rs.toList r boxes') ⟨argSlots 0 args, boxes⟩) : CSpec P f args boxes r boxes' := by
  refine ⟨hcall, fun F X β w vs hvs hpin hI0 => ?_⟩
  refine calls_of_wp hf hb ?_
  have hpad : ∀ n, (vs.toArray ++ Array.replicate (fn.ntmps - vs.toArray.size) undef).getD n undef = vs.toArray.getD n undef ∨ look (argSlots 0 args) n = .x := fun n => by
    by_cases hm : n < vs.length
    · left
      simp only [Array.getD_eq_getD_getElem?]
      rw [Array.getElem?_append_left (by simpa using hm)]
    · right
      have h1 := look_args args 0 n
      rw [Nat.zero_add] at h1
      rw [h1, List.getD_eq_getElem?_getD, List.getElem?_eq_none (by omega)]
      rfl
  have hI : InvB w F X N ⟨argSlots 0 args, boxes⟩ β { tmps := vs.toArray ++ Array.replicate (fn.ntmps - vs.toArray.size) undef, defers := [] } w := by
    refine ⟨hI0.ext, fun n => ?_, ?_, hI0.boxes, hI0.inj, hI0.own, hI0.defers, hI0.ext2, hI0.pin, fun n hn => ?_, hI0.gl⟩
    · rcases hpad n with h1 | h1
      · show Rel _ _ _ _ ((vs.toArray ++ Array.replicate (fn.ntmps - vs.toArray.size) undef).getD n undef)
        rw [h1]; exact hI0.slots n
      · show Rel _ _ _ (look (argSlots 0 args) n) _
        rw [h1]; exact Rel.x
    · simp only [Array.size_append, List.size_toArray, Array.size_replicate, hN, hvs]
      omega
    · cases hp : F.pin n with
      | none => rfl
      | some g =>
        have h1 := boxNames_mem.2 (hpin n g hp)
        have := Nat.le_of_ble_eq_true (List.all_eq_true.1 hlow n h1)
        omega
  refine hvc.ok w F X _ _ _ (fun e s a w' hq ⟨β', hI'⟩ => ?_) ⟨_, hI⟩
  have key : endK Γ rs.toList r boxes' s → a.defers = [] ∧ ∃ v, (results fn a.tmps).run P w' = .ok v w' ∧ ∃ v' β'', Ending.returned v = .returned v' ∧ InvB w F X 1 ⟨[(0, r)], boxes'⟩ β'' ⟨#[v'], []⟩ w' := by
    intro h
    rw [← hrs] at h
    obtain ⟨u, β'', h1, h2⟩ := end_ok hΓ hN1 hI' h
    have hd : F.dfr = [] := hI0.defers.symm
    have hF : { F with dfr := [] } = F := by cases F; simp only at hd; subst hd; rfl
    rw [hF] at h2
    exact ⟨hI'.defers.trans hd, u, h1, u, β'', rfl, h2⟩
  cases e with
  | normal => exact key hq
  | ret => exact key hq
  | _ => exact hq.elim
/-- a nil slice handed in for an empty one of the caller's own -/
theorem CSpec.nl0 {f : FuncId} {id : Nat} {τ : Ty} {args : List AV} {boxes : List (Nat × List AV)} {r : AV} {boxes' : List (Nat × List AV)} (h : CSpec P f (.vec id τ [] :: args) boxes r boxes')
    (hf : inB id (namesV (.nl :: args) boxes) = false) : CSpec P f (.nl :: args) boxes r boxes' := by
  refine ⟨h.1, fun F X β w vs h1 h2 hI => h.2 F X (setβ β id none) w vs h1 h2 ?_⟩
  have hfree : ¬ Nm ⟨argSlots 0 (.nl :: args), boxes⟩ id := fun hm => by
    have := Nm_names (look_args_mem (.nl :: args) 0) hm
    rw [inB_iff.2 this] at hf
    cases hf
  exact hI.nlVec (n := 0) (id := id) rfl hfree τ
end
end Go.SX
end
section
namespace Go.SX
set_option linter.unusedSectionVars false
variable [Globs]
section
variable {P : Program} {N : Nat} {Γ : Ctx} {L : List Nat} {W0 : World} {F : Fr} {X : Nat → Prop} {s : St} {β : Nat → Option Nat} {a : Act} {w : World}
/-- the same, but that a nil slice may stand for an empty one -/
def RL1 : AV → AV → Prop
  | .agg cs, .agg ds => AVles cs ds
  | c, d => AVle c d
def RLs : List AV → List AV → Prop
  | [], [] => True
  | a :: r, b :: t => RL1 a b ∧ RLs r t
  | _, _ => False
def RL : AV → AV → Prop
  | .tup cs, .tup ds => RLs cs ds
  | c, d => RL1 c d
theorem im_RL1 {O : Nat → Prop} {c d : AV} {u : Value} (h : Im O w c u) (hle : RL1 c d) : Im O w d u := by
  unfold RL1 at hle
  split at hle
  · cases h with
    | agg _ vs h1 h2 h3 =>
      have := all_le (show All2 (Im O w) _ vs from ⟨h1, h3⟩) hle
      exact .agg _ vs this.1 h2 this.2
  · exact im_le h hle
theorem im_RLs {O : Nat → Prop} : ∀ {cs ds : List AV} {us : List Value}, All2 (Im O w) cs us → RLs cs ds → All2 (Im O w) ds us
  | [], [], us, h, _ => h
  | [], _ :: _, _, _, hle => hle.elim
  | _ :: _, [], _, _, hle => hle.elim
  | c :: r, d :: t, us, h, hle => by
    obtain ⟨u, us', rfl, h1, h2⟩ := h.cons_inv
    exact All2.cons (im_RL1 h1 hle.1) (im_RLs h2 hle.2)
theorem im_RL {O : Nat → Prop} {c d : AV} {u : Value} (h : Im O w c u) (hle : RL c d) : Im O w d u := by
  unfold RL at hle
  split at hle
  · cases h with
    | tup _ vs h1 h2 =>
      have := im_RLs (show All2 (Im O w) _ vs from ⟨h1, h2⟩) hle
      exact .tup _ vs this.1 this.2
  · exact im_RL1 h hle
/-- a contract called with nil slices in place of empty ones -/
theorem PSpec.arg {f : FuncId} {args args' : List AV} {r : AV} (h : PSpec P f args r) (hle : RLs args' args) : PSpec P f args' r :=
  ⟨h.1, fun O w vs h1 h2 h3 => h.2 O w vs h1 h2 (im_RLs h3 hle)⟩
theorem pspec_of_vcL (hΓ : Γ.good P) {f : FuncId} {fn : Func} {c : Code} (hf : P.funcs[f]? = some fn) (hb : fn.body = some c) (hcall : ∀ (vs : Array Value) (w : World), (callFunc f vs).run P w = .ok (.enter f vs) w)
    {rs : Array ResultVar} (hrs : fn.results = rs) (hN : fn.ntmps = N) {args : List AV} {r : AV} {L : List Nat} (hlen : args.length ≤ N)
    (hvc : vc P Γ N L c (postK Γ rs.toList (fun v => RL v r)) ⟨argSlots 0 args, []⟩) : PSpec P f args r := by
  refine ⟨hcall, fun O w vs hO hG hargs => ?_⟩
  refine calls_of_wp hf hb ?_
  have hsz : vs.length = args.length := hargs.1.symm
  have hI : InvB w Fr.none O N ⟨argSlots 0 args, []⟩ (fun _ => none) { tmps := vs.toArray ++ Array.replicate (fn.ntmps - vs.toArray.size) undef, defers := [] } w := by
    have hNm : ∀ n, ¬ Nm ⟨argSlots 0 args, []⟩ n := by
      rintro n (⟨cs, h⟩ | ⟨m, h⟩ | ⟨b, cs, h, _⟩)
      · cases h
      · have := look_args args 0 m
        rw [Nat.zero_add] at this
        simp only [this] at h
        by_cases hm : m < args.length
        · rw [List.getD_eq_getElem?_getD, List.getElem?_eq_getElem hm] at h
          have := (hargs.2 m _ _ (List.getElem?_eq_getElem hm) (List.getElem?_eq_getElem (by rw [hsz]; exact hm))).ids_nil
          rw [show (some args[m]).getD AV.x = args[m] from rfl, this] at h
          cases h
        · rw [List.getD_eq_getElem?_getD, List.getElem?_eq_none (by omega)] at h
          simp [ids, ids0] at h
      · cases h
    refine ⟨Stp.refl _ _, fun n => ?_, ?_, fun n cs h => (by cases h), fun n m g hn => absurd hn (hNm n), fun n g hn => absurd hn (hNm n), rfl, fun k hk => ⟨hO k hk, id⟩, fun n cs g h => (by cases h), fun _ _ => rfl, hG.step (Stp.refl (fun _ => False) w) (fun _ _ h => h.elim) fun k _ hk => hk.elim id fun h => h.elim⟩
    · have h1 := look_args args 0 n
      rw [Nat.zero_add] at h1
      show Rel _ _ _ (look (argSlots 0 args) n) _
      rw [h1]
      by_cases hm : n < args.length
      · have hmv : n < vs.length := by rw [hsz]; exact hm
        have h2 := hargs.2 n _ _ (List.getElem?_eq_getElem hm) (List.getElem?_eq_getElem hmv)
        rw [List.getD_eq_getElem?_getD, List.getElem?_eq_getElem hm]
        have h3 : (vs.toArray ++ Array.replicate (fn.ntmps - vs.toArray.size) undef).getD n undef = vs[n] := by
          rw [Array.getD_eq_getD_getElem?, Array.getElem?_append_left (by simpa using hmv)]
          simp [hmv]
        rw [h3]
        refine Rel.im (h2.mono fun k hk => ?_)
        rcases hk with hk | ⟨m, hm', _⟩
        · exact hk
        · exact absurd hm' (hNm m)
      · rw [List.getD_eq_getElem?_getD, List.getElem?_eq_none (by omega)]
        exact Rel.x
    · show (vs.toArray ++ Array.replicate (fn.ntmps - vs.toArray.size) undef).size = N
      simp only [Array.size_append, List.size_toArray, Array.size_replicate, hN, hsz]
      omega
  refine vc_ok (W0 := w) (F := Fr.none) (X := O) hΓ c _ _ _ _ _ (fun e s a w' hq ⟨β, hI'⟩ => ?_) hvc ⟨_, hI⟩
  have key : retK Γ s rs.toList (fun v => RL v r) → a.defers = [] ∧ ∃ v, (results fn a.tmps).run P w' = .ok v w' ∧ ∃ v', Ending.returned v = .returned v' ∧ Stp (fun _ => False) w w' ∧ Im O w' r v' := by
    intro h
    rw [← hrs] at h
    obtain ⟨v, u, hv, h1, h2⟩ := ret_ok hΓ hI' h
    exact ⟨hI'.defers, u, h2, u, rfl, hI'.ext, im_RL h1 hv⟩
  cases e with
  | normal => exact key hq
  | ret => exact key hq
  | _ => exact hq.elim

theorem pspec_of_VCsL (_hΓ : Γ.good P) {f : FuncId} {fn : Func} {c : Code} (hf : P.funcs[f]? = some fn) (hb : fn.body = some c) (hcall : ∀ (vs : Array Value) (w : World), (callFunc f vs).run P w = .ok (.enter f vs) w)
    {rs : Array ResultVar} (hrs : fn.results = rs) (hN : fn.ntmps = N) {args : List AV} {r : AV} (hlen : args.length ≤ N)
    (hvc : VCs P Γ N L c (postK Γ rs.toList (fun v => RL v r)) ⟨argSlots 0 args, []⟩) (hΓ : Γ.good P) : PSpec P f args r := by
  refine ⟨hcall, fun O w vs hO hG hargs => ?_⟩
  refine calls_of_wp hf hb ?_
  have hsz : vs.length = args.length := hargs.1.symm
  have hI : InvB w Fr.none O N ⟨argSlots 0 args, []⟩ (fun _ => none) { tmps := vs.toArray ++ Array.replicate (fn.ntmps - vs.toArray.size) undef, defers := [] } w := by
    have hNm : ∀ n, ¬ Nm ⟨argSlots 0 args, []⟩ n := by
      rintro n (⟨cs, h⟩ | ⟨m, h⟩ | ⟨b, cs, h, _⟩)
      · cases h
      · have := look_args args 0 m
        rw [Nat.zero_add] at this
        simp only [this] at h
        by_cases hm : m < args.length
        · rw [List.getD_eq_getElem?_getD, List.getElem?_eq_getElem hm] at h
          have := (hargs.2 m _ _ (List.getElem?_eq_getElem hm) (List.getElem?_eq_getElem (by rw [hsz]; exact hm))).ids_nil
          rw [show (some args[m]).getD AV.x = args[m] from rfl, this] at h
          cases h
        · rw [List.getD_eq_getElem?_getD, List.getElem?_eq_none (by omega)] at h
          simp [ids, ids0] at h
      · cases h
    refine ⟨Stp.refl _ _, fun n => ?_, ?_, fun n cs h => (by cases h), fun n m g hn => absurd hn (hNm n), fun n g hn => absurd hn (hNm n), rfl, fun k hk => ⟨hO k hk, id⟩, fun n cs g h => (by cases h), fun _ _ => rfl, hG.step (Stp.refl (fun _ => False) w) (fun _ _ h => h.elim) fun k _ hk => hk.elim id fun h => h.elim⟩
    · have h1 := look_args args 0 n
      rw [Nat.zero_add] at h1
      show Rel _ _ _ (look (argSlots 0 args) n) _
      rw [h1]
      by_cases hm : n < args.length
      · have hmv : n < vs.length := by rw [hsz]; exact hm
        have h2 := hargs.2 n _ _ (List.getElem?_eq_getElem hm) (List.getElem?_eq_getElem hmv)
        rw [List.getD_eq_getElem?_getD, List.getElem?_eq_getElem hm]
        have h3 : (vs.toArray ++ Array.replicate (fn.ntmps - vs.toArray.size) undef).getD n undef = vs[n] := by
          rw [Array.getD_eq_getD_getElem?, Array.getElem?_append_left (by simpa using hmv)]
          simp [hmv]
        rw [h3]
        refine Rel.im (h2.mono fun k hk => ?_)
        rcases hk with hk | ⟨m, hm', _⟩
        · exact hk
        · exact absurd hm' (hNm m)
      · rw [List.getD_eq_getElem?_getD, List.getElem?_eq_none (by omega)]
        exact Rel.x
    · show (vs.toArray ++ Array.replicate (fn.ntmps - vs.toArray.size) undef).size = N
      simp only [Array.size_append, List.size_toArray, Array.size_replicate, hN, hsz]
      omega
  refine hvc.ok w Fr.none O _ _ _ (fun e s a w' hq ⟨β, hI'⟩ => ?_) ⟨_, hI⟩
  have key : retK Γ s rs.toList (fun v => RL v r) → a.defers = [] ∧ ∃ v, (results fn a.tmps).run P w' = .ok v w' ∧ ∃ v', Ending.returned v = .returned v' ∧ Stp (fun _ => False) w w' ∧ Im O w' r v' := by
    intro h
    rw [← hrs] at h
    obtain ⟨v, u, hv, h1, h2⟩ := ret_ok hΓ hI' h
    exact ⟨hI'.defers, u, h2, u, rfl, hI'.ext, im_RL h1 hv⟩
  cases e with
  | normal => exact key hq
  | ret => exact key hq
  | _ => exact hq.elim
end
end Go.SX
end
section
namespace Go.SX
set_option linter.unusedSectionVars false
variable [Globs]
section
variable {P : Program} {N : Nat} {W0 : World} {F : Fr} {X : Nat → Prop} {β : Nat → Option Nat} {a : Act} {w : World}
theorem InvB.aggLe {cs ds : List AV} {B : List (Nat × List AV)} (hle : AVles cs ds) (hI : InvB W0 F X N ⟨[(0, .agg cs)], B⟩ β a w) : InvB W0 F X N ⟨[(0, .agg ds)], B⟩ β a w := by
  have hNm : ∀ n, Nm ⟨[(0, .agg ds)], B⟩ n → Nm ⟨[(0, .agg cs)], B⟩ n := by
    rintro n (h | ⟨m, hm⟩ | h)
    · exact .inl h
    · exfalso
      cases m with
      | zero => cases hm
      | succ m => cases hm
    · exact .inr (.inr h)
  have hO : ∀ k, Own X ⟨[(0, .agg ds)], B⟩ β k → Own X ⟨[(0, .agg cs)], B⟩ β k := fun k hk => hk.imp id fun ⟨n, hn, hb⟩ => ⟨n, hNm n hn, hb⟩
  refine hI.upd (Stp.refl (fun _ => False) w) (fun _ _ h => h.elim) (fun n => ?_) (fun n cs hcs => ?_) (fun n m g hn hm => hI.inj n m g (hNm n hn) (hNm m hm)) (fun n g hn hg => hI.own n g (hNm n hn) hg) rfl rfl (fun n cs g hc hp => hI.pin n cs g hc hp)
  · have hs := hI.slots n
    cases n with
    | zero =>
      have hs : Im (Own X ⟨[(0, .agg cs)], B⟩ β) w (.agg cs) (a.tmps.getD 0 undef) := hs
      exact Rel.im ((im_RL1 hs (show RL1 (.agg cs) (.agg ds) from hle)).mono hO)
    | succ n => exact hs.mono hO
  · obtain ⟨g, us', e, h1, h2, h3⟩ := hI.boxes n cs hcs
    exact ⟨g, us', e, h1, h2, h3.mono fun _ _ _ _ hr => ⟨hr.1.mono hO, hr.2⟩⟩
theorem CSpec.aggLe {f : FuncId} {args : List AV} {boxes : List (Nat × List AV)} {cs ds : List AV} {boxes' : List (Nat × List AV)} (h : CSpec P f args boxes (.agg cs) boxes') (hle : AVles cs ds) : CSpec P f args boxes (.agg ds) boxes' := by
  refine ⟨h.1, fun F X β w vs h1 h2 hI => (h.2 F X β w vs h1 h2 hI).mono ?_⟩
  rintro e w' ⟨v', β'', he, hI'⟩
  exact ⟨v', β'', he, hI'.aggLe hle⟩
end
end Go.SX
end
section
namespace Go.Proofs.Ytdcdmojbkmedpaa
set_option linter.unusedSectionVars false
set_option linter.unusedSimpArgs false
set_option linter.unusedVariables false
open Go Go.SX Go.Tk Go.Tr
set_option maxRecDepth 100000
set_option maxHeartbeats 1000000
/-- a node as it is handed back: without kids its slice is nil -/
def rawN (n : SX.Node) : AV := match n.kids with
  | [] => bareN n
  | _ :: _ => .agg (enc .node n)
section
variable [G : Globs]
theorem w_entry (s : Str) (ts : List Token) (n : Nat) (d : Int) (a : Nat) (hts : ts.length ≤ 1000000) (ha : a ≤ ts.length) (hn : n ≤ 400000) (hfr : ∀ t ∈ ts, t.kind = 6 → 0 ≤ t.fr ∧ t.fr < s.length) (hv : ∀ c ≤ ts.length, a + 2 ≤ c → CSpec Try.prog 59 [.pt 1000 0, .i .i64 d] [(1000, [.s s, .rd .token ts, .i .i64 (c : Int), .i .i64 0, .i .i64 0])] (.agg (enc .node (valP s ts n d c).1)) [(1000, [.s s, .rd .token ts, .i .i64 ((valP s ts n d c).2.1 : Int), .i .i64 (valP s ts n d c).2.2.1, .i .i64 (valP s ts n d c).2.2.2])]) : vc Try.prog Γ 51 [0, 1, 4, 5, 6, 7, 24, 31, 1000] (Try.f93.body.getD .skip) (postBK Γ [.cell 4 50] (rawN (entP s ts (n + 1) d a).1) [(1000, [.s s, .rd .token ts, .i .i64 ((entP s ts (n + 1) d a).2.1 : Int), .i .i64 (entP s ts (n + 1) d a).2.2.1, .i .i64 (entP s ts (n + 1) d a).2.2.2])]) ⟨argSlots 0 [.pt 1000 0, .i .i64 d], [(1000, [.s s, .rd .token ts, .i .i64 (a : Int), .i .i64 0, .i .i64 0])]⟩ := by
  have hs := sk_le ts ha
  have hL := s_leaf s ts 2 a hts (by omega)
  have hid := sk_idem ts a
  have hsg := sk_ge ts a
  rw [entP]
  generalize sk ts a = b at hs hL hid hsg
  unfold leafP bareN at hL
  by_cases hw : wrd ts b = true
  · rw [if_pos hw] at hL
    have hlt := wrd_lt hw
    simp only at hL
    have hM := s_mark s ts (b + 1) 0 0 hts (by omega) hfr
    have hc := sk_le ts (show b + 1 ≤ ts.length by omega)
    have hcg := sk_ge ts (b + 1)
    rw [if_neg (by rw [hw]; decide)]
    generalize sk ts (b + 1) = c at hM hc hcg
    refine Or.inr (Or.inl (Exists.intro [] (Exists.intro _ (Exists.intro _ (Exists.intro _ (Exists.intro _ (Exists.intro _ (Exists.intro [(1000, 1000)] (And.intro (hL) ?_)))))))))
    refine (And.intro rfl (And.intro rfl (And.intro rfl (And.intro rfl (And.intro rfl ?_)))))
    refine Or.inr (Or.inl (Exists.intro [] (Exists.intro _ (Exists.intro _ (Exists.intro _ (Exists.intro _ (Exists.intro _ (Exists.intro [(1000, 1000)] (And.intro (hM) ?_)))))))))
    refine (And.intro rfl (And.intro rfl (And.intro rfl (And.intro rfl (And.intro rfl ?_)))))
    by_cases hm : mkB s ts c ≠ 58 ∧ mkB s ts c ≠ 61
    · rw [if_pos hm]
      have hF := s_fail s ts c 0 0 4 hts (by omega)
      have hFW : failW s ts c 0 0 4 = (4, plc s ts c) := if_neg (by decide)
      rw [hFW] at hF
      obtain ⟨m1, m2⟩ := hm
      generalize mkB s ts c = m at m1 m2
      (repeat' (first | (refine And.intro (fun h => ?_) (fun h => ?_) <;> (try simp [-List.getD_eq_getElem?_getD, -Int.pred_toNat] at h) <;> (try (exfalso; first | omega | contradiction))) | (refine And.intro (rng64 (by omega) (by omega)) ?_) | (refine And.intro ⟨by omega, by omega⟩ ?_) | (refine And.intro ⟨by omega, by omega, by omega⟩ ?_) | (intro _)))
      refine Or.inr (Or.inl (Exists.intro [] (Exists.intro _ (Exists.intro _ (Exists.intro _ (Exists.intro _ (Exists.intro _ (Exists.intro [(1000, 1000)] (And.intro (hF) ?_)))))))))
      refine (And.intro rfl (And.intro rfl (And.intro rfl (And.intro rfl (And.intro rfl ?_)))))
      (repeat' (first | (refine And.intro (fun h => ?_) (fun h => ?_) <;> (try simp [-List.getD_eq_getElem?_getD, -Int.pred_toNat] at h) <;> (try (exfalso; first | omega | contradiction))) | (refine And.intro (rng64 (by omega) (by omega)) ?_) | (refine And.intro ⟨by omega, by omega⟩ ?_) | (refine And.intro ⟨by omega, by omega, by omega⟩ ?_) | (intro _)))
      refine Exists.intro [] (And.intro rfl ?_)
      (repeat' (first | exact trivial | exact Or.inl rfl | exact Or.inr (Or.inl ⟨rfl, _, rfl⟩) | exact Or.inr (Or.inr (Or.inr ⟨_, _, _, rfl, rfl⟩)) | refine And.intro ?_ ?_))
    · rw [if_neg hm]
      have hlt2 : c < ts.length := mk_lt (s := s) (fun h0 => hm ⟨by rw [h0]; decide, by rw [h0]; decide⟩)
      have hV := hv (c + 1) (by omega) (by omega)
      obtain ⟨g1, g2⟩ := (rest_n s ts n d (c + 1) (by omega)).1
      generalize mkB s ts c = m at hm
      have hm2 : m = 58 ∨ m = 61 := by omega
      generalize valP s ts n d (c + 1) = x at hV g1 g2
      obtain ⟨⟨xk, xf, xt, xs⟩, xr⟩ := x
      rcases hm2 with hm2 | hm2
      · (repeat' (first | (refine And.intro (fun h => ?_) (fun h => ?_) <;> (try simp [-List.getD_eq_getElem?_getD, -Int.pred_toNat] at h) <;> (try (exfalso; first | omega | contradiction))) | (refine And.intro (rng64 (by omega) (by omega)) ?_) | (refine And.intro ⟨by omega, by omega⟩ ?_) | (refine And.intro ⟨by omega, by omega, by omega⟩ ?_) | (intro _)))
        refine Or.inr (Or.inl (Exists.intro [] (Exists.intro _ (Exists.intro _ (Exists.intro _ (Exists.intro _ (Exists.intro _ (Exists.intro [(1000, 1000)] (And.intro (hV) ?_)))))))))
        refine (And.intro rfl (And.intro rfl (And.intro rfl (And.intro rfl (And.intro rfl ?_)))))
        (repeat' (first | (refine And.intro (fun h => ?_) (fun h => ?_) <;> (try simp [-List.getD_eq_getElem?_getD, -Int.pred_toNat] at h) <;> (try (exfalso; first | omega | contradiction))) | (refine And.intro (rng64 (by omega) (by omega)) ?_) | (refine And.intro ⟨by omega, by omega⟩ ?_) | (refine And.intro ⟨by omega, by omega, by omega⟩ ?_) | (intro _)))
        refine Exists.intro [] (And.intro rfl ?_)
        (repeat' (first | exact trivial | exact Or.inl rfl | exact Or.inr (Or.inl ⟨rfl, _, rfl⟩) | exact Or.inr (Or.inr (Or.inr ⟨_, _, _, rfl, rfl⟩)) | refine And.intro ?_ ?_))
      · (repeat' (first | (refine And.intro (fun h => ?_) (fun h => ?_) <;> (try simp [-List.getD_eq_getElem?_getD, -Int.pred_toNat] at h) <;> (try (exfalso; first | omega | contradiction))) | (refine And.intro (rng64 (by omega) (by omega)) ?_) | (refine And.intro ⟨by omega, by omega⟩ ?_) | (refine And.intro ⟨by omega, by omega, by omega⟩ ?_) | (intro _)))
        refine Or.inr (Or.inl (Exists.intro [] (Exists.intro _ (Exists.intro _ (Exists.intro _ (Exists.intro _ (Exists.intro _ (Exists.intro [(1000, 1000)] (And.intro (hV) ?_)))))))))
        refine (And.intro rfl (And.intro rfl (And.intro rfl (And.intro rfl (And.intro rfl ?_)))))
        (repeat' (first | (refine And.intro (fun h => ?_) (fun h => ?_) <;> (try simp [-List.getD_eq_getElem?_getD, -Int.pred_toNat] at h) <;> (try (exfalso; first | omega | contradiction))) | (refine And.intro (rng64 (by omega) (by omega)) ?_) | (refine And.intro ⟨by omega, by omega⟩ ?_) | (refine And.intro ⟨by omega, by omega, by omega⟩ ?_) | (intro _)))
        refine Exists.intro [] (And.intro rfl ?_)
        (repeat' (first | exact trivial | exact Or.inl rfl | exact Or.inr (Or.inl ⟨rfl, _, rfl⟩) | exact Or.inr (Or.inr (Or.inr ⟨_, _, _, rfl, rfl⟩)) | refine And.intro ?_ ?_))
  · have hw : wrd ts b = false := by simpa using hw
    rw [if_neg (by rw [hw]; decide)] at hL
    rw [if_pos hw]
    simp only at hL
    have hM := s_mark s ts b 4 (plc s ts b) hts (by omega) hfr
    refine Or.inr (Or.inl (Exists.intro [] (Exists.intro _ (Exists.intro _ (Exists.intro _ (Exists.intro _ (Exists.intro _ (Exists.intro [(1000, 1000)] (And.intro (hL) ?_)))))))))
    refine (And.intro rfl (And.intro rfl (And.intro rfl (And.intro rfl (And.intro rfl ?_)))))
    rw [hid] at hM
    refine Or.inr (Or.inl (Exists.intro [] (Exists.intro _ (Exists.intro _ (Exists.intro _ (Exists.intro _ (Exists.intro _ (Exists.intro [(1000, 1000)] (And.intro (hM) ?_)))))))))
    refine (And.intro rfl (And.intro rfl (And.intro rfl (And.intro rfl (And.intro rfl ?_)))))
    (repeat' (first | (refine And.intro (fun h => ?_) (fun h => ?_) <;> (try simp [-List.getD_eq_getElem?_getD, -Int.pred_toNat] at h) <;> (try (exfalso; first | omega | contradiction))) | (refine And.intro (rng64 (by omega) (by omega)) ?_) | (refine And.intro ⟨by omega, by omega⟩ ?_) | (refine And.intro ⟨by omega, by omega, by omega⟩ ?_) | (intro _)))
    refine Exists.intro [] (And.intro rfl ?_)
    (repeat' (first | exact trivial | exact Or.inl rfl | exact Or.inr (Or.inl ⟨rfl, _, rfl⟩) | exact Or.inr (Or.inr (Or.inr ⟨_, _, _, rfl, rfl⟩)) | refine And.intro ?_ ?_))
theorem s_entry (s : Str) (ts : List Token) (n : Nat) (d : Int) (a : Nat) (hts : ts.length ≤ 1000000) (ha : a ≤ ts.length) (hn : n ≤ 400000) (hfr : ∀ t ∈ ts, t.kind = 6 → 0 ≤ t.fr ∧ t.fr < s.length) (hv : ∀ c ≤ ts.length, a + 2 ≤ c → CSpec Try.prog 59 [.pt 1000 0, .i .i64 d] [(1000, [.s s, .rd .token ts, .i .i64 (c : Int), .i .i64 0, .i .i64 0])] (.agg (enc .node (valP s ts n d c).1)) [(1000, [.s s, .rd .token ts, .i .i64 ((valP s ts n d c).2.1 : Int), .i .i64 (valP s ts n d c).2.2.1, .i .i64 (valP s ts n d c).2.2.2])]) : CSpec Try.prog 93 [.pt 1000 0, .i .i64 d] [(1000, [.s s, .rd .token ts, .i .i64 (a : Int), .i .i64 0, .i .i64 0])] (rawN (entP s ts (n + 1) d a).1) [(1000, [.s s, .rd .token ts, .i .i64 ((entP s ts (n + 1) d a).2.1 : Int), .i .i64 (entP s ts (n + 1) d a).2.2.1, .i .i64 (entP s ts (n + 1) d a).2.2.2])] :=
  cspec_of_vc Γ_good Try.func93 rfl Try.call93 Try.results93 Try.ntmps93 (Nat.le_of_ble_eq_true rfl) (Nat.le_of_ble_eq_true rfl) (by rfl) (w_entry s ts n d a hts ha hn hfr hv)
theorem rawN_le (n : SX.Node) : ∃ cs, rawN n = .agg cs ∧ AVles cs (enc .node n) := by
  unfold rawN
  cases hk : n.kids with
  | nil =>
    refine ⟨_, rfl, .inl rfl, .inl rfl, .inl rfl, .inr ⟨rfl, .node, ?_⟩, trivial⟩
    rw [hk]
  | cons x r => exact ⟨_, rfl, .inl rfl, .inl rfl, .inl rfl, .inl rfl, trivial⟩
theorem s_entryE (s : Str) (ts : List Token) (n : Nat) (d : Int) (a : Nat) (hts : ts.length ≤ 1000000) (ha : a ≤ ts.length) (hn : n ≤ 400000) (hfr : ∀ t ∈ ts, t.kind = 6 → 0 ≤ t.fr ∧ t.fr < s.length) (hv : ∀ c ≤ ts.length, a + 2 ≤ c → CSpec Try.prog 59 [.pt 1000 0, .i .i64 d] [(1000, [.s s, .rd .token ts, .i .i64 (c : Int), .i .i64 0, .i .i64 0])] (.agg (enc .node (valP s ts n d c).1)) [(1000, [.s s, .rd .token ts, .i .i64 ((valP s ts n d c).2.1 : Int), .i .i64 (valP s ts n d c).2.2.1, .i .i64 (valP s ts n d c).2.2.2])]) :
    CSpec Try.prog 93 [.pt 1000 0, .i .i64 d] [(1000, [.s s, .rd .token ts, .i .i64 (a : Int), .i .i64 0, .i .i64 0])] (.agg (enc .node (entP s ts (n + 1) d a).1)) [(1000, [.s s, .rd .token ts, .i .i64 ((entP s ts (n + 1) d a).2.1 : Int), .i .i64 (entP s ts (n + 1) d a).2.2.1, .i .i64 (entP s ts (n + 1) d a).2.2.2])] := by
  have h := s_entry s ts n d a hts ha hn hfr hv
  obtain ⟨cs, h1, h2⟩ := rawN_le (entP s ts (n + 1) d a).1
  rw [h1] at h
  exact h.aggLe h2
end
end Go.Proofs.Ytdcdmojbkmedpaa
end
section
namespace Go.Tr
set_option linter.unusedSectionVars false
set_option linter.unusedSimpArgs false
set_option linter.unusedVariables false
open Go Go.SX Go.Tk
/-- alike: a node, what is wrong and where -/
def Vrel (s : Str) (ts : List Token) (so : List Int) (x y : SX.Node × Nat × Int × Int) : Prop :=
  x.2.2 = y.2.2 ∧ (x.2.2.1 = 0 → x.1 = y.1 ∧ At2 s ts so x.2.1 y.2.1 ∧ x.1.to = so.getD (y.2.1 - 1) 0 + 1)
/-- alike: kids, what is wrong and where -/
def Lrel (s : Str) (ts : List Token) (so : List Int) (x y : List SX.Node × Nat × Int × Int) : Prop :=
  x.2.2 = y.2.2 ∧ (x.2.2.1 = 0 → x.1 = y.1 ∧ so.getD (y.2.1 - 1) 0 = (x.2.1 : Int) ∧ At2 s ts so (x.2.1 + 1) y.2.1)
theorem Vrel.bad {s : Str} {ts : List Token} {so : List Int} {x y : SX.Node × Nat × Int × Int} (h : x.2.2 = y.2.2) (h2 : x.2.2.1 ≠ 0) : Vrel s ts so x y := ⟨h, fun h3 => absurd h3 h2⟩
theorem Lrel.bad {s : Str} {ts : List Token} {so : List Int} {x y : List SX.Node × Nat × Int × Int} (h : x.2.2 = y.2.2) (h2 : x.2.2.1 ≠ 0) : Lrel s ts so x y := ⟨h, fun h3 => absurd h3 h2⟩
theorem n4 : (4 : Int) ≠ 0 := by decide
theorem n5 : (5 : Int) ≠ 0 := by decide
theorem sim_n {s : Str} {ts : List Token} {so : List Int} (hx : NoX s ts) : ∀ (n : Nat) (d : Int) (a i : Nat), d ≤ 20 → At2 s ts so a i →
    Vrel s ts so (valP s ts n d a) (valD s ts so n d i) ∧ (∀ (ent : Bool) (e : Int), e = 125 ∨ e = 93 → Lrel s ts so (lopP s ts n d ent e a) (lopD s ts so n d ent e i)) ∧ Vrel s ts so (entP s ts n d a) (entD s ts so n d i)
  | 0, d, a, i, hd, hA => by
    rw [valP, valD, entP, entD]
    exact ⟨.bad rfl n4, fun ent e _ => by rw [lopP, lopD]; exact .bad rfl n4, .bad rfl n4⟩
  | n + 1, d, a, i, hd, hA => by
    have hp := hA.plac
    have hsk := hA.skip
    refine ⟨?_, fun ent e he => ?_, ?_⟩
    · rw [valP, valD]
      have h1 := hA.sees hx (e := 123) (by decide) (by decide) (by decide)
      have h2 := hA.sees hx (e := 91) (by decide) (by decide) (by decide)
      have h3 := hA.word hx
      obtain ⟨b, hb⟩ : ∃ b, b = sk ts a := ⟨_, rfl⟩
      obtain ⟨M, hM⟩ : ∃ M, M = mkB s ts b := ⟨_, rfl⟩
      obtain ⟨c, hc⟩ : ∃ c, c = seesD s ts so i := ⟨_, rfl⟩
      simp only [← hb, ← hM, ← hc] at h1 h2 h3 hp hsk ⊢
      by_cases g1 : M = 123
      · have c1 : c = 123 := by rw [h1]; exact g1
        have hlt : b < ts.length := mk_lt (s := s) (by rw [← hM, g1]; decide)
        rcases hsk with ⟨_, q1, q2, q3, _⟩ | ⟨q, _⟩
        · by_cases hd20 : 20 ≤ d
          · rw [if_pos ⟨Or.inl g1, hd20⟩, if_neg (by omega), if_pos (by omega), hp]
            exact .bad rfl n5
          · rw [if_neg (by omega), if_pos g1, if_neg (by omega), if_neg (by omega), if_neg (by omega), if_neg (by omega)]
            obtain ⟨r1, r2⟩ := (sim_n hx n (d + 1) (b + 1) (i + 1) (by omega) q3).2.1 true 125 (Or.inl rfl)
            generalize lopP s ts n (d + 1) true 125 (b + 1) = x at r1 r2
            generalize lopD s ts so n (d + 1) true 125 (i + 1) = y at r1 r2
            refine ⟨r1, fun h => ?_⟩
            obtain ⟨k1, k2, k3⟩ := r2 h
            have hy : y.2.2.1 = 0 := by rw [← r1]; exact h
            rw [if_pos hy]
            refine ⟨?_, k3, by rw [k2]⟩
            unfold ndD
            rw [k2, q2, k1]
        · exact absurd hlt q
      · by_cases g2 : M = 91
        · have c1 : c = 91 := by rw [h2]; exact g2
          have hlt : b < ts.length := mk_lt (s := s) (by rw [← hM, g2]; decide)
          rcases hsk with ⟨_, q1, q2, q3, _⟩ | ⟨q, _⟩
          · by_cases hd20 : 20 ≤ d
            · rw [if_pos ⟨Or.inr (Or.inl g2), hd20⟩, if_neg (by omega), if_pos (by omega), hp]
              exact .bad rfl n5
            · rw [if_neg (by omega), if_neg g1, if_pos g2, if_neg (by omega), if_neg (by omega), if_neg (by omega), if_pos c1]
              obtain ⟨r1, r2⟩ := (sim_n hx n (d + 1) (b + 1) (i + 1) (by omega) q3).2.1 false 93 (Or.inr rfl)
              generalize lopP s ts n (d + 1) false 93 (b + 1) = x at r1 r2
              generalize lopD s ts so n (d + 1) false 93 (i + 1) = y at r1 r2
              refine ⟨r1, fun h => ?_⟩
              obtain ⟨k1, k2, k3⟩ := r2 h
              have hy : y.2.2.1 = 0 := by rw [← r1]; exact h
              rw [if_pos hy]
              refine ⟨?_, k3, by rw [k2]⟩
              unfold ndD
              rw [k2, q2, k1]
          · exact absurd hlt q
        · have c1 : c ≠ 123 := fun h => g1 (by rw [← h1]; exact h)
          have c2 : c ≠ 91 := fun h => g2 (by rw [← h2]; exact h)
          by_cases g3 : wrd ts b = true
          · have c3 : c = 120 := by rw [h3]; exact g3
            have hlt : b < ts.length := wrd_lt g3
            rcases hsk with ⟨_, q1, q2, q3, _⟩ | ⟨q, _⟩
            · by_cases hd20 : 20 ≤ d
              · rw [if_pos ⟨Or.inr (Or.inr g3), hd20⟩, if_neg (by omega), if_pos (by omega), hp]
                exact .bad rfl n5
              · rw [if_neg (fun h => hd20 h.2), if_neg g1, if_neg g2, if_neg (by omega), if_neg (by omega), if_pos c3]
                unfold leafP
                rw [if_pos g3]
                refine ⟨rfl, fun _ => ⟨?_, q3, ?_⟩⟩
                · unfold ndD
                  rw [Nat.add_sub_cancel, q2]
                · show (b : Int) + 1 = so.getD (i + 1 - 1) 0 + 1
                  rw [Nat.add_sub_cancel, q2]
            · exact absurd hlt q
          · have c3 : c ≠ 120 := fun h => g3 (by rw [← h3]; exact h)
            rw [if_neg (fun h => h.1.elim g1 fun h => h.elim g2 g3), if_neg g1, if_neg g2, if_pos ⟨c3, c1, c2⟩]
            unfold leafP
            rw [if_neg g3, hp]
            exact .bad rfl n4
    · rw [lopP, lopD]
      simp only
      have h1 := hA.sees hx (e := e) (by omega) (by omega) (by omega)
      obtain ⟨b, hb⟩ : ∃ b, b = sk ts a := ⟨_, rfl⟩
      obtain ⟨M, hM⟩ : ∃ M, M = mkB s ts b := ⟨_, rfl⟩
      simp only [← hb, ← hM] at h1 hp hsk ⊢
      have hA2 : At2 s ts so b i := ⟨by rw [hA.drop, soL_sk ts ts.length a (by omega), soL_sk ts ts.length b (by omega), hb, sk_idem]⟩
      by_cases g1 : M = e
      · have hlt : b < ts.length := mk_lt (s := s) (by rw [← hM, g1]; omega)
        rw [if_pos g1, if_pos (h1.mpr g1)]
        rcases hsk with ⟨_, q1, q2, q3, _⟩ | ⟨q, _⟩
        · exact ⟨rfl, fun _ => ⟨rfl, by simp only; rw [Nat.add_sub_cancel, q2], q3⟩⟩
        · exact absurd hlt q
      · rw [if_neg g1, if_neg (fun h => g1 (h1.mp h))]
        have hK : Vrel s ts so (if ent = true then entP s ts n d b else valP s ts n d b) (if ent = true then entD s ts so n d i else valD s ts so n d i) := by
          obtain ⟨k1, _, k3⟩ := sim_n hx n d b i hd hA2
          split
          · exact k3
          · exact k1
        generalize (if ent = true then entP s ts n d b else valP s ts n d b) = x at hK
        generalize (if ent = true then entD s ts so n d i else valD s ts so n d i) = y at hK
        obtain ⟨r1, r2⟩ := hK
        by_cases hbad : x.2.2.1 ≠ 0
        · have hby : y.2.2.1 ≠ 0 := by rw [← r1]; exact hbad
          rw [if_pos hbad, if_pos hby]
          exact .bad r1 hbad
        · have hby : ¬ y.2.2.1 ≠ 0 := by rw [← r1]; exact hbad
          rw [if_neg hbad, if_neg hby]
          obtain ⟨k1, k2, _⟩ := r2 (Decidable.not_not.1 hbad)
          have f1 := k2.sees hx (e := 44) (by decide) (by decide) (by decide)
          have f2 := k2.sees hx (e := e) (by omega) (by omega) (by omega)
          have fp := k2.plac
          have fs := k2.skip
          obtain ⟨z, hz⟩ : ∃ z, z = sk ts x.2.1 := ⟨_, rfl⟩
          obtain ⟨m, hm⟩ : ∃ m, m = mkB s ts z := ⟨_, rfl⟩
          simp only [← hz, ← hm] at f1 f2 fp fs ⊢
          by_cases h44 : m = 44
          · have hlt : z < ts.length := mk_lt (s := s) (by rw [← hm, h44]; decide)
            rw [if_pos h44, if_pos (f1.mpr h44)]
            rcases fs with ⟨_, q1, q2, q3, _⟩ | ⟨q, _⟩
            · obtain ⟨l1, l2⟩ := (sim_n hx n d (z + 1) (y.2.1 + 1) hd q3).2.1 ent e he
              refine ⟨l1, fun h => ?_⟩
              obtain ⟨m1, m2, m3⟩ := l2 h
              exact ⟨by simp only; rw [k1, m1], m2, m3⟩
            · exact absurd hlt q
          · rw [if_neg h44, if_neg (fun h => h44 (f1.mp h))]
            by_cases hme : m = e
            · have hlt : z < ts.length := mk_lt (s := s) (by rw [← hm, hme]; omega)
              rw [if_pos hme, if_pos (f2.mpr hme)]
              rcases fs with ⟨_, q1, q2, q3, _⟩ | ⟨q, _⟩
              · exact ⟨rfl, fun _ => ⟨by simp only; rw [k1], by simp only; rw [Nat.add_sub_cancel, q2], q3⟩⟩
              · exact absurd hlt q
            · rw [if_neg hme, if_neg (fun h => hme (f2.mp h)), fp]
              exact .bad rfl n4
    · rw [entP, entD]
      have h3 := hA.word hx
      obtain ⟨b, hb⟩ : ∃ b, b = sk ts a := ⟨_, rfl⟩
      simp only [← hb] at h3 hp hsk ⊢
      by_cases g3 : wrd ts b = true
      · have c3 : seesD s ts so i = 120 := by rw [h3]; exact g3
        have hlt : b < ts.length := wrd_lt g3
        rcases hsk with ⟨_, q1, q2, q3, _⟩ | ⟨q, _⟩
        · have g3' : ¬ wrd ts b = false := by rw [g3]; decide
          have c3' : ¬ seesD s ts so i ≠ 120 := fun h => h c3
          rw [if_neg g3', if_neg c3']
          have f1 := q3.sees hx (e := 58) (by decide) (by decide) (by decide)
          have f2 := q3.sees hx (e := 61) (by decide) (by decide) (by decide)
          have fp := q3.plac
          have fs := q3.skip
          obtain ⟨z, hz⟩ : ∃ z, z = sk ts (b + 1) := ⟨_, rfl⟩
          obtain ⟨m, hm⟩ : ∃ m, m = mkB s ts z := ⟨_, rfl⟩
          obtain ⟨c, hc⟩ : ∃ c, c = seesD s ts so (i + 1) := ⟨_, rfl⟩
          simp only [← hz, ← hm, ← hc] at f1 f2 fp fs ⊢
          by_cases g : m ≠ 58 ∧ m ≠ 61
          · rw [if_pos g, if_pos ⟨fun h => g.1 (f1.mp h), fun h => g.2 (f2.mp h)⟩, fp]
            exact .bad rfl n4
          · have g' : ¬ (c ≠ 58 ∧ c ≠ 61) := fun h => g ⟨fun h2 => h.1 (f1.mpr h2), fun h2 => h.2 (f2.mpr h2)⟩
            have hlt2 : z < ts.length := mk_lt (s := s) (fun h0 => g ⟨by rw [hm, h0]; decide, by rw [hm, h0]; decide⟩)
            rw [if_neg g, if_neg g']
            rcases fs with ⟨_, p1, p2, p3, _⟩ | ⟨q, _⟩
            · obtain ⟨r1, r2⟩ := (sim_n hx n d (z + 1) (i + 2) hd p3).1
              generalize valP s ts n d (z + 1) = x at r1 r2
              generalize valD s ts so n d (i + 2) = y at r1 r2
              refine ⟨r1, fun h => ?_⟩
              obtain ⟨k1, k2, k3⟩ := r2 h
              have hy : y.2.2.1 = 0 := by rw [← r1]; exact h
              rw [if_pos hy]
              refine ⟨?_, k2, k3⟩
              unfold ndD
              rw [Nat.add_sub_cancel, q2, ← k1, k3]
            · exact absurd hlt2 q
        · exact absurd hlt q
      · have c3 : seesD s ts so i ≠ 120 := fun h => g3 (by rw [← h3]; exact h)
        have g3 : wrd ts b = false := by simpa using g3
        rw [if_pos g3, if_pos c3, hp]
        exact .bad rfl n4
end Go.Tr
end
section
namespace Go.Tr
set_option linter.unusedSectionVars false
set_option linter.unusedSimpArgs false
set_option linter.unusedVariables false
open Go Go.SX Go.Tk
theorem restD_n (s : Str) (ts : List Token) (so : List Int) : ∀ (n : Nat) (d : Int) (i : Nat), i ≤ so.length →
    ((valD s ts so n d i).2.1 ≤ so.length ∧ i ≤ (valD s ts so n d i).2.1 ∧ ((valD s ts so n d i).2.2.1 = 0 → i < (valD s ts so n d i).2.1 ∧ (valD s ts so n d i).2.2.2 = 0)) ∧
    (∀ (ent : Bool) (e : Int), e ≠ 0 → (lopD s ts so n d ent e i).2.1 ≤ so.length ∧ i ≤ (lopD s ts so n d ent e i).2.1 ∧ ((lopD s ts so n d ent e i).2.2.1 = 0 → i < (lopD s ts so n d ent e i).2.1 ∧ (lopD s ts so n d ent e i).2.2.2 = 0)) ∧
    ((entD s ts so n d i).2.1 ≤ so.length ∧ i ≤ (entD s ts so n d i).2.1 ∧ ((entD s ts so n d i).2.2.1 = 0 → i < (entD s ts so n d i).2.1 ∧ (entD s ts so n d i).2.2.2 = 0))
  | 0, d, i, hi => by
    rw [valD, entD]
    refine ⟨⟨hi, Nat.le_refl _, fun h => absurd h n4⟩, fun ent e he => ?_, ⟨hi, Nat.le_refl _, fun h => absurd h n4⟩⟩
    rw [lopD]
    exact ⟨hi, Nat.le_refl _, fun h => absurd h n4⟩
  | n + 1, d, i, hi => by
    refine ⟨?_, fun ent e he => ?_, ?_⟩
    · rw [valD]
      split
      · exact ⟨hi, Nat.le_refl _, fun h => absurd h n4⟩
      · rename_i hc
        split
        · exact ⟨hi, Nat.le_refl _, fun h => absurd h n5⟩
        · have hlt : i < so.length := sees_lt (s := s) (ts := ts) (fun h => hc (by rw [h]; decide))
          split
          · exact ⟨by simp only; omega, by simp only; omega, fun _ => ⟨by simp only; omega, rfl⟩⟩
          · split
            · obtain ⟨h1, h2, h3⟩ := (restD_n s ts so n (d + 1) (i + 1) (by omega)).2.1 false 93 (by decide)
              exact ⟨h1, by simp only; omega, fun h => ⟨by simp only; omega, (h3 h).2⟩⟩
            · obtain ⟨h1, h2, h3⟩ := (restD_n s ts so n (d + 1) (i + 1) (by omega)).2.1 true 125 (by decide)
              exact ⟨h1, by simp only; omega, fun h => ⟨by simp only; omega, (h3 h).2⟩⟩
    · rw [lopD]
      simp only
      split
      · rename_i h1
        have hlt : i < so.length := sees_lt (s := s) (ts := ts) (by rw [h1]; exact he)
        exact ⟨by simp only; omega, by simp only; omega, fun _ => ⟨by simp only; omega, rfl⟩⟩
      · have hx : (if ent = true then entD s ts so n d i else valD s ts so n d i).2.1 ≤ so.length ∧ i ≤ (if ent = true then entD s ts so n d i else valD s ts so n d i).2.1 ∧ ((if ent = true then entD s ts so n d i else valD s ts so n d i).2.2.1 = 0 → i < (if ent = true then entD s ts so n d i else valD s ts so n d i).2.1 ∧ (if ent = true then entD s ts so n d i else valD s ts so n d i).2.2.2 = 0) := by
          split
          · exact (restD_n s ts so n d i hi).2.2
          · exact (restD_n s ts so n d i hi).1
        generalize (if ent = true then entD s ts so n d i else valD s ts so n d i) = x at hx
        obtain ⟨h1, h2, h3⟩ := hx
        split
        · rename_i hbad
          refine ⟨?_, ?_, fun h => absurd h hbad⟩
          · simp only
            split
            · rename_i h44
              have hlt : x.2.1 < so.length := sees_lt (s := s) (ts := ts) (by rw [h44]; decide)
              omega
            · exact h1
          · simp only
            split <;> omega
        · rename_i hbad
          obtain ⟨h4, h5⟩ := h3 (Decidable.not_not.1 hbad)
          split
          · rename_i h44
            have hlt : x.2.1 < so.length := sees_lt (s := s) (ts := ts) (by rw [h44]; decide)
            obtain ⟨k1, k2, k3⟩ := (restD_n s ts so n d (x.2.1 + 1) (by omega)).2.1 ent e he
            exact ⟨k1, by simp only; omega, fun h => ⟨by simp only; omega, (k3 h).2⟩⟩
          · split
            · rename_i hme
              have hlt : x.2.1 < so.length := sees_lt (s := s) (ts := ts) (by rw [hme]; exact he)
              exact ⟨by simp only; omega, by simp only; omega, fun _ => ⟨by simp only; omega, rfl⟩⟩
            · exact ⟨h1, h2, fun h => absurd h n4⟩
    · rw [entD]
      split
      · exact ⟨hi, Nat.le_refl _, fun h => absurd h n4⟩
      · rename_i hc
        have hlt : i < so.length := sees_lt (s := s) (ts := ts) (fun h => hc (by rw [h]; decide))
        split
        · exact ⟨by simp only; omega, by simp only; omega, fun h => absurd h n4⟩
        · rename_i hc2
          have hlt2 : i + 1 < so.length := sees_lt (s := s) (ts := ts) (fun h => hc2 (by rw [h]; decide))
          obtain ⟨h1, h2, h3⟩ := (restD_n s ts so n d (i + 2) (by omega)).1
          exact ⟨h1, by simp only; omega, fun h => ⟨by simp only; omega, (h3 h).2⟩⟩
end Go.Tr
end
section
namespace Go.Proofs.Ytdcdmojbkmedpaa
set_option linter.unusedSectionVars false
set_option linter.unusedSimpArgs false
set_option linter.unusedVariables false
open Go Go.SX Go.Tk Go.Tr
set_option maxRecDepth 100000
set_option maxHeartbeats 1000000
section
variable [G : Globs]
theorem w_entryD (s : Str) (ts : List Token) (so : List Int) (n i : Nat) (d : Int) (hso : ∀ x ∈ so, 0 ≤ x ∧ x < (ts.length : Int)) (hi : i ≤ so.length) (hl : so.length ≤ 100000) (hts : ts.length ≤ 100000) (hfr : ∀ t ∈ ts, t.kind = 6 → 0 ≤ t.fr ∧ t.fr < s.length) (hv : ∀ c ≤ so.length, c = i + 2 → CSpec Try.prog 63 [.pt 1000 0, .i .i64 d] [(1000, [.s s, .rd .token ts, .rd .int so, .i .i64 (c : Int), .i .i64 0, .i .i64 0])] (.agg (enc .node (valD s ts so n d c).1)) [(1000, [.s s, .rd .token ts, .rd .int so, .i .i64 ((valD s ts so n d c).2.1 : Int), .i .i64 (valD s ts so n d c).2.2.1, .i .i64 (valD s ts so n d c).2.2.2])]) : vc Try.prog Γ 62 [0, 1, 4, 5, 6, 7, 8, 15, 36, 54, 1000] (Try.f100.body.getD .skip) (postBK Γ [.cell 4 50] (rawN (entD s ts so (n + 1) d i).1) [(1000, [.s s, .rd .token ts, .rd .int so, .i .i64 ((entD s ts so (n + 1) d i).2.1 : Int), .i .i64 (entD s ts so (n + 1) d i).2.2.1, .i .i64 (entD s ts so (n + 1) d i).2.2.2])]) ⟨argSlots 0 [.pt 1000 0, .i .i64 d], [(1000, [.s s, .rd .token ts, .rd .int so, .i .i64 (i : Int), .i .i64 0, .i .i64 0])]⟩ := by
  obtain ⟨R, hR⟩ : ∃ R, R = entD s ts so (n + 1) d i := ⟨_, rfl⟩
  rw [← hR]
  rw [entD] at hR
  have hS := s_sees s ts so i 0 0 hso hi hl hfr
  refine Or.inr (Or.inl (Exists.intro [] (Exists.intro _ (Exists.intro _ (Exists.intro _ (Exists.intro _ (Exists.intro _ (Exists.intro [(1000, 1000)] (And.intro (hS) ?_)))))))))
  refine (And.intro rfl (And.intro rfl (And.intro rfl (And.intro rfl (And.intro rfl ?_)))))
  by_cases h1 : seesD s ts so i = 120
  · have hlt : i < so.length := sees_lt (s := s) (ts := ts) (by rw [h1]; decide)
    rw [if_neg (by rw [h1]; decide)] at hR
    have hS2 := s_sees s ts so (i + 1) 0 0 hso (by omega) hl hfr
    have hN := s_nodeN s ts so (i + 1) i 2 0 0 hso (by omega) (by omega) hlt hl hts
    rw [Nat.add_sub_cancel] at hN
    obtain ⟨c, hc⟩ : ∃ c, c = seesD s ts so (i + 1) := ⟨_, rfl⟩
    simp only [← hc] at hR hS2
    (repeat' (first | (refine And.intro (fun h => ?_) (fun h => ?_) <;> (try simp [-List.getD_eq_getElem?_getD, -Int.pred_toNat] at h) <;> (try (exfalso; first | omega | contradiction))) | (refine And.intro (rng64 (by omega) (by omega)) ?_) | (refine And.intro ⟨by omega, by omega⟩ ?_) | (refine And.intro ⟨by omega, by omega, by omega⟩ ?_) | (intro _)))
    refine Or.inr (Or.inl (Exists.intro [] (Exists.intro _ (Exists.intro _ (Exists.intro _ (Exists.intro _ (Exists.intro _ (Exists.intro [(1000, 1000)] (And.intro (hN) ?_)))))))))
    refine (And.intro rfl (And.intro rfl (And.intro rfl (And.intro rfl (And.intro rfl ?_)))))
    refine Or.inr (Or.inl (Exists.intro [] (Exists.intro _ (Exists.intro _ (Exists.intro _ (Exists.intro _ (Exists.intro _ (Exists.intro [(1000, 1000)] (And.intro (hS2) ?_)))))))))
    refine (And.intro rfl (And.intro rfl (And.intro rfl (And.intro rfl (And.intro rfl ?_)))))
    by_cases hm : c ≠ 58 ∧ c ≠ 61
    · rw [if_pos hm] at hR
      have hF := s_fault s ts so (i + 1) 0 0 4 hso (by omega) hl
      rw [if_neg (by decide), if_neg (by decide)] at hF
      obtain ⟨m1, m2⟩ := hm
      (repeat' (first | (refine And.intro (fun h => ?_) (fun h => ?_) <;> (try simp [-List.getD_eq_getElem?_getD, -Int.pred_toNat] at h) <;> (try (exfalso; first | omega | contradiction))) | (refine And.intro (rng64 (by omega) (by omega)) ?_) | (refine And.intro ⟨by omega, by omega⟩ ?_) | (refine And.intro ⟨by omega, by omega, by omega⟩ ?_) | (intro _)))
      refine Or.inr (Or.inl (Exists.intro [] (Exists.intro _ (Exists.intro _ (Exists.intro _ (Exists.intro _ (Exists.intro _ (Exists.intro [(1000, 1000)] (And.intro (hF) ?_)))))))))
      refine (And.intro rfl (And.intro rfl (And.intro rfl (And.intro rfl (And.intro rfl ?_)))))
      rw [hR]
      (repeat' (first | (refine And.intro (fun h => ?_) (fun h => ?_) <;> (try simp [-List.getD_eq_getElem?_getD, -Int.pred_toNat] at h) <;> (try (exfalso; first | omega | contradiction))) | (refine And.intro (rng64 (by omega) (by omega)) ?_) | (refine And.intro ⟨by omega, by omega⟩ ?_) | (refine And.intro ⟨by omega, by omega, by omega⟩ ?_) | (intro _)))
      refine Exists.intro [] (And.intro rfl ?_)
      (repeat' (first | exact trivial | exact Or.inl rfl | exact Or.inr (Or.inl ⟨rfl, _, rfl⟩) | exact Or.inr (Or.inr (Or.inr ⟨_, _, _, rfl, rfl⟩)) | refine And.intro ?_ ?_))
    · rw [if_neg hm] at hR
      have hlt2 : i + 1 < so.length := sees_lt (s := s) (ts := ts) (fun h => hm (by rw [hc, h]; decide))
      have hV := hv (i + 2) (by omega) rfl
      obtain ⟨g1, g2, g3⟩ := (restD_n s ts so n d (i + 2) (by omega)).1
      generalize valD s ts so n d (i + 2) = x at hV g1 g2 g3 hR
      obtain ⟨⟨xk, xf, xt, xs⟩, xr, xb, xw⟩ := x
      simp only at g1 g2 g3 hR
      have hm2 : c = 58 ∨ c = 61 := by omega
      by_cases hxb : xb = 0
      · obtain ⟨g4, hxw⟩ := g3 hxb
        subst hxb hxw
        rw [if_pos rfl] at hR
        have hN2 := s_nodeV s ts so xr i 4 0 0 [⟨2, so.getD i 0, so.getD i 0 + 1, []⟩, ⟨xk, xf, xt, xs⟩] hso (by omega) (by omega) hlt hl hts
        rcases hm2 with hm2 | hm2
        · (repeat' (first | (refine And.intro (fun h => ?_) (fun h => ?_) <;> (try simp [-List.getD_eq_getElem?_getD, -Int.pred_toNat] at h) <;> (try (exfalso; first | omega | contradiction))) | (refine And.intro (rng64 (by omega) (by omega)) ?_) | (refine And.intro ⟨by omega, by omega⟩ ?_) | (refine And.intro ⟨by omega, by omega, by omega⟩ ?_) | (intro _)))
          refine Or.inr (Or.inl (Exists.intro [] (Exists.intro _ (Exists.intro _ (Exists.intro _ (Exists.intro _ (Exists.intro _ (Exists.intro [(1000, 1000)] (And.intro (hV) ?_)))))))))
          refine (And.intro rfl (And.intro rfl (And.intro rfl (And.intro rfl (And.intro rfl ?_)))))
          (repeat' (first | (refine And.intro (fun h => ?_) (fun h => ?_) <;> (try simp [-List.getD_eq_getElem?_getD, -Int.pred_toNat] at h) <;> (try (exfalso; first | omega | contradiction))) | (refine And.intro (rng64 (by omega) (by omega)) ?_) | (refine And.intro ⟨by omega, by omega⟩ ?_) | (refine And.intro ⟨by omega, by omega, by omega⟩ ?_) | (intro _)))
          refine Or.inr (Or.inl (Exists.intro [] (Exists.intro _ (Exists.intro _ (Exists.intro _ (Exists.intro _ (Exists.intro _ (Exists.intro [(1000, 1000), (1001, 60)] (And.intro (hN2) ?_)))))))))
          refine (And.intro rfl (And.intro rfl (And.intro rfl (And.intro rfl (And.intro rfl ?_)))))
          rw [hR]
          refine Exists.intro [] (And.intro rfl ?_)
          (repeat' (first | exact trivial | exact Or.inl rfl | exact Or.inr (Or.inl ⟨rfl, _, rfl⟩) | exact Or.inr (Or.inr (Or.inr ⟨_, _, _, rfl, rfl⟩)) | refine And.intro ?_ ?_))
        · (repeat' (first | (refine And.intro (fun h => ?_) (fun h => ?_) <;> (try simp [-List.getD_eq_getElem?_getD, -Int.pred_toNat] at h) <;> (try (exfalso; first | omega | contradiction))) | (refine And.intro (rng64 (by omega) (by omega)) ?_) | (refine And.intro ⟨by omega, by omega⟩ ?_) | (refine And.intro ⟨by omega, by omega, by omega⟩ ?_) | (intro _)))
          refine Or.inr (Or.inl (Exists.intro [] (Exists.intro _ (Exists.intro _ (Exists.intro _ (Exists.intro _ (Exists.intro _ (Exists.intro [(1000, 1000)] (And.intro (hV) ?_)))))))))
          refine (And.intro rfl (And.intro rfl (And.intro rfl (And.intro rfl (And.intro rfl ?_)))))
          (repeat' (first | (refine And.intro (fun h => ?_) (fun h => ?_) <;> (try simp [-List.getD_eq_getElem?_getD, -Int.pred_toNat] at h) <;> (try (exfalso; first | omega | contradiction))) | (refine And.intro (rng64 (by omega) (by omega)) ?_) | (refine And.intro ⟨by omega, by omega⟩ ?_) | (refine And.intro ⟨by omega, by omega, by omega⟩ ?_) | (intro _)))
          refine Or.inr (Or.inl (Exists.intro [] (Exists.intro _ (Exists.intro _ (Exists.intro _ (Exists.intro _ (Exists.intro _ (Exists.intro [(1000, 1000), (1001, 60)] (And.intro (hN2) ?_)))))))))
          refine (And.intro rfl (And.intro rfl (And.intro rfl (And.intro rfl (And.intro rfl ?_)))))
          rw [hR]
          refine Exists.intro [] (And.intro rfl ?_)
          (repeat' (first | exact trivial | exact Or.inl rfl | exact Or.inr (Or.inl ⟨rfl, _, rfl⟩) | exact Or.inr (Or.inr (Or.inr ⟨_, _, _, rfl, rfl⟩)) | refine And.intro ?_ ?_))
      · rw [if_neg hxb] at hR
        rcases hm2 with hm2 | hm2
        · (repeat' (first | (refine And.intro (fun h => ?_) (fun h => ?_) <;> (try simp [-List.getD_eq_getElem?_getD, -Int.pred_toNat] at h) <;> (try (exfalso; first | omega | contradiction))) | (refine And.intro (rng64 (by omega) (by omega)) ?_) | (refine And.intro ⟨by omega, by omega⟩ ?_) | (refine And.intro ⟨by omega, by omega, by omega⟩ ?_) | (intro _)))
          refine Or.inr (Or.inl (Exists.intro [] (Exists.intro _ (Exists.intro _ (Exists.intro _ (Exists.intro _ (Exists.intro _ (Exists.intro [(1000, 1000)] (And.intro (hV) ?_)))))))))
          refine (And.intro rfl (And.intro rfl (And.intro rfl (And.intro rfl (And.intro rfl ?_)))))
          (repeat' (first | (refine And.intro (fun h => ?_) (fun h => ?_) <;> (try simp [-List.getD_eq_getElem?_getD, -Int.pred_toNat] at h) <;> (try (exfalso; first | omega | contradiction))) | (refine And.intro (rng64 (by omega) (by omega)) ?_) | (refine And.intro ⟨by omega, by omega⟩ ?_) | (refine And.intro ⟨by omega, by omega, by omega⟩ ?_) | (intro _)))
          rw [hR]
          refine Exists.intro [] (And.intro rfl ?_)
          (repeat' (first | exact trivial | exact Or.inl rfl | exact Or.inr (Or.inl ⟨rfl, _, rfl⟩) | exact Or.inr (Or.inr (Or.inr ⟨_, _, _, rfl, rfl⟩)) | refine And.intro ?_ ?_))
        · (repeat' (first | (refine And.intro (fun h => ?_) (fun h => ?_) <;> (try simp [-List.getD_eq_getElem?_getD, -Int.pred_toNat] at h) <;> (try (exfalso; first | omega | contradiction))) | (refine And.intro (rng64 (by omega) (by omega)) ?_) | (refine And.intro ⟨by omega, by omega⟩ ?_) | (refine And.intro ⟨by omega, by omega, by omega⟩ ?_) | (intro _)))
          refine Or.inr (Or.inl (Exists.intro [] (Exists.intro _ (Exists.intro _ (Exists.intro _ (Exists.intro _ (Exists.intro _ (Exists.intro [(1000, 1000)] (And.intro (hV) ?_)))))))))
          refine (And.intro rfl (And.intro rfl (And.intro rfl (And.intro rfl (And.intro rfl ?_)))))
          (repeat' (first | (refine And.intro (fun h => ?_) (fun h => ?_) <;> (try simp [-List.getD_eq_getElem?_getD, -Int.pred_toNat] at h) <;> (try (exfalso; first | omega | contradiction))) | (refine And.intro (rng64 (by omega) (by omega)) ?_) | (refine And.intro ⟨by omega, by omega⟩ ?_) | (refine And.intro ⟨by omega, by omega, by omega⟩ ?_) | (intro _)))
          rw [hR]
          refine Exists.intro [] (And.intro rfl ?_)
          (repeat' (first | exact trivial | exact Or.inl rfl | exact Or.inr (Or.inl ⟨rfl, _, rfl⟩) | exact Or.inr (Or.inr (Or.inr ⟨_, _, _, rfl, rfl⟩)) | refine And.intro ?_ ?_))
  · rw [if_pos h1] at hR
    have hF := s_fault s ts so i 0 0 4 hso hi hl
    rw [if_neg (by decide), if_neg (by decide)] at hF
    generalize seesD s ts so i = c at h1
    (repeat' (first | (refine And.intro (fun h => ?_) (fun h => ?_) <;> (try simp [-List.getD_eq_getElem?_getD, -Int.pred_toNat] at h) <;> (try (exfalso; first | omega | contradiction))) | (refine And.intro (rng64 (by omega) (by omega)) ?_) | (refine And.intro ⟨by omega, by omega⟩ ?_) | (refine And.intro ⟨by omega, by omega, by omega⟩ ?_) | (intro _)))
    refine Or.inr (Or.inl (Exists.intro [] (Exists.intro _ (Exists.intro _ (Exists.intro _ (Exists.intro _ (Exists.intro _ (Exists.intro [(1000, 1000)] (And.intro (hF) ?_)))))))))
    refine (And.intro rfl (And.intro rfl (And.intro rfl (And.intro rfl (And.intro rfl ?_)))))
    rw [hR]
    (repeat' (first | (refine And.intro (fun h => ?_) (fun h => ?_) <;> (try simp [-List.getD_eq_getElem?_getD, -Int.pred_toNat] at h) <;> (try (exfalso; first | omega | contradiction))) | (refine And.intro (rng64 (by omega) (by omega)) ?_) | (refine And.intro ⟨by omega, by omega⟩ ?_) | (refine And.intro ⟨by omega, by omega, by omega⟩ ?_) | (intro _)))
    refine Exists.intro [] (And.intro rfl ?_)
    (repeat' (first | exact trivial | exact Or.inl rfl | exact Or.inr (Or.inl ⟨rfl, _, rfl⟩) | exact Or.inr (Or.inr (Or.inr ⟨_, _, _, rfl, rfl⟩)) | refine And.intro ?_ ?_))
theorem s_entryD (s : Str) (ts : List Token) (so : List Int) (n i : Nat) (d : Int) (hso : ∀ x ∈ so, 0 ≤ x ∧ x < (ts.length : Int)) (hi : i ≤ so.length) (hl : so.length ≤ 100000) (hts : ts.length ≤ 100000) (hfr : ∀ t ∈ ts, t.kind = 6 → 0 ≤ t.fr ∧ t.fr < s.length) (hv : ∀ c ≤ so.length, c = i + 2 → CSpec Try.prog 63 [.pt 1000 0, .i .i64 d] [(1000, [.s s, .rd .token ts, .rd .int so, .i .i64 (c : Int), .i .i64 0, .i .i64 0])] (.agg (enc .node (valD s ts so n d c).1)) [(1000, [.s s, .rd .token ts, .rd .int so, .i .i64 ((valD s ts so n d c).2.1 : Int), .i .i64 (valD s ts so n d c).2.2.1, .i .i64 (valD s ts so n d c).2.2.2])]) : CSpec Try.prog 100 [.pt 1000 0, .i .i64 d] [(1000, [.s s, .rd .token ts, .rd .int so, .i .i64 (i : Int), .i .i64 0, .i .i64 0])] (rawN (entD s ts so (n + 1) d i).1) [(1000, [.s s, .rd .token ts, .rd .int so, .i .i64 ((entD s ts so (n + 1) d i).2.1 : Int), .i .i64 (entD s ts so (n + 1) d i).2.2.1, .i .i64 (entD s ts so (n + 1) d i).2.2.2])] :=
  cspec_of_vc Γ_good Try.func100 rfl Try.call100 Try.results100 Try.ntmps100 (Nat.le_of_ble_eq_true rfl) (Nat.le_of_ble_eq_true rfl) (by rfl) (w_entryD s ts so n i d hso hi hl hts hfr hv)
theorem s_entryDE (s : Str) (ts : List Token) (so : List Int) (n i : Nat) (d : Int) (hso : ∀ x ∈ so, 0 ≤ x ∧ x < (ts.length : Int)) (hi : i ≤ so.length) (hl : so.length ≤ 100000) (hts : ts.length ≤ 100000) (hfr : ∀ t ∈ ts, t.kind = 6 → 0 ≤ t.fr ∧ t.fr < s.length) (hv : ∀ c ≤ so.length, c = i + 2 → CSpec Try.prog 63 [.pt 1000 0, .i .i64 d] [(1000, [.s s, .rd .token ts, .rd .int so, .i .i64 (c : Int), .i .i64 0, .i .i64 0])] (.agg (enc .node (valD s ts so n d c).1)) [(1000, [.s s, .rd .token ts, .rd .int so, .i .i64 ((valD s ts so n d c).2.1 : Int), .i .i64 (valD s ts so n d c).2.2.1, .i .i64 (valD s ts so n d c).2.2.2])]) :
    CSpec Try.prog 100 [.pt 1000 0, .i .i64 d] [(1000, [.s s, .rd .token ts, .rd .int so, .i .i64 (i : Int), .i .i64 0, .i .i64 0])] (.agg (enc .node (entD s ts so (n + 1) d i).1)) [(1000, [.s s, .rd .token ts, .rd .int so, .i .i64 ((entD s ts so (n + 1) d i).2.1 : Int), .i .i64 (entD s ts so (n + 1) d i).2.2.1, .i .i64 (entD s ts so (n + 1) d i).2.2.2])] := by
  have h := s_entryD s ts so n i d hso hi hl hts hfr hv
  obtain ⟨cs, h1, h2⟩ := rawN_le (entD s ts so (n + 1) d i).1
  rw [h1] at h
  exact h.aggLe h2
end
end Go.Proofs.Ytdcdmojbkmedpaa
end
section
namespace Go.Proofs.Ytdcdmojbkmedpaa
set_option linter.unusedSectionVars false
set_option linter.unusedSimpArgs false
set_option linter.unusedVariables false
open Go Go.SX
theorem rng64 {n : Int} (h1 : -9223372036854775808 ≤ n) (h2 : n ≤ 9223372036854775807) : Rng .i64 n := ⟨h1, h2⟩
theorem tmodN (c m : Nat) : (c : Int).tmod (m : Int) = ((c % m : Nat) : Int) := rfl
theorem tdivN (c m : Nat) : (c : Int).tdiv (m : Int) = ((c / m : Nat) : Int) := rfl
theorem len_le {n : Nat} (h : n ≤ maxLen) : n ≤ 9223372036854775807 := by unfold maxLen at h; omega
/-- what a loop's condition tells -/
theorem ltD {i n : Nat} (h : decide ((i : Int) < (n : Int)) = true) : i < n := by have := of_decide_eq_true h; omega
theorem geD {i n : Nat} (hi : i ≤ n) (h : decide ((i : Int) < (n : Int)) = false) : i = n := by have := of_decide_eq_false h; omega
theorem getI {τ : Ty} {l : List (den τ)} {i : Nat} (h : i < l.length) : l.getD (Int.toNat (i : Int)) (dflt τ) = l[i] := by rw [Int.toNat_natCast, List.getD_eq_getElem?_getD, List.getElem?_eq_getElem h]; rfl
theorem take_snoc {α : Type} {l : List α} {i : Nat} (h : i < l.length) : l.take (i + 1) = l.take i ++ [l[i]] := by rw [List.take_add_one, List.getElem?_eq_getElem h]; rfl
section
variable [G : Globs]
/-- a nil slice for an empty one -/
theorem pspec_le {P : Program} {f : FuncId} {args args' : List AV} {r : AV} (h : PSpec P f args r) (hle : AVles args' args) : PSpec P f args' r :=
  ⟨h.1, fun O w vs hO hG hargs => h.2 O w vs hO hG (all_le hargs hle)⟩
end
end Go.Proofs.Ytdcdmojbkmedpaa
end
section
namespace Go.Proofs.Ytdcdmojbkmedpaa
set_option linter.unusedSectionVars false
set_option linter.unusedSimpArgs false
set_option linter.unusedVariables false
open Go Go.SX Go.Tk Go.Tr
set_option maxRecDepth 100000
set_option maxHeartbeats 1000000
/-- a value as it is handed back -/
def rawD (s : Str) (ts : List Token) (so : List Int) (n : Nat) (d : Int) (i : Nat) : AV := if (seesD s ts so i = 123 ∨ seesD s ts so i = 91) ∧ d ≠ 20 ∧ (valD s ts so n d i).2.2.1 = 0 then .agg (enc .node (valD s ts so n d i).1) else bareN (valD s ts so n d i).1
section
variable [G : Globs]
theorem w_valueD (s : Str) (ts : List Token) (so : List Int) (n i : Nat) (d : Int) (hso : ∀ x ∈ so, 0 ≤ x ∧ x < (ts.length : Int)) (hi : i ≤ so.length) (hl : so.length ≤ 100000) (hts : ts.length ≤ 100000) (hn : n ≤ 1000000) (hneed : 2 * (so.length - i) ≤ n) (hd : 0 ≤ d ∧ d ≤ 20) (hfr : ∀ t ∈ ts, t.kind = 6 → 0 ≤ t.fr ∧ t.fr < s.length) (hv : ∀ m < n, ∀ c ≤ so.length, 2 * (so.length - c) + 1 ≤ m → d < 20 → CSpec Try.prog 63 [.pt 1000 0, .i .i64 (d + 1)] [(1000, [.s s, .rd .token ts, .rd .int so, .i .i64 (c : Int), .i .i64 0, .i .i64 0])] (.agg (enc .node (valD s ts so m (d + 1) c).1)) [(1000, [.s s, .rd .token ts, .rd .int so, .i .i64 ((valD s ts so m (d + 1) c).2.1 : Int), .i .i64 (valD s ts so m (d + 1) c).2.2.1, .i .i64 (valD s ts so m (d + 1) c).2.2.2])]) : VCs Try.prog Γ 102 [0, 1, 4, 5, 6, 7, 8, 9, 21, 26, 42, 47, 52, 56, 70, 87, 98, 1000] (Try.f63.body.getD .skip) (postBK Γ [.cell 4 50] (rawD s ts so (n + 1) d i) [(1000, [.s s, .rd .token ts, .rd .int so, .i .i64 ((valD s ts so (n + 1) d i).2.1 : Int), .i .i64 (valD s ts so (n + 1) d i).2.2.1, .i .i64 (valD s ts so (n + 1) d i).2.2.2])]) ⟨argSlots 0 [.pt 1000 0, .i .i64 d], [(1000, [.s s, .rd .token ts, .rd .int so, .i .i64 (i : Int), .i .i64 0, .i .i64 0])]⟩ := by
  unfold rawD
  obtain ⟨R, hR⟩ : ∃ R, R = valD s ts so (n + 1) d i := ⟨_, rfl⟩
  simp only [← hR]
  rw [valD] at hR
  have hS := s_sees s ts so i 0 0 hso hi hl hfr
  obtain ⟨c, hc⟩ : ∃ c, c = seesD s ts so i := ⟨_, rfl⟩
  simp only [← hc] at hR hS ⊢
  have hlt0 : c ≠ 0 → i < so.length := fun h => sees_lt (s := s) (ts := ts) (by rw [← hc]; exact h)
  refine VCs.seq (by first | exact Γ_good | exact Ctx.good_kp Γ_good _) ?_
  refine VCs.seq (by first | exact Γ_good | exact Ctx.good_kp Γ_good _) ?_
  refine Or.inr (Or.inl (Exists.intro [] (Exists.intro _ (Exists.intro _ (Exists.intro _ (Exists.intro _ (Exists.intro _ (Exists.intro [(1000, 1000)] (And.intro (hS) ?_)))))))))
  refine (And.intro rfl (And.intro rfl (And.intro rfl (And.intro rfl (And.intro rfl ?_)))))
  refine VCs.cut (by first | exact Γ_good | exact Ctx.good_kp Γ_good _) Unit (fun _ => c = 120 ∨ c = 123 ∨ c = 91) (fun _ => ⟨[(0, .pt 1000 0), (1, .i .i64 d), (4, .pt 4 0), (5, .i .u8 c)], [(1000, [.s s, .rd .token ts, .rd .int so, .i .i64 (i : Int), .i .i64 0, .i .i64 0]), (4, [.i .i64 0, .i .i64 0, .i .i64 0, .nl])]⟩) ?_ ?_
  · by_cases h1 : c ≠ 120 ∧ c ≠ 123 ∧ c ≠ 91
    · rw [if_pos h1] at hR
      rw [if_neg (by omega)]
      have hF := s_fault s ts so i 0 0 4 hso hi hl
      rw [if_neg (by decide), if_neg (by decide)] at hF
      obtain ⟨k1, k2, k3⟩ := h1
      (repeat' (first | (refine And.intro (fun h => ?_) (fun h => ?_) <;> (try simp [-List.getD_eq_getElem?_getD, -Int.pred_toNat] at h) <;> (try (exfalso; first | omega | contradiction))) | (refine And.intro (rng64 (by omega) (by omega)) ?_) | (refine And.intro ⟨by omega, by omega⟩ ?_) | (refine And.intro ⟨by omega, by omega, by omega⟩ ?_) | (intro _)))
      refine Or.inr (Or.inl (Exists.intro [] (Exists.intro _ (Exists.intro _ (Exists.intro _ (Exists.intro _ (Exists.intro _ (Exists.intro [(1000, 1000)] (And.intro (hF) ?_)))))))))
      refine (And.intro rfl (And.intro rfl (And.intro rfl (And.intro rfl (And.intro rfl ?_)))))
      rw [hR]
      (repeat' (first | (refine And.intro (fun h => ?_) (fun h => ?_) <;> (try simp [-List.getD_eq_getElem?_getD, -Int.pred_toNat] at h) <;> (try (exfalso; first | omega | contradiction))) | (refine And.intro (rng64 (by omega) (by omega)) ?_) | (refine And.intro ⟨by omega, by omega⟩ ?_) | (refine And.intro ⟨by omega, by omega, by omega⟩ ?_) | (intro _)))
      refine Exists.intro [] (And.intro rfl ?_)
      (repeat' (first | exact trivial | exact Or.inl rfl | exact Or.inr (Or.inl ⟨rfl, _, rfl⟩) | exact Or.inr (Or.inr (Or.inr ⟨_, _, _, rfl, rfl⟩)) | refine And.intro ?_ ?_))
    · have h3 : c = 120 ∨ c = 123 ∨ c = 91 := by omega
      rcases h3 with h3 | h3 | h3
      all_goals
        (repeat' (first | (refine And.intro (fun h => ?_) (fun h => ?_) <;> (try simp [-List.getD_eq_getElem?_getD, -Int.pred_toNat] at h) <;> (try (exfalso; first | omega | contradiction))) | (refine And.intro (rng64 (by omega) (by omega)) ?_) | (refine And.intro ⟨by omega, by omega⟩ ?_) | (refine And.intro ⟨by omega, by omega, by omega⟩ ?_) | (intro _)))
        refine Exists.intro () (And.intro (by omega) ?_)
        (repeat' (first | exact trivial | exact Or.inl rfl | exact Or.inr (Or.inl ⟨rfl, _, rfl⟩) | exact Or.inr (Or.inr (Or.inr ⟨_, _, _, rfl, rfl⟩)) | refine And.intro ?_ ?_))
  intro _ h1
  rw [if_neg (by omega)] at hR
  have hlt := hlt0 (by omega)
  refine VCs.cut (by first | exact Γ_good | exact Ctx.good_kp Γ_good _) Unit (fun _ => d ≠ 20) (fun _ => ⟨[(0, .pt 1000 0), (1, .i .i64 d), (4, .pt 4 0), (5, .i .u8 c)], [(1000, [.s s, .rd .token ts, .rd .int so, .i .i64 (i : Int), .i .i64 0, .i .i64 0]), (4, [.i .i64 0, .i .i64 0, .i .i64 0, .nl])]⟩) ?_ ?_
  · by_cases h20 : d = 20
    · rw [if_pos h20] at hR
      rw [if_neg (by omega)]
      have hF := s_fault s ts so i 0 0 5 hso hi hl
      rw [if_neg (by decide), if_neg (by decide)] at hF
      (repeat' (first | (refine And.intro (fun h => ?_) (fun h => ?_) <;> (try simp [-List.getD_eq_getElem?_getD, -Int.pred_toNat] at h) <;> (try (exfalso; first | omega | contradiction))) | (refine And.intro (rng64 (by omega) (by omega)) ?_) | (refine And.intro ⟨by omega, by omega⟩ ?_) | (refine And.intro ⟨by omega, by omega, by omega⟩ ?_) | (intro _)))
      refine Or.inr (Or.inl (Exists.intro [] (Exists.intro _ (Exists.intro _ (Exists.intro _ (Exists.intro _ (Exists.intro _ (Exists.intro [(1000, 1000)] (And.intro (hF) ?_)))))))))
      refine (And.intro rfl (And.intro rfl (And.intro rfl (And.intro rfl (And.intro rfl ?_)))))
      rw [hR]
      (repeat' (first | (refine And.intro (fun h => ?_) (fun h => ?_) <;> (try simp [-List.getD_eq_getElem?_getD, -Int.pred_toNat] at h) <;> (try (exfalso; first | omega | contradiction))) | (refine And.intro (rng64 (by omega) (by omega)) ?_) | (refine And.intro ⟨by omega, by omega⟩ ?_) | (refine And.intro ⟨by omega, by omega, by omega⟩ ?_) | (intro _)))
      refine Exists.intro [] (And.intro rfl ?_)
      (repeat' (first | exact trivial | exact Or.inl rfl | exact Or.inr (Or.inl ⟨rfl, _, rfl⟩) | exact Or.inr (Or.inr (Or.inr ⟨_, _, _, rfl, rfl⟩)) | refine And.intro ?_ ?_))
    · (repeat' (first | (refine And.intro (fun h => ?_) (fun h => ?_) <;> (try simp [-List.getD_eq_getElem?_getD, -Int.pred_toNat] at h) <;> (try (exfalso; first | omega | contradiction))) | (refine And.intro (rng64 (by omega) (by omega)) ?_) | (refine And.intro ⟨by omega, by omega⟩ ?_) | (refine And.intro ⟨by omega, by omega, by omega⟩ ?_) | (intro _)))
      refine Exists.intro () (And.intro h20 ?_)
      (repeat' (first | exact trivial | exact Or.inl rfl | exact Or.inr (Or.inl ⟨rfl, _, rfl⟩) | exact Or.inr (Or.inr (Or.inr ⟨_, _, _, rfl, rfl⟩)) | refine And.intro ?_ ?_))
  intro _ h20
  rw [if_neg h20] at hR
  have hN := s_nodeN s ts so (i + 1) i 1 0 0 hso (by omega) (by omega) hlt hl hts
  rw [Nat.add_sub_cancel] at hN
  refine VCs.seq (by first | exact Γ_good | exact Ctx.good_kp Γ_good _) ?_
  refine VCs.seq (by first | exact Γ_good | exact Ctx.good_kp Γ_good _) ?_
  (repeat' (first | (refine And.intro (fun h => ?_) (fun h => ?_) <;> (try simp [-List.getD_eq_getElem?_getD, -Int.pred_toNat] at h) <;> (try (exfalso; first | omega | contradiction))) | (refine And.intro (rng64 (by omega) (by omega)) ?_) | (refine And.intro ⟨by omega, by omega⟩ ?_) | (refine And.intro ⟨by omega, by omega, by omega⟩ ?_) | (intro _)))
  refine VCs.cut (by first | exact Γ_good | exact Ctx.good_kp Γ_good _) Unit (fun _ => c ≠ 120) (fun _ => ⟨[(0, .pt 1000 0), (1, .i .i64 d), (4, .pt 4 0), (5, .i .u8 c), (6, .i .i64 (i : Int))], [(1000, [.s s, .rd .token ts, .rd .int so, .i .i64 ((i + 1 : Nat) : Int), .i .i64 0, .i .i64 0]), (4, [.i .i64 0, .i .i64 0, .i .i64 0, .nl])]⟩) ?_ ?_
  · by_cases h120 : c = 120
    · rw [if_pos h120] at hR
      rw [if_neg (by omega)]
      (repeat' (first | (refine And.intro (fun h => ?_) (fun h => ?_) <;> (try simp [-List.getD_eq_getElem?_getD, -Int.pred_toNat] at h) <;> (try (exfalso; first | omega | contradiction))) | (refine And.intro (rng64 (by omega) (by omega)) ?_) | (refine And.intro ⟨by omega, by omega⟩ ?_) | (refine And.intro ⟨by omega, by omega, by omega⟩ ?_) | (intro _)))
      refine Or.inr (Or.inl (Exists.intro [] (Exists.intro _ (Exists.intro _ (Exists.intro _ (Exists.intro _ (Exists.intro _ (Exists.intro [(1000, 1000)] (And.intro (hN) ?_)))))))))
      refine (And.intro rfl (And.intro rfl (And.intro rfl (And.intro rfl (And.intro rfl ?_)))))
      rw [hR]
      unfold ndD
      rw [Nat.add_sub_cancel]
      refine Exists.intro [] (And.intro rfl ?_)
      (repeat' (first | exact trivial | exact Or.inl rfl | exact Or.inr (Or.inl ⟨rfl, _, rfl⟩) | exact Or.inr (Or.inr (Or.inr ⟨_, _, _, rfl, rfl⟩)) | refine And.intro ?_ ?_))
    · (repeat' (first | (refine And.intro (fun h => ?_) (fun h => ?_) <;> (try simp [-List.getD_eq_getElem?_getD, -Int.pred_toNat] at h) <;> (try (exfalso; first | omega | contradiction))) | (refine And.intro (rng64 (by omega) (by omega)) ?_) | (refine And.intro ⟨by omega, by omega⟩ ?_) | (refine And.intro ⟨by omega, by omega, by omega⟩ ?_) | (intro _)))
      refine Exists.intro () (And.intro h120 ?_)
      (repeat' (first | exact trivial | exact Or.inl rfl | exact Or.inr (Or.inl ⟨rfl, _, rfl⟩) | exact Or.inr (Or.inr (Or.inr ⟨_, _, _, rfl, rfl⟩)) | refine And.intro ?_ ?_))
  intro _ h120
  rw [if_neg h120] at hR
  refine VCs.seq (by first | exact Γ_good | exact Ctx.good_kp Γ_good _) ?_
  refine VCs.cut (by first | exact Γ_good | exact Ctx.good_kp Γ_good _) (Bool × Int × Int) (fun x => (x = (true, 125, 3) ∧ c = 123) ∨ (x = (false, 93, 5) ∧ c = 91)) (fun x => ⟨[(0, .pt 1000 0), (1, .i .i64 d), (4, .pt 4 0), (6, .i .i64 (i : Int)), (7, .i .u8 x.2.1), (8, .i .i64 x.2.2)], [(1000, [.s s, .rd .token ts, .rd .int so, .i .i64 ((i + 1 : Nat) : Int), .i .i64 0, .i .i64 0]), (4, [.i .i64 0, .i .i64 0, .i .i64 0, .nl])]⟩) ?_ ?_
  · by_cases h91 : c = 91
    · (repeat' (first | (refine And.intro (fun h => ?_) (fun h => ?_) <;> (try simp [-List.getD_eq_getElem?_getD, -Int.pred_toNat] at h) <;> (try (exfalso; first | omega | contradiction))) | (refine And.intro (rng64 (by omega) (by omega)) ?_) | (refine And.intro ⟨by omega, by omega⟩ ?_) | (refine And.intro ⟨by omega, by omega, by omega⟩ ?_) | (intro _)))
      refine Exists.intro (false, 93, 5) (And.intro (Or.inr ⟨rfl, h91⟩) ?_)
      (repeat' (first | exact trivial | exact Or.inl rfl | exact Or.inr (Or.inl ⟨rfl, _, rfl⟩) | exact Or.inr (Or.inr (Or.inr ⟨_, _, _, rfl, rfl⟩)) | refine And.intro ?_ ?_))
    · (repeat' (first | (refine And.intro (fun h => ?_) (fun h => ?_) <;> (try simp [-List.getD_eq_getElem?_getD, -Int.pred_toNat] at h) <;> (try (exfalso; first | omega | contradiction))) | (refine And.intro (rng64 (by omega) (by omega)) ?_) | (refine And.intro ⟨by omega, by omega⟩ ?_) | (refine And.intro ⟨by omega, by omega, by omega⟩ ?_) | (intro _)))
      refine Exists.intro (true, 125, 3) (And.intro (Or.inl ⟨rfl, by omega⟩) ?_)
      (repeat' (first | exact trivial | exact Or.inl rfl | exact Or.inr (Or.inl ⟨rfl, _, rfl⟩) | exact Or.inr (Or.inr (Or.inr ⟨_, _, _, rfl, rfl⟩)) | refine And.intro ?_ ?_))
  rintro ⟨ent, e, k⟩ hx
  simp only at hx ⊢
  obtain ⟨L, hL⟩ : ∃ L, L = lopD s ts so n (d + 1) ent e (i + 1) := ⟨_, rfl⟩
  have he : e = 125 ∨ e = 93 := by rcases hx with ⟨h, _⟩ | ⟨h, _⟩ <;> (injection h with h2 h3; injection h3 with h4 h5; omega)
  have hek : (ent = true ∧ k = 3) ∨ (ent = false ∧ k = 5) := by rcases hx with ⟨h, _⟩ | ⟨h, _⟩ <;> (injection h with h2 h3; injection h3 with h4 h5; subst h2 h5; simp)
  have hR2 : R = (if L.2.2.1 = 0 then ndD so k i L.2.1 L.1 else zeroN, L.2) := by
    rw [hR, hL]
    rcases hx with ⟨h, h2⟩ | ⟨h, h2⟩
    · injection h with h3 h4
      injection h4 with h5 h6
      subst h3 h5 h6
      rw [if_neg (by omega)]
    · injection h with h3 h4
      injection h4 with h5 h6
      subst h3 h5 h6
      rw [if_pos h2]
  have hc9 : (c = 123 ∨ c = 91) ∧ d ≠ 20 := ⟨by omega, h20⟩
  clear hR hx
  refine VCs.of_vc (by first | exact Γ_good | exact Ctx.good_kp Γ_good _) ?_
  refine Exists.intro [(9, 9, .node)] (Exists.intro [] (Exists.intro [] (Exists.intro (List SX.Node × Nat × Int × Int × Nat) (Exists.intro (fun q => (q.2.2.1 = 0 ∧ q.2.2.2.1 = 0 ∧ q.2.1 ≤ so.length ∧ i + 1 ≤ q.2.1 ∧ q.1.length ≤ q.2.1 ∧ 2 * (so.length - q.2.1) + 2 ≤ q.2.2.2.2 ∧ q.2.2.2.2 ≤ n ∧ (lopD s ts so q.2.2.2.2 (d + 1) ent e q.2.1).2 = L.2 ∧ (L.2.2.1 = 0 → q.1 ++ (lopD s ts so q.2.2.2.2 (d + 1) ent e q.2.1).1 = L.1)) ∨ (q.2.2.1 ≠ 0 ∧ q.2.1 ≤ so.length ∧ (q.2.1, q.2.2.1, q.2.2.2.1) = L.2)) (Exists.intro (fun ⟨acc, j, bad, wh, m⟩ => ⟨[(0, .pt 1000 0), (1, .i .i64 d), (4, .pt 4 0), (6, .i .i64 (i : Int)), (7, .i .u8 e), (8, .i .i64 k), (9, .vec 9 .node acc)], [(1000, [.s s, .rd .token ts, .rd .int so, .i .i64 (j : Int), .i .i64 bad, .i .i64 wh]), (4, [.i .i64 0, .i .i64 0, .i .i64 0, .nl])]⟩) (Exists.intro (fun q => q.2.2.2.2) (Exists.intro ([], i + 1, 0, 0, n) (And.intro (Or.inl ⟨rfl, rfl, by simp only; omega, Nat.le_refl _, Nat.zero_le _, by simp only; omega, Nat.le_refl _, by rw [hL], fun _ => by rw [hL]; rfl⟩) (And.intro ?_ ?_)))))))))
  · (repeat' (first | exact trivial | exact Or.inl rfl | exact Or.inr (Or.inl ⟨rfl, _, rfl⟩) | exact Or.inr (Or.inr (Or.inr ⟨_, _, _, rfl, rfl⟩)) | refine And.intro ?_ ?_))
  · rintro ⟨acc, j, bad, wh, m⟩ hI
    simp only at hI
    rcases hI with ⟨hb0, hw0, hj, hj1, hacc, hm, hmn, hI, hI1⟩ | ⟨hb, hj, hI⟩
    · subst hb0 hw0
      obtain ⟨m, rfl⟩ : ∃ k, m = k + 1 := ⟨m - 1, by omega⟩
      rw [lopD] at hI hI1
      have hS2 := s_sees s ts so j 0 0 hso hj hl hfr
      obtain ⟨c2, hc2⟩ : ∃ c2, c2 = seesD s ts so j := ⟨_, rfl⟩
      simp only [← hc2] at hI hI1 hS2
      by_cases hce : c2 = e
      · rw [if_pos hce] at hI hI1
        rw [List.append_nil] at hI1
        have hlt2 : j < so.length := sees_lt (s := s) (ts := ts) (by rw [← hc2]; omega)
        have h0 : L.2.2.1 = 0 := by rw [← hI]
        have hN2 := s_nodeV s ts so (j + 1) i k 0 0 acc hso (by omega) (by omega) hlt hl hts
        rw [h0, if_pos rfl, ← hI, ← hI1 h0] at hR2
        rw [hR2, if_pos ⟨hc9.1, hc9.2, rfl⟩]
        (repeat' (first | (refine And.intro (fun h => ?_) (fun h => ?_) <;> (try simp [-List.getD_eq_getElem?_getD, -Int.pred_toNat] at h) <;> (try (exfalso; first | omega | contradiction))) | (refine And.intro (rng64 (by omega) (by omega)) ?_) | (refine And.intro ⟨by omega, by omega⟩ ?_) | (refine And.intro ⟨by omega, by omega, by omega⟩ ?_) | (intro _)))
        refine Or.inr (Or.inl (Exists.intro [] (Exists.intro _ (Exists.intro _ (Exists.intro _ (Exists.intro _ (Exists.intro _ (Exists.intro [(1000, 1000)] (And.intro (hS2) ?_)))))))))
        refine (And.intro rfl (And.intro rfl (And.intro rfl (And.intro rfl (And.intro rfl ?_)))))
        (repeat' (first | (refine And.intro (fun h => ?_) (fun h => ?_) <;> (try simp [-List.getD_eq_getElem?_getD, -Int.pred_toNat] at h) <;> (try (exfalso; first | omega | contradiction))) | (refine And.intro (rng64 (by omega) (by omega)) ?_) | (refine And.intro ⟨by omega, by omega⟩ ?_) | (refine And.intro ⟨by omega, by omega, by omega⟩ ?_) | (intro _)))
        refine Or.inr (Or.inl (Exists.intro [] (Exists.intro _ (Exists.intro _ (Exists.intro _ (Exists.intro _ (Exists.intro _ (Exists.intro [(1000, 1000), (1001, 9)] (And.intro (hN2) ?_)))))))))
        refine (And.intro rfl (And.intro rfl (And.intro rfl (And.intro rfl (And.intro rfl ?_)))))
        refine Exists.intro [] (And.intro rfl ?_)
        (repeat' (first | exact trivial | exact Or.inl rfl | exact Or.inr (Or.inl ⟨rfl, _, rfl⟩) | exact Or.inr (Or.inr (Or.inr ⟨_, _, _, rfl, rfl⟩)) | refine And.intro ?_ ?_))
      · rw [if_neg hce] at hI hI1
        have hRX : (if ent = true then entD s ts so m (d + 1) j else valD s ts so m (d + 1) j).2.1 ≤ so.length ∧ j ≤ (if ent = true then entD s ts so m (d + 1) j else valD s ts so m (d + 1) j).2.1 ∧ ((if ent = true then entD s ts so m (d + 1) j else valD s ts so m (d + 1) j).2.2.1 = 0 → j < (if ent = true then entD s ts so m (d + 1) j else valD s ts so m (d + 1) j).2.1 ∧ (if ent = true then entD s ts so m (d + 1) j else valD s ts so m (d + 1) j).2.2.2 = 0) := by
          split
          · exact (restD_n s ts so m (d + 1) j hj).2.2
          · exact (restD_n s ts so m (d + 1) j hj).1
        rcases hek with ⟨hent, hk⟩ | ⟨hent, hk⟩
        · have hK := (by
            obtain ⟨m, rfl⟩ : ∃ k, m = k + 1 := ⟨m - 1, by omega⟩
            exact s_entryDE s ts so m j (d + 1) hso hj hl hts hfr (fun c hc hcj => hv m (by omega) c hc (by omega) (by omega)) : CSpec Try.prog 100 [.pt 1000 0, .i .i64 (d + 1)] [(1000, [.s s, .rd .token ts, .rd .int so, .i .i64 (j : Int), .i .i64 0, .i .i64 0])] (.agg (enc .node (entD s ts so m (d + 1) j).1)) [(1000, [.s s, .rd .token ts, .rd .int so, .i .i64 ((entD s ts so m (d + 1) j).2.1 : Int), .i .i64 (entD s ts so m (d + 1) j).2.2.1, .i .i64 (entD s ts so m (d + 1) j).2.2.2])])
          subst hent hk
          simp only [if_pos, if_neg, Bool.false_eq_true, if_false] at hI hI1 hRX
          generalize entD s ts so m (d + 1) j = x at hI hI1 hRX hK
          obtain ⟨⟨xk, xf, xt, xs⟩, xr, xb, xw⟩ := x
          simp only at hI hI1 hRX hK
          obtain ⟨r1, r2, r3⟩ := hRX
          have hS3 := s_sees s ts so xr xb xw hso r1 hl hfr
          have hF := s_fault s ts so xr xb xw 4 hso r1 hl
          obtain ⟨M, hM⟩ : ∃ M, M = seesD s ts so xr := ⟨_, rfl⟩
          simp only [← hM] at hI hI1 hS3
          have hal : (acc ++ [(⟨xk, xf, xt, xs⟩ : SX.Node)]).length = acc.length + 1 := by rw [List.length_append]; rfl
          (repeat' (first | (refine And.intro (fun h => ?_) (fun h => ?_) <;> (try simp [-List.getD_eq_getElem?_getD, -Int.pred_toNat] at h) <;> (try (exfalso; first | omega | contradiction))) | (refine And.intro (rng64 (by omega) (by omega)) ?_) | (refine And.intro ⟨by omega, by omega⟩ ?_) | (refine And.intro ⟨by omega, by omega, by omega⟩ ?_) | (intro _)))
          refine Or.inr (Or.inl (Exists.intro [] (Exists.intro _ (Exists.intro _ (Exists.intro _ (Exists.intro _ (Exists.intro _ (Exists.intro [(1000, 1000)] (And.intro (hS2) ?_)))))))))
          refine (And.intro rfl (And.intro rfl (And.intro rfl (And.intro rfl (And.intro rfl ?_)))))
          (repeat' (first | (refine And.intro (fun h => ?_) (fun h => ?_) <;> (try simp [-List.getD_eq_getElem?_getD, -Int.pred_toNat] at h) <;> (try (exfalso; first | omega | contradiction))) | (refine And.intro (rng64 (by omega) (by omega)) ?_) | (refine And.intro ⟨by omega, by omega⟩ ?_) | (refine And.intro ⟨by omega, by omega, by omega⟩ ?_) | (intro _)))
          refine Or.inr (Or.inl (Exists.intro [] (Exists.intro _ (Exists.intro _ (Exists.intro _ (Exists.intro _ (Exists.intro _ (Exists.intro [(1000, 1000)] (And.intro (hK) ?_)))))))))
          refine (And.intro rfl (And.intro rfl (And.intro rfl (And.intro rfl (And.intro rfl ?_)))))
          refine And.intro (show (acc.length + 1) * 48 ≤ 140737488355328 by omega) ?_
          refine Or.inr (Or.inl (Exists.intro [] (Exists.intro _ (Exists.intro _ (Exists.intro _ (Exists.intro _ (Exists.intro _ (Exists.intro [(1000, 1000)] (And.intro (hS3) ?_)))))))))
          refine (And.intro rfl (And.intro rfl (And.intro rfl (And.intro rfl (And.intro rfl ?_)))))
          by_cases hxb : xb = 0
          · obtain ⟨hpr, hxw⟩ := r3 hxb
            subst hxb hxw
            rw [if_neg (by decide)] at hI hI1
            rw [if_neg (by decide), if_neg (by decide)] at hF
            by_cases h44 : M = 44
            · rw [if_pos h44] at hI hI1
              have hlt2 : xr < so.length := sees_lt (s := s) (ts := ts) (by rw [← hM, h44]; decide)
              (repeat' (first | (refine And.intro (fun h => ?_) (fun h => ?_) <;> (try simp [-List.getD_eq_getElem?_getD, -Int.pred_toNat] at h) <;> (try (exfalso; first | omega | contradiction))) | (refine And.intro (rng64 (by omega) (by omega)) ?_) | (refine And.intro ⟨by omega, by omega⟩ ?_) | (refine And.intro ⟨by omega, by omega, by omega⟩ ?_) | (intro _)))
              refine Exists.intro [(77, 9)] (Exists.intro (acc ++ [⟨xk, xf, xt, xs⟩], xr + 1, 0, 0, m) (And.intro (Or.inl ⟨rfl, rfl, by simp only; omega, by simp only; omega, by simp only; omega, by simp only; omega, by simp only; omega, hI, fun h => by rw [← hI1 h, List.append_assoc]; rfl⟩) (And.intro ?_ ?_)))
              · (repeat' (first | exact trivial | exact Or.inl rfl | exact Or.inr (Or.inl ⟨rfl, _, rfl⟩) | exact Or.inr (Or.inr (Or.inr ⟨_, _, _, rfl, rfl⟩)) | refine And.intro ?_ ?_))
              · exact Nat.lt_succ_self m
            · rw [if_neg h44] at hI hI1
              by_cases hMe : M = e
              · rw [if_pos hMe] at hI hI1
                have hq : lopD s ts so m (d + 1) true e xr = ([], xr + 1, 0, 0) := by
                  obtain ⟨m, rfl⟩ : ∃ k, m = k + 1 := ⟨m - 1, by omega⟩
                  rw [lopD, if_pos (by rw [← hM]; exact hMe)]
                (repeat' (first | (refine And.intro (fun h => ?_) (fun h => ?_) <;> (try simp [-List.getD_eq_getElem?_getD, -Int.pred_toNat] at h) <;> (try (exfalso; first | omega | contradiction))) | (refine And.intro (rng64 (by omega) (by omega)) ?_) | (refine And.intro ⟨by omega, by omega⟩ ?_) | (refine And.intro ⟨by omega, by omega, by omega⟩ ?_) | (intro _)))
                refine Or.inr (Or.inl (Exists.intro [] (Exists.intro _ (Exists.intro _ (Exists.intro _ (Exists.intro _ (Exists.intro _ (Exists.intro [(1000, 1000)] (And.intro (hS3) ?_)))))))))
                refine (And.intro rfl (And.intro rfl (And.intro rfl (And.intro rfl (And.intro rfl ?_)))))
                (repeat' (first | (refine And.intro (fun h => ?_) (fun h => ?_) <;> (try simp [-List.getD_eq_getElem?_getD, -Int.pred_toNat] at h) <;> (try (exfalso; first | omega | contradiction))) | (refine And.intro (rng64 (by omega) (by omega)) ?_) | (refine And.intro ⟨by omega, by omega⟩ ?_) | (refine And.intro ⟨by omega, by omega, by omega⟩ ?_) | (intro _)))
                refine Exists.intro [(77, 9)] (Exists.intro (acc ++ [⟨xk, xf, xt, xs⟩], xr, 0, 0, m) (And.intro (Or.inl ⟨rfl, rfl, by simp only; omega, by simp only; omega, by simp only; omega, by simp only; omega, by simp only; omega, by simp only; rw [hq]; exact hI, fun h => by simp only; rw [hq, List.append_nil]; exact hI1 h⟩) (And.intro ?_ ?_)))
                · (repeat' (first | exact trivial | exact Or.inl rfl | exact Or.inr (Or.inl ⟨rfl, _, rfl⟩) | exact Or.inr (Or.inr (Or.inr ⟨_, _, _, rfl, rfl⟩)) | refine And.intro ?_ ?_))
                · exact Nat.lt_succ_self m
              · rw [if_neg hMe] at hI
                (repeat' (first | (refine And.intro (fun h => ?_) (fun h => ?_) <;> (try simp [-List.getD_eq_getElem?_getD, -Int.pred_toNat] at h) <;> (try (exfalso; first | omega | contradiction))) | (refine And.intro (rng64 (by omega) (by omega)) ?_) | (refine And.intro ⟨by omega, by omega⟩ ?_) | (refine And.intro ⟨by omega, by omega, by omega⟩ ?_) | (intro _)))
                refine Or.inr (Or.inl (Exists.intro [] (Exists.intro _ (Exists.intro _ (Exists.intro _ (Exists.intro _ (Exists.intro _ (Exists.intro [(1000, 1000)] (And.intro (hS3) ?_)))))))))
                refine (And.intro rfl (And.intro rfl (And.intro rfl (And.intro rfl (And.intro rfl ?_)))))
                (repeat' (first | (refine And.intro (fun h => ?_) (fun h => ?_) <;> (try simp [-List.getD_eq_getElem?_getD, -Int.pred_toNat] at h) <;> (try (exfalso; first | omega | contradiction))) | (refine And.intro (rng64 (by omega) (by omega)) ?_) | (refine And.intro ⟨by omega, by omega⟩ ?_) | (refine And.intro ⟨by omega, by omega, by omega⟩ ?_) | (intro _)))
                refine Or.inr (Or.inl (Exists.intro [] (Exists.intro _ (Exists.intro _ (Exists.intro _ (Exists.intro _ (Exists.intro _ (Exists.intro [(1000, 1000)] (And.intro (hF) ?_)))))))))
                refine (And.intro rfl (And.intro rfl (And.intro rfl (And.intro rfl (And.intro rfl ?_)))))
                refine Exists.intro [(77, 9)] (Exists.intro (acc ++ [⟨xk, xf, xt, xs⟩], xr, 4, plcD s ts so xr, 0) (And.intro (Or.inr ⟨show (4 : Int) ≠ 0 by decide, r1, hI⟩) (And.intro ?_ ?_)))
                · (repeat' (first | exact trivial | exact Or.inl rfl | exact Or.inr (Or.inl ⟨rfl, _, rfl⟩) | exact Or.inr (Or.inr (Or.inr ⟨_, _, _, rfl, rfl⟩)) | refine And.intro ?_ ?_))
                · exact Nat.succ_pos m
          · rw [if_pos hxb] at hI
            rw [if_pos hxb, if_pos hxb] at hF
            by_cases h44 : M = 44
            · rw [if_pos h44] at hI
              have hlt2 : xr < so.length := sees_lt (s := s) (ts := ts) (by rw [← hM, h44]; decide)
              (repeat' (first | (refine And.intro (fun h => ?_) (fun h => ?_) <;> (try simp [-List.getD_eq_getElem?_getD, -Int.pred_toNat] at h) <;> (try (exfalso; first | omega | contradiction))) | (refine And.intro (rng64 (by omega) (by omega)) ?_) | (refine And.intro ⟨by omega, by omega⟩ ?_) | (refine And.intro ⟨by omega, by omega, by omega⟩ ?_) | (intro _)))
              refine Exists.intro [(77, 9)] (Exists.intro (acc ++ [⟨xk, xf, xt, xs⟩], xr + 1, xb, xw, 0) (And.intro (Or.inr ⟨hxb, by simp only; omega, hI⟩) (And.intro ?_ ?_)))
              · (repeat' (first | exact trivial | exact Or.inl rfl | exact Or.inr (Or.inl ⟨rfl, _, rfl⟩) | exact Or.inr (Or.inr (Or.inr ⟨_, _, _, rfl, rfl⟩)) | refine And.intro ?_ ?_))
              · exact Nat.succ_pos m
            · rw [if_neg h44] at hI
              by_cases hMe : M = e
              · (repeat' (first | (refine And.intro (fun h => ?_) (fun h => ?_) <;> (try simp [-List.getD_eq_getElem?_getD, -Int.pred_toNat] at h) <;> (try (exfalso; first | omega | contradiction))) | (refine And.intro (rng64 (by omega) (by omega)) ?_) | (refine And.intro ⟨by omega, by omega⟩ ?_) | (refine And.intro ⟨by omega, by omega, by omega⟩ ?_) | (intro _)))
                refine Or.inr (Or.inl (Exists.intro [] (Exists.intro _ (Exists.intro _ (Exists.intro _ (Exists.intro _ (Exists.intro _ (Exists.intro [(1000, 1000)] (And.intro (hS3) ?_)))))))))
                refine (And.intro rfl (And.intro rfl (And.intro rfl (And.intro rfl (And.intro rfl ?_)))))
                (repeat' (first | (refine And.intro (fun h => ?_) (fun h => ?_) <;> (try simp [-List.getD_eq_getElem?_getD, -Int.pred_toNat] at h) <;> (try (exfalso; first | omega | contradiction))) | (refine And.intro (rng64 (by omega) (by omega)) ?_) | (refine And.intro ⟨by omega, by omega⟩ ?_) | (refine And.intro ⟨by omega, by omega, by omega⟩ ?_) | (intro _)))
                refine Exists.intro [(77, 9)] (Exists.intro (acc ++ [⟨xk, xf, xt, xs⟩], xr, xb, xw, 0) (And.intro (Or.inr ⟨hxb, r1, hI⟩) (And.intro ?_ ?_)))
                · (repeat' (first | exact trivial | exact Or.inl rfl | exact Or.inr (Or.inl ⟨rfl, _, rfl⟩) | exact Or.inr (Or.inr (Or.inr ⟨_, _, _, rfl, rfl⟩)) | refine And.intro ?_ ?_))
                · exact Nat.succ_pos m
              · (repeat' (first | (refine And.intro (fun h => ?_) (fun h => ?_) <;> (try simp [-List.getD_eq_getElem?_getD, -Int.pred_toNat] at h) <;> (try (exfalso; first | omega | contradiction))) | (refine And.intro (rng64 (by omega) (by omega)) ?_) | (refine And.intro ⟨by omega, by omega⟩ ?_) | (refine And.intro ⟨by omega, by omega, by omega⟩ ?_) | (intro _)))
                refine Or.inr (Or.inl (Exists.intro [] (Exists.intro _ (Exists.intro _ (Exists.intro _ (Exists.intro _ (Exists.intro _ (Exists.intro [(1000, 1000)] (And.intro (hS3) ?_)))))))))
                refine (And.intro rfl (And.intro rfl (And.intro rfl (And.intro rfl (And.intro rfl ?_)))))
                (repeat' (first | (refine And.intro (fun h => ?_) (fun h => ?_) <;> (try simp [-List.getD_eq_getElem?_getD, -Int.pred_toNat] at h) <;> (try (exfalso; first | omega | contradiction))) | (refine And.intro (rng64 (by omega) (by omega)) ?_) | (refine And.intro ⟨by omega, by omega⟩ ?_) | (refine And.intro ⟨by omega, by omega, by omega⟩ ?_) | (intro _)))
                refine Or.inr (Or.inl (Exists.intro [] (Exists.intro _ (Exists.intro _ (Exists.intro _ (Exists.intro _ (Exists.intro _ (Exists.intro [(1000, 1000)] (And.intro (hF) ?_)))))))))
                refine (And.intro rfl (And.intro rfl (And.intro rfl (And.intro rfl (And.intro rfl ?_)))))
                refine Exists.intro [(77, 9)] (Exists.intro (acc ++ [⟨xk, xf, xt, xs⟩], xr, xb, xw, 0) (And.intro (Or.inr ⟨hxb, r1, hI⟩) (And.intro ?_ ?_)))
                · (repeat' (first | exact trivial | exact Or.inl rfl | exact Or.inr (Or.inl ⟨rfl, _, rfl⟩) | exact Or.inr (Or.inr (Or.inr ⟨_, _, _, rfl, rfl⟩)) | refine And.intro ?_ ?_))
                · exact Nat.succ_pos m
        · have hK := hv m (by omega) j hj (by omega) (by omega)
          subst hent hk
          simp only [if_pos, if_neg, Bool.false_eq_true, if_false] at hI hI1 hRX
          generalize valD s ts so m (d + 1) j = x at hI hI1 hRX hK
          obtain ⟨⟨xk, xf, xt, xs⟩, xr, xb, xw⟩ := x
          simp only at hI hI1 hRX hK
          obtain ⟨r1, r2, r3⟩ := hRX
          have hS3 := s_sees s ts so xr xb xw hso r1 hl hfr
          have hF := s_fault s ts so xr xb xw 4 hso r1 hl
          obtain ⟨M, hM⟩ : ∃ M, M = seesD s ts so xr := ⟨_, rfl⟩
          simp only [← hM] at hI hI1 hS3
          have hal : (acc ++ [(⟨xk, xf, xt, xs⟩ : SX.Node)]).length = acc.length + 1 := by rw [List.length_append]; rfl
          (repeat' (first | (refine And.intro (fun h => ?_) (fun h => ?_) <;> (try simp [-List.getD_eq_getElem?_getD, -Int.pred_toNat] at h) <;> (try (exfalso; first | omega | contradiction))) | (refine And.intro (rng64 (by omega) (by omega)) ?_) | (refine And.intro ⟨by omega, by omega⟩ ?_) | (refine And.intro ⟨by omega, by omega, by omega⟩ ?_) | (intro _)))
          refine Or.inr (Or.inl (Exists.intro [] (Exists.intro _ (Exists.intro _ (Exists.intro _ (Exists.intro _ (Exists.intro _ (Exists.intro [(1000, 1000)] (And.intro (hS2) ?_)))))))))
          refine (And.intro rfl (And.intro rfl (And.intro rfl (And.intro rfl (And.intro rfl ?_)))))
          (repeat' (first | (refine And.intro (fun h => ?_) (fun h => ?_) <;> (try simp [-List.getD_eq_getElem?_getD, -Int.pred_toNat] at h) <;> (try (exfalso; first | omega | contradiction))) | (refine And.intro (rng64 (by omega) (by omega)) ?_) | (refine And.intro ⟨by omega, by omega⟩ ?_) | (refine And.intro ⟨by omega, by omega, by omega⟩ ?_) | (intro _)))
          refine Or.inr (Or.inl (Exists.intro [] (Exists.intro _ (Exists.intro _ (Exists.intro _ (Exists.intro _ (Exists.intro _ (Exists.intro [(1000, 1000)] (And.intro (hK) ?_)))))))))
          refine (And.intro rfl (And.intro rfl (And.intro rfl (And.intro rfl (And.intro rfl ?_)))))
          refine And.intro (show (acc.length + 1) * 48 ≤ 140737488355328 by omega) ?_
          refine Or.inr (Or.inl (Exists.intro [] (Exists.intro _ (Exists.intro _ (Exists.intro _ (Exists.intro _ (Exists.intro _ (Exists.intro [(1000, 1000)] (And.intro (hS3) ?_)))))))))
          refine (And.intro rfl (And.intro rfl (And.intro rfl (And.intro rfl (And.intro rfl ?_)))))
          by_cases hxb : xb = 0
          · obtain ⟨hpr, hxw⟩ := r3 hxb
            subst hxb hxw
            rw [if_neg (by decide)] at hI hI1
            rw [if_neg (by decide), if_neg (by decide)] at hF
            by_cases h44 : M = 44
            · rw [if_pos h44] at hI hI1
              have hlt2 : xr < so.length := sees_lt (s := s) (ts := ts) (by rw [← hM, h44]; decide)
              (repeat' (first | (refine And.intro (fun h => ?_) (fun h => ?_) <;> (try simp [-List.getD_eq_getElem?_getD, -Int.pred_toNat] at h) <;> (try (exfalso; first | omega | contradiction))) | (refine And.intro (rng64 (by omega) (by omega)) ?_) | (refine And.intro ⟨by omega, by omega⟩ ?_) | (refine And.intro ⟨by omega, by omega, by omega⟩ ?_) | (intro _)))
              refine Exists.intro [(84, 9)] (Exists.intro (acc ++ [⟨xk, xf, xt, xs⟩], xr + 1, 0, 0, m) (And.intro (Or.inl ⟨rfl, rfl, by simp only; omega, by simp only; omega, by simp only; omega, by simp only; omega, by simp only; omega, hI, fun h => by rw [← hI1 h, List.append_assoc]; rfl⟩) (And.intro ?_ ?_)))
              · (repeat' (first | exact trivial | exact Or.inl rfl | exact Or.inr (Or.inl ⟨rfl, _, rfl⟩) | exact Or.inr (Or.inr (Or.inr ⟨_, _, _, rfl, rfl⟩)) | refine And.intro ?_ ?_))
              · exact Nat.lt_succ_self m
            · rw [if_neg h44] at hI hI1
              by_cases hMe : M = e
              · rw [if_pos hMe] at hI hI1
                have hq : lopD s ts so m (d + 1) false e xr = ([], xr + 1, 0, 0) := by
                  obtain ⟨m, rfl⟩ : ∃ k, m = k + 1 := ⟨m - 1, by omega⟩
                  rw [lopD, if_pos (by rw [← hM]; exact hMe)]
                (repeat' (first | (refine And.intro (fun h => ?_) (fun h => ?_) <;> (try simp [-List.getD_eq_getElem?_getD, -Int.pred_toNat] at h) <;> (try (exfalso; first | omega | contradiction))) | (refine And.intro (rng64 (by omega) (by omega)) ?_) | (refine And.intro ⟨by omega, by omega⟩ ?_) | (refine And.intro ⟨by omega, by omega, by omega⟩ ?_) | (intro _)))
                refine Or.inr (Or.inl (Exists.intro [] (Exists.intro _ (Exists.intro _ (Exists.intro _ (Exists.intro _ (Exists.intro _ (Exists.intro [(1000, 1000)] (And.intro (hS3) ?_)))))))))
                refine (And.intro rfl (And.intro rfl (And.intro rfl (And.intro rfl (And.intro rfl ?_)))))
                (repeat' (first | (refine And.intro (fun h => ?_) (fun h => ?_) <;> (try simp [-List.getD_eq_getElem?_getD, -Int.pred_toNat] at h) <;> (try (exfalso; first | omega | contradiction))) | (refine And.intro (rng64 (by omega) (by omega)) ?_) | (refine And.intro ⟨by omega, by omega⟩ ?_) | (refine And.intro ⟨by omega, by omega, by omega⟩ ?_) | (intro _)))
                refine Exists.intro [(84, 9)] (Exists.intro (acc ++ [⟨xk, xf, xt, xs⟩], xr, 0, 0, m) (And.intro (Or.inl ⟨rfl, rfl, by simp only; omega, by simp only; omega, by simp only; omega, by simp only; omega, by simp only; omega, by simp only; rw [hq]; exact hI, fun h => by simp only; rw [hq, List.append_nil]; exact hI1 h⟩) (And.intro ?_ ?_)))
                · (repeat' (first | exact trivial | exact Or.inl rfl | exact Or.inr (Or.inl ⟨rfl, _, rfl⟩) | exact Or.inr (Or.inr (Or.inr ⟨_, _, _, rfl, rfl⟩)) | refine And.intro ?_ ?_))
                · exact Nat.lt_succ_self m
              · rw [if_neg hMe] at hI
                (repeat' (first | (refine And.intro (fun h => ?_) (fun h => ?_) <;> (try simp [-List.getD_eq_getElem?_getD, -Int.pred_toNat] at h) <;> (try (exfalso; first | omega | contradiction))) | (refine And.intro (rng64 (by omega) (by omega)) ?_) | (refine And.intro ⟨by omega, by omega⟩ ?_) | (refine And.intro ⟨by omega, by omega, by omega⟩ ?_) | (intro _)))
                refine Or.inr (Or.inl (Exists.intro [] (Exists.intro _ (Exists.intro _ (Exists.intro _ (Exists.intro _ (Exists.intro _ (Exists.intro [(1000, 1000)] (And.intro (hS3) ?_)))))))))
                refine (And.intro rfl (And.intro rfl (And.intro rfl (And.intro rfl (And.intro rfl ?_)))))
                (repeat' (first | (refine And.intro (fun h => ?_) (fun h => ?_) <;> (try simp [-List.getD_eq_getElem?_getD, -Int.pred_toNat] at h) <;> (try (exfalso; first | omega | contradiction))) | (refine And.intro (rng64 (by omega) (by omega)) ?_) | (refine And.intro ⟨by omega, by omega⟩ ?_) | (refine And.intro ⟨by omega, by omega, by omega⟩ ?_) | (intro _)))
                refine Or.inr (Or.inl (Exists.intro [] (Exists.intro _ (Exists.intro _ (Exists.intro _ (Exists.intro _ (Exists.intro _ (Exists.intro [(1000, 1000)] (And.intro (hF) ?_)))))))))
                refine (And.intro rfl (And.intro rfl (And.intro rfl (And.intro rfl (And.intro rfl ?_)))))
                refine Exists.intro [(84, 9)] (Exists.intro (acc ++ [⟨xk, xf, xt, xs⟩], xr, 4, plcD s ts so xr, 0) (And.intro (Or.inr ⟨show (4 : Int) ≠ 0 by decide, r1, hI⟩) (And.intro ?_ ?_)))
                · (repeat' (first | exact trivial | exact Or.inl rfl | exact Or.inr (Or.inl ⟨rfl, _, rfl⟩) | exact Or.inr (Or.inr (Or.inr ⟨_, _, _, rfl, rfl⟩)) | refine And.intro ?_ ?_))
                · exact Nat.succ_pos m
          · rw [if_pos hxb] at hI
            rw [if_pos hxb, if_pos hxb] at hF
            by_cases h44 : M = 44
            · rw [if_pos h44] at hI
              have hlt2 : xr < so.length := sees_lt (s := s) (ts := ts) (by rw [← hM, h44]; decide)
              (repeat' (first | (refine And.intro (fun h => ?_) (fun h => ?_) <;> (try simp [-List.getD_eq_getElem?_getD, -Int.pred_toNat] at h) <;> (try (exfalso; first | omega | contradiction))) | (refine And.intro (rng64 (by omega) (by omega)) ?_) | (refine And.intro ⟨by omega, by omega⟩ ?_) | (refine And.intro ⟨by omega, by omega, by omega⟩ ?_) | (intro _)))
              refine Exists.intro [(84, 9)] (Exists.intro (acc ++ [⟨xk, xf, xt, xs⟩], xr + 1, xb, xw, 0) (And.intro (Or.inr ⟨hxb, by simp only; omega, hI⟩) (And.intro ?_ ?_)))
              · (repeat' (first | exact trivial | exact Or.inl rfl | exact Or.inr (Or.inl ⟨rfl, _, rfl⟩) | exact Or.inr (Or.inr (Or.inr ⟨_, _, _, rfl, rfl⟩)) | refine And.intro ?_ ?_))
              · exact Nat.succ_pos m
            · rw [if_neg h44] at hI
              by_cases hMe : M = e
              · (repeat' (first | (refine And.intro (fun h => ?_) (fun h => ?_) <;> (try simp [-List.getD_eq_getElem?_getD, -Int.pred_toNat] at h) <;> (try (exfalso; first | omega | contradiction))) | (refine And.intro (rng64 (by omega) (by omega)) ?_) | (refine And.intro ⟨by omega, by omega⟩ ?_) | (refine And.intro ⟨by omega, by omega, by omega⟩ ?_) | (intro _)))
                refine Or.inr (Or.inl (Exists.intro [] (Exists.intro _ (Exists.intro _ (Exists.intro _ (Exists.intro _ (Exists.intro _ (Exists.intro [(1000, 1000)] (And.intro (hS3) ?_)))))))))
                refine (And.intro rfl (And.intro rfl (And.intro rfl (And.intro rfl (And.intro rfl ?_)))))
                (repeat' (first | (refine And.intro (fun h => ?_) (fun h => ?_) <;> (try simp [-List.getD_eq_getElem?_getD, -Int.pred_toNat] at h) <;> (try (exfalso; first | omega | contradiction))) | (refine And.intro (rng64 (by omega) (by omega)) ?_) | (refine And.intro ⟨by omega, by omega⟩ ?_) | (refine And.intro ⟨by omega, by omega, by omega⟩ ?_) | (intro _)))
                refine Exists.intro [(84, 9)] (Exists.intro (acc ++ [⟨xk, xf, xt, xs⟩], xr, xb, xw, 0) (And.intro (Or.inr ⟨hxb, r1, hI⟩) (And.intro ?_ ?_)))
                · (repeat' (first | exact trivial | exact Or.inl rfl | exact Or.inr (Or.inl ⟨rfl, _, rfl⟩) | exact Or.inr (Or.inr (Or.inr ⟨_, _, _, rfl, rfl⟩)) | refine And.intro ?_ ?_))
                · exact Nat.succ_pos m
              · (repeat' (first | (refine And.intro (fun h => ?_) (fun h => ?_) <;> (try simp [-List.getD_eq_getElem?_getD, -Int.pred_toNat] at h) <;> (try (exfalso; first | omega | contradiction))) | (refine And.intro (rng64 (by omega) (by omega)) ?_) | (refine And.intro ⟨by omega, by omega⟩ ?_) | (refine And.intro ⟨by omega, by omega, by omega⟩ ?_) | (intro _)))
                refine Or.inr (Or.inl (Exists.intro [] (Exists.intro _ (Exists.intro _ (Exists.intro _ (Exists.intro _ (Exists.intro _ (Exists.intro [(1000, 1000)] (And.intro (hS3) ?_)))))))))
                refine (And.intro rfl (And.intro rfl (And.intro rfl (And.intro rfl (And.intro rfl ?_)))))
                (repeat' (first | (refine And.intro (fun h => ?_) (fun h => ?_) <;> (try simp [-List.getD_eq_getElem?_getD, -Int.pred_toNat] at h) <;> (try (exfalso; first | omega | contradiction))) | (refine And.intro (rng64 (by omega) (by omega)) ?_) | (refine And.intro ⟨by omega, by omega⟩ ?_) | (refine And.intro ⟨by omega, by omega, by omega⟩ ?_) | (intro _)))
                refine Or.inr (Or.inl (Exists.intro [] (Exists.intro _ (Exists.intro _ (Exists.intro _ (Exists.intro _ (Exists.intro _ (Exists.intro [(1000, 1000)] (And.intro (hF) ?_)))))))))
                refine (And.intro rfl (And.intro rfl (And.intro rfl (And.intro rfl (And.intro rfl ?_)))))
                refine Exists.intro [(84, 9)] (Exists.intro (acc ++ [⟨xk, xf, xt, xs⟩], xr, xb, xw, 0) (And.intro (Or.inr ⟨hxb, r1, hI⟩) (And.intro ?_ ?_)))
                · (repeat' (first | exact trivial | exact Or.inl rfl | exact Or.inr (Or.inl ⟨rfl, _, rfl⟩) | exact Or.inr (Or.inr (Or.inr ⟨_, _, _, rfl, rfl⟩)) | refine And.intro ?_ ?_))
                · exact Nat.succ_pos m
    · have h0 : ¬ L.2.2.1 = 0 := by rw [← hI]; exact hb
      rw [if_neg h0, ← hI] at hR2
      rw [hR2, if_neg (fun h => hb h.2.2)]
      (repeat' (first | (refine And.intro (fun h => ?_) (fun h => ?_) <;> (try simp [-List.getD_eq_getElem?_getD, -Int.pred_toNat] at h) <;> (try (exfalso; first | omega | contradiction))) | (refine And.intro (rng64 (by omega) (by omega)) ?_) | (refine And.intro ⟨by omega, by omega⟩ ?_) | (refine And.intro ⟨by omega, by omega, by omega⟩ ?_) | (intro _)))
      refine Exists.intro [] (And.intro rfl ?_)
      (repeat' (first | exact trivial | exact Or.inl rfl | exact Or.inr (Or.inl ⟨rfl, _, rfl⟩) | exact Or.inr (Or.inr (Or.inr ⟨_, _, _, rfl, rfl⟩)) | refine And.intro ?_ ?_))
theorem s_valueD (s : Str) (ts : List Token) (so : List Int) (n i : Nat) (d : Int) (hso : ∀ x ∈ so, 0 ≤ x ∧ x < (ts.length : Int)) (hi : i ≤ so.length) (hl : so.length ≤ 100000) (hts : ts.length ≤ 100000) (hn : n ≤ 1000000) (hneed : 2 * (so.length - i) ≤ n) (hd : 0 ≤ d ∧ d ≤ 20) (hfr : ∀ t ∈ ts, t.kind = 6 → 0 ≤ t.fr ∧ t.fr < s.length) (hv : ∀ m < n, ∀ c ≤ so.length, 2 * (so.length - c) + 1 ≤ m → d < 20 → CSpec Try.prog 63 [.pt 1000 0, .i .i64 (d + 1)] [(1000, [.s s, .rd .token ts, .rd .int so, .i .i64 (c : Int), .i .i64 0, .i .i64 0])] (.agg (enc .node (valD s ts so m (d + 1) c).1)) [(1000, [.s s, .rd .token ts, .rd .int so, .i .i64 ((valD s ts so m (d + 1) c).2.1 : Int), .i .i64 (valD s ts so m (d + 1) c).2.2.1, .i .i64 (valD s ts so m (d + 1) c).2.2.2])]) : CSpec Try.prog 63 [.pt 1000 0, .i .i64 d] [(1000, [.s s, .rd .token ts, .rd .int so, .i .i64 (i : Int), .i .i64 0, .i .i64 0])] (rawD s ts so (n + 1) d i) [(1000, [.s s, .rd .token ts, .rd .int so, .i .i64 ((valD s ts so (n + 1) d i).2.1 : Int), .i .i64 (valD s ts so (n + 1) d i).2.2.1, .i .i64 (valD s ts so (n + 1) d i).2.2.2])] :=
  cspec_of_VCs Γ_good Try.func63 rfl Try.call63 Try.results63 Try.ntmps63 (Nat.le_of_ble_eq_true rfl) (Nat.le_of_ble_eq_true rfl) (by rfl) (w_valueD s ts so n i d hso hi hl hts hn hneed hd hfr hv)
end
end Go.Proofs.Ytdcdmojbkmedpaa
end
section
namespace Go.Proofs.Ytdcdmojbkmedpaa
set_option linter.unusedSectionVars false
set_option linter.unusedSimpArgs false
set_option linter.unusedVariables false
open Go Go.SX Go.Tk Go.Tr
set_option maxRecDepth 100000
set_option maxHeartbeats 1000000
section
variable [G : Globs]
theorem w_clE (s : Str) (ts : List Token) (d : Int) (a : Nat) (x : SX.Node × Nat × Int × Int) (hd : 0 ≤ d ∧ d ≤ 100) (he : CSpec Try.prog 93 [.pt 1000 0, .i .i64 (d + 1)] [(1000, [.s s, .rd .token ts, .i .i64 (a : Int), .i .i64 0, .i .i64 0])] (.agg (enc .node x.1)) [(1000, [.s s, .rd .token ts, .i .i64 (x.2.1 : Int), .i .i64 x.2.2.1, .i .i64 x.2.2.2])]) : vc Try.prog Γ 7 [0, 1, 2, 1000, 1001, 1002] (Try.f92.body.getD .skip) (postBK Γ [.cell 2 50] (.agg (enc .node x.1)) [(1000, [.s s, .rd .token ts, .i .i64 (x.2.1 : Int), .i .i64 x.2.2.1, .i .i64 x.2.2.2]), (1001, [.pt 1000 0]), (1002, [.i .i64 d])]) ⟨argSlots 0 [.pt 1001 0, .pt 1002 0], [(1000, [.s s, .rd .token ts, .i .i64 (a : Int), .i .i64 0, .i .i64 0]), (1001, [.pt 1000 0]), (1002, [.i .i64 d])]⟩ := by
  (repeat' (first | (refine And.intro (fun h => ?_) (fun h => ?_) <;> (try simp [-List.getD_eq_getElem?_getD, -Int.pred_toNat] at h) <;> (try (exfalso; first | omega | contradiction))) | (refine And.intro (rng64 (by omega) (by omega)) ?_) | (refine And.intro ⟨by omega, by omega⟩ ?_) | (refine And.intro ⟨by omega, by omega, by omega⟩ ?_) | (intro _)))
  refine Or.inr (Or.inl (Exists.intro [] (Exists.intro _ (Exists.intro _ (Exists.intro _ (Exists.intro _ (Exists.intro _ (Exists.intro [(1000, 1000)] (And.intro (he) ?_)))))))))
  refine (And.intro rfl (And.intro rfl (And.intro rfl (And.intro rfl (And.intro rfl ?_)))))
  (repeat' (first | (refine And.intro (fun h => ?_) (fun h => ?_) <;> (try simp [-List.getD_eq_getElem?_getD, -Int.pred_toNat] at h) <;> (try (exfalso; first | omega | contradiction))) | (refine And.intro (rng64 (by omega) (by omega)) ?_) | (refine And.intro ⟨by omega, by omega⟩ ?_) | (refine And.intro ⟨by omega, by omega, by omega⟩ ?_) | (intro _)))
  refine Exists.intro [] (And.intro rfl ?_)
  (repeat' (first | exact trivial | exact Or.inl rfl | exact Or.inr (Or.inl ⟨rfl, _, rfl⟩) | exact Or.inr (Or.inr (Or.inr ⟨_, _, _, rfl, rfl⟩)) | refine And.intro ?_ ?_))
theorem s_clE (s : Str) (ts : List Token) (d : Int) (a : Nat) (x : SX.Node × Nat × Int × Int) (hd : 0 ≤ d ∧ d ≤ 100) (he : CSpec Try.prog 93 [.pt 1000 0, .i .i64 (d + 1)] [(1000, [.s s, .rd .token ts, .i .i64 (a : Int), .i .i64 0, .i .i64 0])] (.agg (enc .node x.1)) [(1000, [.s s, .rd .token ts, .i .i64 (x.2.1 : Int), .i .i64 x.2.2.1, .i .i64 x.2.2.2])]) : CSpec Try.prog 92 [.pt 1001 0, .pt 1002 0] [(1000, [.s s, .rd .token ts, .i .i64 (a : Int), .i .i64 0, .i .i64 0]), (1001, [.pt 1000 0]), (1002, [.i .i64 d])] (.agg (enc .node x.1)) [(1000, [.s s, .rd .token ts, .i .i64 (x.2.1 : Int), .i .i64 x.2.2.1, .i .i64 x.2.2.2]), (1001, [.pt 1000 0]), (1002, [.i .i64 d])] :=
  cspec_of_vc Γ_good Try.func92 rfl Try.call92 Try.results92 Try.ntmps92 (Nat.le_of_ble_eq_true rfl) (Nat.le_of_ble_eq_true rfl) (by rfl) (w_clE s ts d a x hd he)
theorem w_clV (s : Str) (ts : List Token) (d : Int) (a : Nat) (x : SX.Node × Nat × Int × Int) (hd : 0 ≤ d ∧ d ≤ 100) (he : CSpec Try.prog 59 [.pt 1000 0, .i .i64 (d + 1)] [(1000, [.s s, .rd .token ts, .i .i64 (a : Int), .i .i64 0, .i .i64 0])] (.agg (enc .node x.1)) [(1000, [.s s, .rd .token ts, .i .i64 (x.2.1 : Int), .i .i64 x.2.2.1, .i .i64 x.2.2.2])]) : vc Try.prog Γ 7 [0, 1, 2, 1000, 1001, 1002] (Try.f94.body.getD .skip) (postBK Γ [.cell 2 50] (.agg (enc .node x.1)) [(1000, [.s s, .rd .token ts, .i .i64 (x.2.1 : Int), .i .i64 x.2.2.1, .i .i64 x.2.2.2]), (1001, [.pt 1000 0]), (1002, [.i .i64 d])]) ⟨argSlots 0 [.pt 1001 0, .pt 1002 0], [(1000, [.s s, .rd .token ts, .i .i64 (a : Int), .i .i64 0, .i .i64 0]), (1001, [.pt 1000 0]), (1002, [.i .i64 d])]⟩ := by
  (repeat' (first | (refine And.intro (fun h => ?_) (fun h => ?_) <;> (try simp [-List.getD_eq_getElem?_getD, -Int.pred_toNat] at h) <;> (try (exfalso; first | omega | contradiction))) | (refine And.intro (rng64 (by omega) (by omega)) ?_) | (refine And.intro ⟨by omega, by omega⟩ ?_) | (refine And.intro ⟨by omega, by omega, by omega⟩ ?_) | (intro _)))
  refine Or.inr (Or.inl (Exists.intro [] (Exists.intro _ (Exists.intro _ (Exists.intro _ (Exists.intro _ (Exists.intro _ (Exists.intro [(1000, 1000)] (And.intro (he) ?_)))))))))
  refine (And.intro rfl (And.intro rfl (And.intro rfl (And.intro rfl (And.intro rfl ?_)))))
  (repeat' (first | (refine And.intro (fun h => ?_) (fun h => ?_) <;> (try simp [-List.getD_eq_getElem?_getD, -Int.pred_toNat] at h) <;> (try (exfalso; first | omega | contradiction))) | (refine And.intro (rng64 (by omega) (by omega)) ?_) | (refine And.intro ⟨by omega, by omega⟩ ?_) | (refine And.intro ⟨by omega, by omega, by omega⟩ ?_) | (intro _)))
  refine Exists.intro [] (And.intro rfl ?_)
  (repeat' (first | exact trivial | exact Or.inl rfl | exact Or.inr (Or.inl ⟨rfl, _, rfl⟩) | exact Or.inr (Or.inr (Or.inr ⟨_, _, _, rfl, rfl⟩)) | refine And.intro ?_ ?_))
theorem s_clV (s : Str) (ts : List Token) (d : Int) (a : Nat) (x : SX.Node × Nat × Int × Int) (hd : 0 ≤ d ∧ d ≤ 100) (he : CSpec Try.prog 59 [.pt 1000 0, .i .i64 (d + 1)] [(1000, [.s s, .rd .token ts, .i .i64 (a : Int), .i .i64 0, .i .i64 0])] (.agg (enc .node x.1)) [(1000, [.s s, .rd .token ts, .i .i64 (x.2.1 : Int), .i .i64 x.2.2.1, .i .i64 x.2.2.2])]) : CSpec Try.prog 94 [.pt 1001 0, .pt 1002 0] [(1000, [.s s, .rd .token ts, .i .i64 (a : Int), .i .i64 0, .i .i64 0]), (1001, [.pt 1000 0]), (1002, [.i .i64 d])] (.agg (enc .node x.1)) [(1000, [.s s, .rd .token ts, .i .i64 (x.2.1 : Int), .i .i64 x.2.2.1, .i .i64 x.2.2.2]), (1001, [.pt 1000 0]), (1002, [.i .i64 d])] :=
  cspec_of_vc Γ_good Try.func94 rfl Try.call94 Try.results94 Try.ntmps94 (Nat.le_of_ble_eq_true rfl) (Nat.le_of_ble_eq_true rfl) (by rfl) (w_clV s ts d a x hd he)
/-- a kid -/
def kidP (s : Str) (ts : List Token) (ent : Bool) (m : Nat) (d : Int) (c : Nat) : SX.Node × Nat × Int × Int := if ent = true then entP s ts m d c else valP s ts m d c
theorem w_many (s : Str) (ts : List Token) (n : Nat) (d k e : Int) (a F : Nat) (ent : Bool) (dd : Int) (hts : ts.length ≤ 1000000) (ha : a < ts.length) (hn : n ≤ 4000000) (hneed : 2 * (ts.length - a) ≤ n) (he : e ≠ 0) (he2 : 0 ≤ e ∧ e ≤ 255) (he3 : e ≠ 44) (hfr : ∀ t ∈ ts, t.kind = 6 → 0 ≤ t.fr ∧ t.fr < s.length) (hk : ∀ m < n, ∀ c ≤ ts.length, 2 * (ts.length - c) + 1 ≤ m → CSpec Try.prog F [.pt 1001 0, .pt 1002 0] [(1000, [.s s, .rd .token ts, .i .i64 (c : Int), .i .i64 0, .i .i64 0]), (1001, [.pt 1000 0]), (1002, [.i .i64 dd])] (.agg (enc .node (kidP s ts ent m d c).1)) [(1000, [.s s, .rd .token ts, .i .i64 ((kidP s ts ent m d c).2.1 : Int), .i .i64 (kidP s ts ent m d c).2.2.1, .i .i64 (kidP s ts ent m d c).2.2.2]), (1001, [.pt 1000 0]), (1002, [.i .i64 dd])]) : vc Try.prog Γ 75 [0, 1, 2, 3, 8, 9, 10, 34, 50, 54, 1000, 1001, 1002] (Try.f91.body.getD .skip) (postBK Γ [.cell 8 50] (.agg [.i .i64 k, .i .i64 (a : Int), .i .i64 (((lopP s ts n d ent e (a + 1)).2.1 : Int) + 1), .rd .node (lopP s ts n d ent e (a + 1)).1]) [(1000, [.s s, .rd .token ts, .i .i64 (((lopP s ts n d ent e (a + 1)).2.1 : Int) + 1), .i .i64 (lopP s ts n d ent e (a + 1)).2.2.1, .i .i64 (lopP s ts n d ent e (a + 1)).2.2.2]), (1001, [.pt 1000 0]), (1002, [.i .i64 dd])]) ⟨argSlots 0 [.pt 1000 0, .i .i64 k, .i .u8 e, .fn F [.pt 1001 0, .pt 1002 0]], [(1000, [.s s, .rd .token ts, .i .i64 (a : Int), .i .i64 0, .i .i64 0]), (1001, [.pt 1000 0]), (1002, [.i .i64 dd])]⟩ := by
  obtain ⟨L, hL⟩ : ∃ L, L = lopP s ts n d ent e (a + 1) := ⟨_, rfl⟩
  rw [← hL]
  (repeat' (first | (refine And.intro (fun h => ?_) (fun h => ?_) <;> (try simp [-List.getD_eq_getElem?_getD, -Int.pred_toNat] at h) <;> (try (exfalso; first | omega | contradiction))) | (refine And.intro (rng64 (by omega) (by omega)) ?_) | (refine And.intro ⟨by omega, by omega⟩ ?_) | (refine And.intro ⟨by omega, by omega, by omega⟩ ?_) | (intro _)))
  refine Exists.intro [] (Exists.intro [(9, 3, 62, .node)] (Exists.intro [] (Exists.intro (List SX.Node × Nat × Int × Int × Nat) (Exists.intro (fun q => (q.2.2.1 = 0 ∧ q.2.2.2.1 = 0 ∧ q.2.1 ≤ ts.length ∧ q.1.length ≤ q.2.1 ∧ 2 * (ts.length - q.2.1) + 2 ≤ q.2.2.2.2 ∧ q.2.2.2.2 ≤ n ∧ (q.1 ++ (lopP s ts q.2.2.2.2 d ent e q.2.1).1, (lopP s ts q.2.2.2.2 d ent e q.2.1).2) = L) ∨ (q.2.2.1 ≠ 0 ∧ q.2.1 ≤ ts.length + 2 * n + 3 ∧ (q.1, sk ts q.2.1, q.2.2.1, q.2.2.2.1) = L)) (Exists.intro (fun ⟨acc, c, bad, wh, m⟩ => ⟨[(0, .pt 1000 0), (1, .i .i64 k), (2, .i .u8 e), (3, .fn F [.pt 1001 0, .pt 1002 0]), (8, .pt 8 0), (9, .pt 9 0)], [(1000, [.s s, .rd .token ts, .i .i64 (c : Int), .i .i64 bad, .i .i64 wh]), (1001, [.pt 1000 0]), (1002, [.i .i64 dd]), (8, [.i .i64 0, .i .i64 0, .i .i64 0, .nl]), (9, [.i .i64 k, .i .i64 (a : Int), .i .i64 0, .vec 62 .node acc])]⟩) (Exists.intro (fun q => q.2.2.2.2) (Exists.intro ([], a + 1, 0, 0, n) (And.intro (Or.inl ⟨rfl, rfl, by simp only; omega, Nat.zero_le _, by simp only; omega, Nat.le_refl _, by rw [hL]; rfl⟩) (And.intro ?_ ?_)))))))))
  · (repeat' (first | exact trivial | exact Or.inl rfl | exact Or.inr (Or.inl ⟨rfl, _, rfl⟩) | exact Or.inr (Or.inr (Or.inr ⟨_, _, _, rfl, rfl⟩)) | refine And.intro ?_ ?_))
  · rintro ⟨acc, c, bad, wh, m⟩ hI
    simp only at hI
    have hcb : c ≤ ts.length + 2 * n + 3 := by rcases hI with ⟨_, _, h, _⟩ | ⟨_, h, _⟩ <;> omega
    have hM := s_mark s ts c bad wh hts (by omega) hfr
    refine Or.inr (Or.inl (Exists.intro [] (Exists.intro _ (Exists.intro _ (Exists.intro _ (Exists.intro _ (Exists.intro _ (Exists.intro [(1000, 1000)] (And.intro (hM) ?_)))))))))
    refine (And.intro rfl (And.intro rfl (And.intro rfl (And.intro rfl (And.intro rfl ?_)))))
    have hsk := sk_le3 ts hcb (show ts.length ≤ ts.length + 2 * n + 3 by omega)
    rcases hI with ⟨hb0, hw0, hc, hacc, hm, hmn, hI⟩ | ⟨hb, _, hI⟩
    · subst hb0 hw0
      obtain ⟨m, rfl⟩ : ∃ k, m = k + 1 := ⟨m - 1, by omega⟩
      rw [lopP] at hI
      have hs2 := sk_le ts hc
      have hsg := sk_ge ts c
      by_cases hme : mkB s ts (sk ts c) = e
      · rw [if_pos hme, List.append_nil] at hI
        rw [← hI]
        generalize sk ts c = b at hme hsk
        generalize mkB s ts b = mk at hme
        (repeat' (first | (refine And.intro (fun h => ?_) (fun h => ?_) <;> (try simp [-List.getD_eq_getElem?_getD, -Int.pred_toNat] at h) <;> (try (exfalso; first | omega | contradiction))) | (refine And.intro (rng64 (by omega) (by omega)) ?_) | (refine And.intro ⟨by omega, by omega⟩ ?_) | (refine And.intro ⟨by omega, by omega, by omega⟩ ?_) | (intro _)))
        refine Exists.intro [] (And.intro rfl ?_)
        (repeat' (first | exact trivial | exact Or.inl rfl | exact Or.inr (Or.inl ⟨rfl, _, rfl⟩) | exact Or.inr (Or.inr (Or.inr ⟨_, _, _, rfl, rfl⟩)) | refine And.intro ?_ ?_))
      · rw [if_neg hme] at hI
        have hK := hk m (by omega) (sk ts c) hs2 (by omega)
        unfold kidP at hK
        simp only at hI
        have hmk2 : mkB s ts (sk ts c) ≠ e := hme
        generalize sk ts c = b at hme hsk hI hK hs2 hsg
        generalize mkB s ts b = mk at hme
        have hW : (if ent = true then entP s ts m d b else valP s ts m d b).2.2.1 = 0 → (if ent = true then entP s ts m d b else valP s ts m d b).2.2.2 = 0 := by
          have h1 := wh_n s ts m d b
          split
          · exact h1.2.2
          · exact h1.1
        have hR : (if ent = true then entP s ts m d b else valP s ts m d b).2.1 ≤ ts.length + 2 * m + 2 ∧ ((if ent = true then entP s ts m d b else valP s ts m d b).2.2.1 = 0 → (if ent = true then entP s ts m d b else valP s ts m d b).2.1 ≤ ts.length ∧ b < (if ent = true then entP s ts m d b else valP s ts m d b).2.1) := by
          have h1 := rest_n s ts m d b hs2
          have h2 := prog_n s ts m d b
          split
          · exact ⟨h1.2.2.1, fun h => ⟨h1.2.2.2 h, h2.2 h⟩⟩
          · exact ⟨h1.1.1, fun h => ⟨h1.1.2 h, h2.1 h⟩⟩
        generalize (if ent = true then entP s ts m d b else valP s ts m d b) = x at hI hK hR hW
        obtain ⟨⟨xk, xf, xt, xs⟩, xr, xb, xw⟩ := x
        simp only at hI hK hR hW
        (repeat' (first | (refine And.intro (fun h => ?_) (fun h => ?_) <;> (try simp [-List.getD_eq_getElem?_getD, -Int.pred_toNat] at h) <;> (try (exfalso; first | omega | contradiction))) | (refine And.intro (rng64 (by omega) (by omega)) ?_) | (refine And.intro ⟨by omega, by omega⟩ ?_) | (refine And.intro ⟨by omega, by omega, by omega⟩ ?_) | (intro _)))
        refine Exists.intro [.take 0, .take 2, .tree 3 [1, 3, 4] (.opt 1 (.opt 3 (.opt 4 .fin .non) .non) (.opt 3 (.opt 1 (.opt 4 .fin .non) (.opt 4 (.opt 1 .fin .non) .non)) .non)), .one 5, .take 6, .one 7] (And.intro (by kernel_rfl) ?_)
        refine Exists.intro ⟨[(0, .pt 1000 0), (1, .i .i64 k), (2, .i .u8 e), (3, .fn F [.pt 1001 0, .pt 1002 0]), (8, .pt 8 0), (9, .pt 9 0), (36, .vec 62 .node acc), (39, .vec 39 .node [⟨xk, xf, xt, xs⟩])], [(1000, [.s s, .rd .token ts, .i .i64 (xr : Int), .i .i64 xb, .i .i64 xw]), (1001, [.pt 1000 0]), (1002, [.i .i64 dd]), (8, [.i .i64 0, .i .i64 0, .i .i64 0, .nl]), (9, [.i .i64 k, .i .i64 (a : Int), .i .i64 0, .vec 62 .node acc])]⟩ (And.intro ?_ ?_)
        · repeat' (first | exact trivial | exact Or.inl rfl | (refine Or.inr (Or.inl (Exists.intro [] (Exists.intro _ (Exists.intro _ (Exists.intro _ (Exists.intro _ (Exists.intro _ (Exists.intro [(1000, 1000), (1001, 1001), (1002, 1002)] (And.intro hK ?_))))))))); refine (And.intro rfl (And.intro rfl (And.intro rfl (And.intro rfl ?_))))) | refine And.intro ?_ ?_)
          all_goals rfl
        refine And.intro (show (acc.length + 1) * 48 ≤ 140737488355328 by omega) ?_
        have hM2 := s_mark s ts xr xb xw hts (by omega) hfr
        have hsk2 := sk_le3 ts (show xr ≤ ts.length + 2 * m + 2 by omega) (by omega)
        have hsk3 : xb = 0 → sk ts xr ≤ ts.length := fun h => sk_le ts (hR.2 h).1
        have hsg2 := sk_ge ts xr
        have hid := sk_idem ts xr
        generalize sk ts xr = y at hI hM2 hsk2 hsk3 hsg2 hid
        have hF := s_fail s ts y xb xw 4 hts (by omega)
        unfold failW at hF
        obtain ⟨M, hM⟩ : ∃ M, M = mkB s ts y := ⟨_, rfl⟩
        rw [← hM] at hI hM2
        have hal : (acc ++ [(⟨xk, xf, xt, xs⟩ : SX.Node)]).length = acc.length + 1 := by rw [List.length_append]; rfl
        refine Or.inr (Or.inl (Exists.intro [] (Exists.intro _ (Exists.intro _ (Exists.intro _ (Exists.intro _ (Exists.intro _ (Exists.intro [(1000, 1000)] (And.intro (hM2) ?_)))))))))
        refine (And.intro rfl (And.intro rfl (And.intro rfl (And.intro rfl (And.intro rfl ?_)))))
        by_cases hxb : xb = 0
        · have hxw := hW hxb
          have hyl := hsk3 hxb
          have hpr := (hR.2 hxb).2
          subst hxb hxw
          rw [if_neg (by decide)] at hF hI
          by_cases h44 : M = 44
          · have hlt : y < ts.length := mk_lt (s := s) (by rw [← hM, h44]; decide)
            rw [if_pos h44] at hI
            (repeat' (first | (refine And.intro (fun h => ?_) (fun h => ?_) <;> (try simp [-List.getD_eq_getElem?_getD, -Int.pred_toNat] at h) <;> (try (exfalso; first | omega | contradiction))) | (refine And.intro (rng64 (by omega) (by omega)) ?_) | (refine And.intro ⟨by omega, by omega⟩ ?_) | (refine And.intro ⟨by omega, by omega, by omega⟩ ?_) | (intro _)))
            refine Exists.intro [(40, 62)] (Exists.intro (acc ++ [⟨xk, xf, xt, xs⟩], y + 1, 0, 0, m) (And.intro (Or.inl ⟨rfl, rfl, by simp only; omega, by simp only; omega, by simp only; omega, by simp only; omega, by rw [← hI, List.append_assoc]; rfl⟩) (And.intro ?_ ?_)))
            · (repeat' (first | exact trivial | exact Or.inl rfl | exact Or.inr (Or.inl ⟨rfl, _, rfl⟩) | exact Or.inr (Or.inr (Or.inr ⟨_, _, _, rfl, rfl⟩)) | refine And.intro ?_ ?_))
            · exact Nat.lt_succ_self m
          · rw [if_neg h44] at hI
            by_cases hMe : M = e
            · have hlt : y < ts.length := mk_lt (s := s) (by rw [← hM, hMe]; exact he)
              rw [if_pos hMe] at hI
              have hI2 : ((acc ++ [⟨xk, xf, xt, xs⟩]) ++ (lopP s ts m d ent e y).1, (lopP s ts m d ent e y).2) = L := by
                rw [← hI]
                obtain ⟨m, rfl⟩ : ∃ k, m = k + 1 := ⟨m - 1, by omega⟩
                rw [lopP]
                simp only
                rw [hid, ← hM, if_pos hMe, List.append_nil]
              (repeat' (first | (refine And.intro (fun h => ?_) (fun h => ?_) <;> (try simp [-List.getD_eq_getElem?_getD, -Int.pred_toNat] at h) <;> (try (exfalso; first | omega | contradiction))) | (refine And.intro (rng64 (by omega) (by omega)) ?_) | (refine And.intro ⟨by omega, by omega⟩ ?_) | (refine And.intro ⟨by omega, by omega, by omega⟩ ?_) | (intro _)))
              refine Exists.intro [(40, 62)] (Exists.intro (acc ++ [⟨xk, xf, xt, xs⟩], y, 0, 0, m) (And.intro (Or.inl ⟨rfl, rfl, by simp only; omega, by simp only; omega, by simp only; omega, by simp only; omega, hI2⟩) (And.intro ?_ ?_)))
              · (repeat' (first | exact trivial | exact Or.inl rfl | exact Or.inr (Or.inl ⟨rfl, _, rfl⟩) | exact Or.inr (Or.inr (Or.inr ⟨_, _, _, rfl, rfl⟩)) | refine And.intro ?_ ?_))
              · exact Nat.lt_succ_self m
            · rw [if_neg hMe] at hI
              (repeat' (first | (refine And.intro (fun h => ?_) (fun h => ?_) <;> (try simp [-List.getD_eq_getElem?_getD, -Int.pred_toNat] at h) <;> (try (exfalso; first | omega | contradiction))) | (refine And.intro (rng64 (by omega) (by omega)) ?_) | (refine And.intro ⟨by omega, by omega⟩ ?_) | (refine And.intro ⟨by omega, by omega, by omega⟩ ?_) | (intro _)))
              refine Or.inr (Or.inl (Exists.intro [] (Exists.intro _ (Exists.intro _ (Exists.intro _ (Exists.intro _ (Exists.intro _ (Exists.intro [(1000, 1000)] (And.intro (hF) ?_)))))))))
              refine (And.intro rfl (And.intro rfl (And.intro rfl (And.intro rfl (And.intro rfl ?_)))))
              refine Exists.intro [(40, 62)] (Exists.intro (acc ++ [⟨xk, xf, xt, xs⟩], y, 4, plc s ts y, 0) (And.intro (Or.inr ⟨show (4 : Int) ≠ 0 by decide, by simp only; omega, by simp only; rw [hid]; exact hI⟩) (And.intro ?_ ?_)))
              · (repeat' (first | exact trivial | exact Or.inl rfl | exact Or.inr (Or.inl ⟨rfl, _, rfl⟩) | exact Or.inr (Or.inr (Or.inr ⟨_, _, _, rfl, rfl⟩)) | refine And.intro ?_ ?_))
              · exact Nat.succ_pos m
        · rw [if_pos hxb] at hF hI
          by_cases h44 : M = 44
          · rw [if_pos h44] at hI
            (repeat' (first | (refine And.intro (fun h => ?_) (fun h => ?_) <;> (try simp [-List.getD_eq_getElem?_getD, -Int.pred_toNat] at h) <;> (try (exfalso; first | omega | contradiction))) | (refine And.intro (rng64 (by omega) (by omega)) ?_) | (refine And.intro ⟨by omega, by omega⟩ ?_) | (refine And.intro ⟨by omega, by omega, by omega⟩ ?_) | (intro _)))
            refine Exists.intro [(40, 62)] (Exists.intro (acc ++ [⟨xk, xf, xt, xs⟩], y + 1, xb, xw, 0) (And.intro (Or.inr ⟨hxb, by simp only; omega, hI⟩) (And.intro ?_ ?_)))
            · (repeat' (first | exact trivial | exact Or.inl rfl | exact Or.inr (Or.inl ⟨rfl, _, rfl⟩) | exact Or.inr (Or.inr (Or.inr ⟨_, _, _, rfl, rfl⟩)) | refine And.intro ?_ ?_))
            · exact Nat.succ_pos m
          · rw [if_neg h44] at hI
            by_cases hMe : M = e
            · (repeat' (first | (refine And.intro (fun h => ?_) (fun h => ?_) <;> (try simp [-List.getD_eq_getElem?_getD, -Int.pred_toNat] at h) <;> (try (exfalso; first | omega | contradiction))) | (refine And.intro (rng64 (by omega) (by omega)) ?_) | (refine And.intro ⟨by omega, by omega⟩ ?_) | (refine And.intro ⟨by omega, by omega, by omega⟩ ?_) | (intro _)))
              refine Exists.intro [(40, 62)] (Exists.intro (acc ++ [⟨xk, xf, xt, xs⟩], y, xb, xw, 0) (And.intro (Or.inr ⟨hxb, by simp only; omega, hI⟩) (And.intro ?_ ?_)))
              · (repeat' (first | exact trivial | exact Or.inl rfl | exact Or.inr (Or.inl ⟨rfl, _, rfl⟩) | exact Or.inr (Or.inr (Or.inr ⟨_, _, _, rfl, rfl⟩)) | refine And.intro ?_ ?_))
              · exact Nat.succ_pos m
            · (repeat' (first | (refine And.intro (fun h => ?_) (fun h => ?_) <;> (try simp [-List.getD_eq_getElem?_getD, -Int.pred_toNat] at h) <;> (try (exfalso; first | omega | contradiction))) | (refine And.intro (rng64 (by omega) (by omega)) ?_) | (refine And.intro ⟨by omega, by omega⟩ ?_) | (refine And.intro ⟨by omega, by omega, by omega⟩ ?_) | (intro _)))
              refine Or.inr (Or.inl (Exists.intro [] (Exists.intro _ (Exists.intro _ (Exists.intro _ (Exists.intro _ (Exists.intro _ (Exists.intro [(1000, 1000)] (And.intro (hF) ?_)))))))))
              refine (And.intro rfl (And.intro rfl (And.intro rfl (And.intro rfl (And.intro rfl ?_)))))
              refine Exists.intro [(40, 62)] (Exists.intro (acc ++ [⟨xk, xf, xt, xs⟩], y, xb, xw, 0) (And.intro (Or.inr ⟨hxb, by simp only; omega, hI⟩) (And.intro ?_ ?_)))
              · (repeat' (first | exact trivial | exact Or.inl rfl | exact Or.inr (Or.inl ⟨rfl, _, rfl⟩) | exact Or.inr (Or.inr (Or.inr ⟨_, _, _, rfl, rfl⟩)) | refine And.intro ?_ ?_))
              · exact Nat.succ_pos m
    · rw [← hI]
      generalize sk ts c = b at hsk
      by_cases hme : mkB s ts b = e
      · generalize mkB s ts b = mk at hme
        (repeat' (first | (refine And.intro (fun h => ?_) (fun h => ?_) <;> (try simp [-List.getD_eq_getElem?_getD, -Int.pred_toNat] at h) <;> (try (exfalso; first | omega | contradiction))) | (refine And.intro (rng64 (by omega) (by omega)) ?_) | (refine And.intro ⟨by omega, by omega⟩ ?_) | (refine And.intro ⟨by omega, by omega, by omega⟩ ?_) | (intro _)))
        refine Exists.intro [] (And.intro rfl ?_)
        (repeat' (first | exact trivial | exact Or.inl rfl | exact Or.inr (Or.inl ⟨rfl, _, rfl⟩) | exact Or.inr (Or.inr (Or.inr ⟨_, _, _, rfl, rfl⟩)) | refine And.intro ?_ ?_))
      · generalize mkB s ts b = mk at hme
        (repeat' (first | (refine And.intro (fun h => ?_) (fun h => ?_) <;> (try simp [-List.getD_eq_getElem?_getD, -Int.pred_toNat] at h) <;> (try (exfalso; first | omega | contradiction))) | (refine And.intro (rng64 (by omega) (by omega)) ?_) | (refine And.intro ⟨by omega, by omega⟩ ?_) | (refine And.intro ⟨by omega, by omega, by omega⟩ ?_) | (intro _)))
        refine Exists.intro [] (And.intro rfl ?_)
        (repeat' (first | exact trivial | exact Or.inl rfl | exact Or.inr (Or.inl ⟨rfl, _, rfl⟩) | exact Or.inr (Or.inr (Or.inr ⟨_, _, _, rfl, rfl⟩)) | refine And.intro ?_ ?_))
theorem s_many (s : Str) (ts : List Token) (n : Nat) (d k e : Int) (a F : Nat) (ent : Bool) (dd : Int) (hts : ts.length ≤ 1000000) (ha : a < ts.length) (hn : n ≤ 4000000) (hneed : 2 * (ts.length - a) ≤ n) (he : e ≠ 0) (he2 : 0 ≤ e ∧ e ≤ 255) (he3 : e ≠ 44) (hfr : ∀ t ∈ ts, t.kind = 6 → 0 ≤ t.fr ∧ t.fr < s.length) (hk : ∀ m < n, ∀ c ≤ ts.length, 2 * (ts.length - c) + 1 ≤ m → CSpec Try.prog F [.pt 1001 0, .pt 1002 0] [(1000, [.s s, .rd .token ts, .i .i64 (c : Int), .i .i64 0, .i .i64 0]), (1001, [.pt 1000 0]), (1002, [.i .i64 dd])] (.agg (enc .node (kidP s ts ent m d c).1)) [(1000, [.s s, .rd .token ts, .i .i64 ((kidP s ts ent m d c).2.1 : Int), .i .i64 (kidP s ts ent m d c).2.2.1, .i .i64 (kidP s ts ent m d c).2.2.2]), (1001, [.pt 1000 0]), (1002, [.i .i64 dd])]) : CSpec Try.prog 91 [.pt 1000 0, .i .i64 k, .i .u8 e, .fn F [.pt 1001 0, .pt 1002 0]] [(1000, [.s s, .rd .token ts, .i .i64 (a : Int), .i .i64 0, .i .i64 0]), (1001, [.pt 1000 0]), (1002, [.i .i64 dd])] (.agg [.i .i64 k, .i .i64 (a : Int), .i .i64 (((lopP s ts n d ent e (a + 1)).2.1 : Int) + 1), .rd .node (lopP s ts n d ent e (a + 1)).1]) [(1000, [.s s, .rd .token ts, .i .i64 (((lopP s ts n d ent e (a + 1)).2.1 : Int) + 1), .i .i64 (lopP s ts n d ent e (a + 1)).2.2.1, .i .i64 (lopP s ts n d ent e (a + 1)).2.2.2]), (1001, [.pt 1000 0]), (1002, [.i .i64 dd])] :=
  cspec_of_vc Γ_good Try.func91 rfl Try.call91 Try.results91 Try.ntmps91 (Nat.le_of_ble_eq_true rfl) (Nat.le_of_ble_eq_true rfl) (by rfl) (w_many s ts n d k e a F ent dd hts ha hn hneed he he2 he3 hfr hk)
end
end Go.Proofs.Ytdcdmojbkmedpaa
end
section
namespace Go.Proofs.Ytdcdmojbkmedpaa
set_option linter.unusedSectionVars false
set_option linter.unusedSimpArgs false
set_option linter.unusedVariables false
open Go Go.SX Go.Tk Go.Tr
set_option maxRecDepth 100000
set_option maxHeartbeats 1000000
/-- a value as it is handed back -/
def rawV (s : Str) (ts : List Token) (n : Nat) (d : Int) (a : Nat) : AV := if (mkB s ts (sk ts a) = 123 ∨ mkB s ts (sk ts a) = 91) ∧ d < 20 then .agg (enc .node (valP s ts n d a).1) else bareN (valP s ts n d a).1
section
variable [G : Globs]
theorem w_value (s : Str) (ts : List Token) (n : Nat) (d : Int) (a : Nat) (hts : ts.length ≤ 20000) (ha : a ≤ ts.length) (hn : n ≤ 100000) (hneed : 2 * (ts.length - a) ≤ n) (hd : 0 ≤ d ∧ d ≤ 20) (hfr : ∀ t ∈ ts, t.kind = 6 → 0 ≤ t.fr ∧ t.fr < s.length) (hv : ∀ m < n, ∀ c ≤ ts.length, 2 * (ts.length - c) + 1 ≤ m → d < 20 → CSpec Try.prog 59 [.pt 1000 0, .i .i64 (d + 1)] [(1000, [.s s, .rd .token ts, .i .i64 (c : Int), .i .i64 0, .i .i64 0])] (.agg (enc .node (valP s ts m (d + 1) c).1)) [(1000, [.s s, .rd .token ts, .i .i64 ((valP s ts m (d + 1) c).2.1 : Int), .i .i64 (valP s ts m (d + 1) c).2.2.1, .i .i64 (valP s ts m (d + 1) c).2.2.2])]) : vc Try.prog Γ 78 [2, 3, 4, 5, 6, 57, 65, 71, 1000] (Try.f59.body.getD .skip) (postBK Γ [.cell 4 50] (rawV s ts (n + 1) d a) [(1000, [.s s, .rd .token ts, .i .i64 ((valP s ts (n + 1) d a).2.1 : Int), .i .i64 (valP s ts (n + 1) d a).2.2.1, .i .i64 (valP s ts (n + 1) d a).2.2.2])]) ⟨argSlots 0 [.pt 1000 0, .i .i64 d], [(1000, [.s s, .rd .token ts, .i .i64 (a : Int), .i .i64 0, .i .i64 0])]⟩ := by
  unfold rawV
  obtain ⟨R, hR⟩ : ∃ R, R = valP s ts (n + 1) d a := ⟨_, rfl⟩
  rw [← hR]
  rw [valP] at hR
  have hM := s_mark s ts a 0 0 (by omega) (by omega) hfr
  have hs := sk_le ts ha
  have hsg := sk_ge ts a
  have hid := sk_idem ts a
  obtain ⟨b, hb⟩ : ∃ b, b = sk ts a := ⟨_, rfl⟩
  obtain ⟨M, hMe⟩ : ∃ M, M = mkB s ts b := ⟨_, rfl⟩
  simp only [← hb, ← hMe] at hM hs hsg hid hR ⊢
  have hgt : ts.getD (Int.toNat (b : Int)) (dflt .token) = ts.getD b default := by rw [Int.toNat_natCast]
  refine Or.inr (Or.inl (Exists.intro [] (Exists.intro _ (Exists.intro _ (Exists.intro _ (Exists.intro _ (Exists.intro _ (Exists.intro [(1000, 1000)] (And.intro (hM) ?_)))))))))
  refine (And.intro rfl (And.intro rfl (And.intro rfl (And.intro rfl (And.intro rfl ?_)))))
  refine Exists.intro [.blk [0, 1, 2, 3, 4, 5, 6, 7, 8, 9, 10, 11, 12, 13, 14, 15, 16, 17, 18, 19, 20, 21, 22, 23, 24, 25, 26, 27, 28, 29, 30, 31, 32, 33, 34, 35, 36, 37, 38, 39, 40, 41, 42, 43, 44, 45, 46]] (And.intro (by kernel_rfl) ?_)
  have hF := s_fail s ts b 0 0 5 (by omega) (by omega)
  have hFW : failW s ts b 0 0 5 = (5, plc s ts b) := if_neg (by decide)
  rw [hFW] at hF
  have hL := s_leaf s ts 1 b (by omega) (by omega)
  rw [hid] at hL
  by_cases h123 : M = 123
  · have hlt : b < ts.length := mk_lt (s := s) (by rw [← hMe, h123]; decide)
    by_cases hd20 : 20 ≤ d
    · rw [if_pos ⟨Or.inl h123, hd20⟩] at hR
      rw [if_neg (by omega)]
      (repeat' (first | (refine And.intro (fun h => ?_) (fun h => ?_) <;> (try simp [-List.getD_eq_getElem?_getD, -Int.pred_toNat] at h) <;> (try (exfalso; first | omega | contradiction))) | (refine And.intro (rng64 (by omega) (by omega)) ?_) | (refine And.intro ⟨by omega, by omega⟩ ?_) | (refine And.intro ⟨by omega, by omega, by omega⟩ ?_) | (intro _)))
      refine Or.inr (Or.inl (Exists.intro [] (Exists.intro _ (Exists.intro _ (Exists.intro _ (Exists.intro _ (Exists.intro _ (Exists.intro [(1000, 1000)] (And.intro (hF) ?_)))))))))
      refine (And.intro rfl (And.intro rfl (And.intro rfl (And.intro rfl (And.intro rfl ?_)))))
      (repeat' (first | (refine And.intro (fun h => ?_) (fun h => ?_) <;> (try simp [-List.getD_eq_getElem?_getD, -Int.pred_toNat] at h) <;> (try (exfalso; first | omega | contradiction))) | (refine And.intro (rng64 (by omega) (by omega)) ?_) | (refine And.intro ⟨by omega, by omega⟩ ?_) | (refine And.intro ⟨by omega, by omega, by omega⟩ ?_) | (intro _)))
      rw [hR]
      refine Exists.intro [] (And.intro rfl ?_)
      (repeat' (first | exact trivial | exact Or.inl rfl | exact Or.inr (Or.inl ⟨rfl, _, rfl⟩) | exact Or.inr (Or.inr (Or.inr ⟨_, _, _, rfl, rfl⟩)) | refine And.intro ?_ ?_))
    · rw [if_neg (by omega), if_pos h123] at hR
      rw [if_pos (by omega)]
      have hL2 := s_many s ts n (d + 1) 3 125 b 92 true d (by omega) hlt (by omega) (by omega) (by decide) (by decide) (by decide) hfr (fun m hm c hc hmc => by
        have h1 : kidP s ts true m (d + 1) c = entP s ts m (d + 1) c := if_pos rfl
        rw [h1]
        obtain ⟨m, rfl⟩ : ∃ k, m = k + 1 := ⟨m - 1, by omega⟩
        exact s_clE s ts d c _ (by omega) (s_entryE s ts m (d + 1) c (by omega) hc (by omega) hfr (fun c2 hc2 hc3 => hv m (by omega) c2 hc2 (by omega) (by omega))))
      generalize lopP s ts n (d + 1) true 125 (b + 1) = x at hR hL2
      (repeat' (first | (refine And.intro (fun h => ?_) (fun h => ?_) <;> (try simp [-List.getD_eq_getElem?_getD, -Int.pred_toNat] at h) <;> (try (exfalso; first | omega | contradiction))) | (refine And.intro (rng64 (by omega) (by omega)) ?_) | (refine And.intro ⟨by omega, by omega⟩ ?_) | (refine And.intro ⟨by omega, by omega, by omega⟩ ?_) | (intro _)))
      refine Or.inr (Or.inl (Exists.intro [] (Exists.intro _ (Exists.intro _ (Exists.intro _ (Exists.intro _ (Exists.intro _ (Exists.intro [(1000, 1000), (1001, 2), (1002, 3)] (And.intro (hL2) ?_)))))))))
      refine (And.intro rfl (And.intro rfl (And.intro rfl (And.intro rfl (And.intro rfl (And.intro rfl (And.intro rfl ?_)))))))
      (repeat' (first | (refine And.intro (fun h => ?_) (fun h => ?_) <;> (try simp [-List.getD_eq_getElem?_getD, -Int.pred_toNat] at h) <;> (try (exfalso; first | omega | contradiction))) | (refine And.intro (rng64 (by omega) (by omega)) ?_) | (refine And.intro ⟨by omega, by omega⟩ ?_) | (refine And.intro ⟨by omega, by omega, by omega⟩ ?_) | (intro _)))
      rw [hR]
      refine Exists.intro [] (And.intro rfl ?_)
      (repeat' (first | exact trivial | exact Or.inl rfl | exact Or.inr (Or.inl ⟨rfl, _, rfl⟩) | exact Or.inr (Or.inr (Or.inr ⟨_, _, _, rfl, rfl⟩)) | refine And.intro ?_ ?_))
  · by_cases h91 : M = 91
    · have hlt : b < ts.length := mk_lt (s := s) (by rw [← hMe, h91]; decide)
      by_cases hd20 : 20 ≤ d
      · rw [if_pos ⟨Or.inr (Or.inl h91), hd20⟩] at hR
        rw [if_neg (by omega)]
        (repeat' (first | (refine And.intro (fun h => ?_) (fun h => ?_) <;> (try simp [-List.getD_eq_getElem?_getD, -Int.pred_toNat] at h) <;> (try (exfalso; first | omega | contradiction))) | (refine And.intro (rng64 (by omega) (by omega)) ?_) | (refine And.intro ⟨by omega, by omega⟩ ?_) | (refine And.intro ⟨by omega, by omega, by omega⟩ ?_) | (intro _)))
        refine Or.inr (Or.inl (Exists.intro [] (Exists.intro _ (Exists.intro _ (Exists.intro _ (Exists.intro _ (Exists.intro _ (Exists.intro [(1000, 1000)] (And.intro (hF) ?_)))))))))
        refine (And.intro rfl (And.intro rfl (And.intro rfl (And.intro rfl (And.intro rfl ?_)))))
        (repeat' (first | (refine And.intro (fun h => ?_) (fun h => ?_) <;> (try simp [-List.getD_eq_getElem?_getD, -Int.pred_toNat] at h) <;> (try (exfalso; first | omega | contradiction))) | (refine And.intro (rng64 (by omega) (by omega)) ?_) | (refine And.intro ⟨by omega, by omega⟩ ?_) | (refine And.intro ⟨by omega, by omega, by omega⟩ ?_) | (intro _)))
        rw [hR]
        refine Exists.intro [] (And.intro rfl ?_)
        (repeat' (first | exact trivial | exact Or.inl rfl | exact Or.inr (Or.inl ⟨rfl, _, rfl⟩) | exact Or.inr (Or.inr (Or.inr ⟨_, _, _, rfl, rfl⟩)) | refine And.intro ?_ ?_))
      · rw [if_neg (by omega), if_neg h123, if_pos h91] at hR
        rw [if_pos (by omega)]
        have hL2 := s_many s ts n (d + 1) 5 93 b 94 false d (by omega) hlt (by omega) (by omega) (by decide) (by decide) (by decide) hfr (fun m hm c hc hmc => by
          have h1 : kidP s ts false m (d + 1) c = valP s ts m (d + 1) c := if_neg (by decide)
          rw [h1]
          exact s_clV s ts d c _ (by omega) (hv m (by omega) c hc (by omega) (by omega)))
        generalize lopP s ts n (d + 1) false 93 (b + 1) = x at hR hL2
        (repeat' (first | (refine And.intro (fun h => ?_) (fun h => ?_) <;> (try simp [-List.getD_eq_getElem?_getD, -Int.pred_toNat] at h) <;> (try (exfalso; first | omega | contradiction))) | (refine And.intro (rng64 (by omega) (by omega)) ?_) | (refine And.intro ⟨by omega, by omega⟩ ?_) | (refine And.intro ⟨by omega, by omega, by omega⟩ ?_) | (intro _)))
        refine Or.inr (Or.inl (Exists.intro [] (Exists.intro _ (Exists.intro _ (Exists.intro _ (Exists.intro _ (Exists.intro _ (Exists.intro [(1000, 1000), (1001, 2), (1002, 3)] (And.intro (hL2) ?_)))))))))
        refine (And.intro rfl (And.intro rfl (And.intro rfl (And.intro rfl (And.intro rfl (And.intro rfl (And.intro rfl ?_)))))))
        (repeat' (first | (refine And.intro (fun h => ?_) (fun h => ?_) <;> (try simp [-List.getD_eq_getElem?_getD, -Int.pred_toNat] at h) <;> (try (exfalso; first | omega | contradiction))) | (refine And.intro (rng64 (by omega) (by omega)) ?_) | (refine And.intro ⟨by omega, by omega⟩ ?_) | (refine And.intro ⟨by omega, by omega, by omega⟩ ?_) | (intro _)))
        rw [hR]
        refine Exists.intro [] (And.intro rfl ?_)
        (repeat' (first | exact trivial | exact Or.inl rfl | exact Or.inr (Or.inl ⟨rfl, _, rfl⟩) | exact Or.inr (Or.inr (Or.inr ⟨_, _, _, rfl, rfl⟩)) | refine And.intro ?_ ?_))
    · rw [if_neg (fun h => h.1.elim h123 h91)]
      by_cases hw : wrd ts b = true
      · have hlt := wrd_lt hw
        have hw2 := (of_decide_eq_true hw).2
        have hw3 : (ts.getD (Int.toNat (b : Int)) (dflt .token)).kind = 4 ∨ (ts.getD (Int.toNat (b : Int)) (dflt .token)).kind = 5 := by rw [hgt]; exact hw2
        by_cases hd20 : 20 ≤ d
        · rw [if_pos ⟨Or.inr (Or.inr hw), hd20⟩] at hR
          rcases hw3 with hw3 | hw3
          · (repeat' (first | (refine And.intro (fun h => ?_) (fun h => ?_) <;> (try simp [-List.getD_eq_getElem?_getD, -Int.pred_toNat] at h) <;> (try (exfalso; first | omega | contradiction))) | (refine And.intro (rng64 (by omega) (by omega)) ?_) | (refine And.intro ⟨by omega, by omega⟩ ?_) | (refine And.intro ⟨by omega, by omega, by omega⟩ ?_) | (intro _)))
            refine Or.inr (Or.inl (Exists.intro [] (Exists.intro _ (Exists.intro _ (Exists.intro _ (Exists.intro _ (Exists.intro _ (Exists.intro [(1000, 1000)] (And.intro (hF) ?_)))))))))
            refine (And.intro rfl (And.intro rfl (And.intro rfl (And.intro rfl (And.intro rfl ?_)))))
            (repeat' (first | (refine And.intro (fun h => ?_) (fun h => ?_) <;> (try simp [-List.getD_eq_getElem?_getD, -Int.pred_toNat] at h) <;> (try (exfalso; first | omega | contradiction))) | (refine And.intro (rng64 (by omega) (by omega)) ?_) | (refine And.intro ⟨by omega, by omega⟩ ?_) | (refine And.intro ⟨by omega, by omega, by omega⟩ ?_) | (intro _)))
            rw [hR]
            refine Exists.intro [] (And.intro rfl ?_)
            (repeat' (first | exact trivial | exact Or.inl rfl | exact Or.inr (Or.inl ⟨rfl, _, rfl⟩) | exact Or.inr (Or.inr (Or.inr ⟨_, _, _, rfl, rfl⟩)) | refine And.intro ?_ ?_))
          · have hk4 : ¬ (ts.getD (Int.toNat (b : Int)) (dflt .token)).kind = 4 := by omega
            (repeat' (first | (refine And.intro (fun h => ?_) (fun h => ?_) <;> (try simp [-List.getD_eq_getElem?_getD, -Int.pred_toNat] at h) <;> (try (exfalso; first | omega | contradiction))) | (refine And.intro (rng64 (by omega) (by omega)) ?_) | (refine And.intro ⟨by omega, by omega⟩ ?_) | (refine And.intro ⟨by omega, by omega, by omega⟩ ?_) | (intro _)))
            refine Or.inr (Or.inl (Exists.intro [] (Exists.intro _ (Exists.intro _ (Exists.intro _ (Exists.intro _ (Exists.intro _ (Exists.intro [(1000, 1000)] (And.intro (hF) ?_)))))))))
            refine (And.intro rfl (And.intro rfl (And.intro rfl (And.intro rfl (And.intro rfl ?_)))))
            (repeat' (first | (refine And.intro (fun h => ?_) (fun h => ?_) <;> (try simp [-List.getD_eq_getElem?_getD, -Int.pred_toNat] at h) <;> (try (exfalso; first | omega | contradiction))) | (refine And.intro (rng64 (by omega) (by omega)) ?_) | (refine And.intro ⟨by omega, by omega⟩ ?_) | (refine And.intro ⟨by omega, by omega, by omega⟩ ?_) | (intro _)))
            rw [hR]
            refine Exists.intro [] (And.intro rfl ?_)
            (repeat' (first | exact trivial | exact Or.inl rfl | exact Or.inr (Or.inl ⟨rfl, _, rfl⟩) | exact Or.inr (Or.inr (Or.inr ⟨_, _, _, rfl, rfl⟩)) | refine And.intro ?_ ?_))
        · rw [if_neg (fun h => hd20 h.2), if_neg h123, if_neg h91] at hR
          rw [← hR] at hL
          unfold bareN at hL
          rcases hw3 with hw3 | hw3
          · (repeat' (first | (refine And.intro (fun h => ?_) (fun h => ?_) <;> (try simp [-List.getD_eq_getElem?_getD, -Int.pred_toNat] at h) <;> (try (exfalso; first | omega | contradiction))) | (refine And.intro (rng64 (by omega) (by omega)) ?_) | (refine And.intro ⟨by omega, by omega⟩ ?_) | (refine And.intro ⟨by omega, by omega, by omega⟩ ?_) | (intro _)))
            refine Or.inr (Or.inl (Exists.intro [] (Exists.intro _ (Exists.intro _ (Exists.intro _ (Exists.intro _ (Exists.intro _ (Exists.intro [(1000, 1000)] (And.intro (hL) ?_)))))))))
            refine (And.intro rfl (And.intro rfl (And.intro rfl (And.intro rfl (And.intro rfl ?_)))))
            (repeat' (first | (refine And.intro (fun h => ?_) (fun h => ?_) <;> (try simp [-List.getD_eq_getElem?_getD, -Int.pred_toNat] at h) <;> (try (exfalso; first | omega | contradiction))) | (refine And.intro (rng64 (by omega) (by omega)) ?_) | (refine And.intro ⟨by omega, by omega⟩ ?_) | (refine And.intro ⟨by omega, by omega, by omega⟩ ?_) | (intro _)))
            refine Exists.intro [] (And.intro rfl ?_)
            (repeat' (first | exact trivial | exact Or.inl rfl | exact Or.inr (Or.inl ⟨rfl, _, rfl⟩) | exact Or.inr (Or.inr (Or.inr ⟨_, _, _, rfl, rfl⟩)) | refine And.intro ?_ ?_))
          · have hk4 : ¬ (ts.getD (Int.toNat (b : Int)) (dflt .token)).kind = 4 := by omega
            (repeat' (first | (refine And.intro (fun h => ?_) (fun h => ?_) <;> (try simp [-List.getD_eq_getElem?_getD, -Int.pred_toNat] at h) <;> (try (exfalso; first | omega | contradiction))) | (refine And.intro (rng64 (by omega) (by omega)) ?_) | (refine And.intro ⟨by omega, by omega⟩ ?_) | (refine And.intro ⟨by omega, by omega, by omega⟩ ?_) | (intro _)))
            refine Or.inr (Or.inl (Exists.intro [] (Exists.intro _ (Exists.intro _ (Exists.intro _ (Exists.intro _ (Exists.intro _ (Exists.intro [(1000, 1000)] (And.intro (hL) ?_)))))))))
            refine (And.intro rfl (And.intro rfl (And.intro rfl (And.intro rfl (And.intro rfl ?_)))))
            (repeat' (first | (refine And.intro (fun h => ?_) (fun h => ?_) <;> (try simp [-List.getD_eq_getElem?_getD, -Int.pred_toNat] at h) <;> (try (exfalso; first | omega | contradiction))) | (refine And.intro (rng64 (by omega) (by omega)) ?_) | (refine And.intro ⟨by omega, by omega⟩ ?_) | (refine And.intro ⟨by omega, by omega, by omega⟩ ?_) | (intro _)))
            refine Exists.intro [] (And.intro rfl ?_)
            (repeat' (first | exact trivial | exact Or.inl rfl | exact Or.inr (Or.inl ⟨rfl, _, rfl⟩) | exact Or.inr (Or.inr (Or.inr ⟨_, _, _, rfl, rfl⟩)) | refine And.intro ?_ ?_))
      · have hnw : ¬ (b < ts.length ∧ ((ts.getD b default).kind = 4 ∨ (ts.getD b default).kind = 5)) := fun h => hw (decide_eq_true h)
        rw [if_neg (fun h => h.1.elim h123 (fun h => h.elim h91 hw)), if_neg h123, if_neg h91] at hR
        rw [← hR] at hL
        unfold bareN at hL
        by_cases hlt : b < ts.length
        · have hk4 : ¬ (ts.getD (Int.toNat (b : Int)) (dflt .token)).kind = 4 := fun h => hnw ⟨hlt, Or.inl (by rw [← hgt]; exact h)⟩
          have hk5 : ¬ (ts.getD (Int.toNat (b : Int)) (dflt .token)).kind = 5 := fun h => hnw ⟨hlt, Or.inr (by rw [← hgt]; exact h)⟩
          (repeat' (first | (refine And.intro (fun h => ?_) (fun h => ?_) <;> (try simp [-List.getD_eq_getElem?_getD, -Int.pred_toNat] at h) <;> (try (exfalso; first | omega | contradiction))) | (refine And.intro (rng64 (by omega) (by omega)) ?_) | (refine And.intro ⟨by omega, by omega⟩ ?_) | (refine And.intro ⟨by omega, by omega, by omega⟩ ?_) | (intro _)))
          refine Or.inr (Or.inl (Exists.intro [] (Exists.intro _ (Exists.intro _ (Exists.intro _ (Exists.intro _ (Exists.intro _ (Exists.intro [(1000, 1000)] (And.intro (hL) ?_)))))))))
          refine (And.intro rfl (And.intro rfl (And.intro rfl (And.intro rfl (And.intro rfl ?_)))))
          (repeat' (first | (refine And.intro (fun h => ?_) (fun h => ?_) <;> (try simp [-List.getD_eq_getElem?_getD, -Int.pred_toNat] at h) <;> (try (exfalso; first | omega | contradiction))) | (refine And.intro (rng64 (by omega) (by omega)) ?_) | (refine And.intro ⟨by omega, by omega⟩ ?_) | (refine And.intro ⟨by omega, by omega, by omega⟩ ?_) | (intro _)))
          refine Exists.intro [] (And.intro rfl ?_)
          (repeat' (first | exact trivial | exact Or.inl rfl | exact Or.inr (Or.inl ⟨rfl, _, rfl⟩) | exact Or.inr (Or.inr (Or.inr ⟨_, _, _, rfl, rfl⟩)) | refine And.intro ?_ ?_))
        · (repeat' (first | (refine And.intro (fun h => ?_) (fun h => ?_) <;> (try simp [-List.getD_eq_getElem?_getD, -Int.pred_toNat] at h) <;> (try (exfalso; first | omega | contradiction))) | (refine And.intro (rng64 (by omega) (by omega)) ?_) | (refine And.intro ⟨by omega, by omega⟩ ?_) | (refine And.intro ⟨by omega, by omega, by omega⟩ ?_) | (intro _)))
          refine Or.inr (Or.inl (Exists.intro [] (Exists.intro _ (Exists.intro _ (Exists.intro _ (Exists.intro _ (Exists.intro _ (Exists.intro [(1000, 1000)] (And.intro (hL) ?_)))))))))
          refine (And.intro rfl (And.intro rfl (And.intro rfl (And.intro rfl (And.intro rfl ?_)))))
          (repeat' (first | (refine And.intro (fun h => ?_) (fun h => ?_) <;> (try simp [-List.getD_eq_getElem?_getD, -Int.pred_toNat] at h) <;> (try (exfalso; first | omega | contradiction))) | (refine And.intro (rng64 (by omega) (by omega)) ?_) | (refine And.intro ⟨by omega, by omega⟩ ?_) | (refine And.intro ⟨by omega, by omega, by omega⟩ ?_) | (intro _)))
          refine Exists.intro [] (And.intro rfl ?_)
          (repeat' (first | exact trivial | exact Or.inl rfl | exact Or.inr (Or.inl ⟨rfl, _, rfl⟩) | exact Or.inr (Or.inr (Or.inr ⟨_, _, _, rfl, rfl⟩)) | refine And.intro ?_ ?_))
theorem s_value (s : Str) (ts : List Token) (n : Nat) (d : Int) (a : Nat) (hts : ts.length ≤ 20000) (ha : a ≤ ts.length) (hn : n ≤ 100000) (hneed : 2 * (ts.length - a) ≤ n) (hd : 0 ≤ d ∧ d ≤ 20) (hfr : ∀ t ∈ ts, t.kind = 6 → 0 ≤ t.fr ∧ t.fr < s.length) (hv : ∀ m < n, ∀ c ≤ ts.length, 2 * (ts.length - c) + 1 ≤ m → d < 20 → CSpec Try.prog 59 [.pt 1000 0, .i .i64 (d + 1)] [(1000, [.s s, .rd .token ts, .i .i64 (c : Int), .i .i64 0, .i .i64 0])] (.agg (enc .node (valP s ts m (d + 1) c).1)) [(1000, [.s s, .rd .token ts, .i .i64 ((valP s ts m (d + 1) c).2.1 : Int), .i .i64 (valP s ts m (d + 1) c).2.2.1, .i .i64 (valP s ts m (d + 1) c).2.2.2])]) : CSpec Try.prog 59 [.pt 1000 0, .i .i64 d] [(1000, [.s s, .rd .token ts, .i .i64 (a : Int), .i .i64 0, .i .i64 0])] (rawV s ts (n + 1) d a) [(1000, [.s s, .rd .token ts, .i .i64 ((valP s ts (n + 1) d a).2.1 : Int), .i .i64 (valP s ts (n + 1) d a).2.2.1, .i .i64 (valP s ts (n + 1) d a).2.2.2])] :=
  cspec_of_vc Γ_good Try.func59 rfl Try.call59 Try.results59 Try.ntmps59 (Nat.le_of_ble_eq_true rfl) (Nat.le_of_ble_eq_true rfl) (by rfl) (w_value s ts n d a hts ha hn hneed hd hfr hv)
theorem leaf_kids (s : Str) (ts : List Token) (k : Int) (a : Nat) : (leafP s ts k a).1.kids = [] := by
  unfold leafP
  split <;> rfl
theorem bareN_le {n : SX.Node} (h : n.kids = []) : ∃ cs, bareN n = .agg cs ∧ AVles cs (enc .node n) := by
  refine ⟨_, rfl, .inl rfl, .inl rfl, .inl rfl, .inr ⟨rfl, .node, ?_⟩, trivial⟩
  rw [h]
theorem rawV_le (s : Str) (ts : List Token) (n : Nat) (d : Int) (a : Nat) : ∃ cs, rawV s ts (n + 1) d a = .agg cs ∧ AVles cs (enc .node (valP s ts (n + 1) d a).1) := by
  unfold rawV
  split
  · exact ⟨_, rfl, .inl rfl, .inl rfl, .inl rfl, .inl rfl, trivial⟩
  · rename_i h
    refine bareN_le ?_
    rw [valP]
    split
    · rfl
    · rename_i h2
      split
      · rename_i h3
        exact absurd ⟨Or.inl h3, Int.not_le.1 fun h4 => h2 ⟨Or.inl h3, h4⟩⟩ h
      · split
        · rename_i h3
          exact absurd ⟨Or.inr h3, Int.not_le.1 fun h4 => h2 ⟨Or.inr (Or.inl h3), h4⟩⟩ h
        · exact leaf_kids ..
theorem s_valueE (s : Str) (ts : List Token) (hts : ts.length ≤ 20000) (hfr : ∀ t ∈ ts, t.kind = 6 → 0 ≤ t.fr ∧ t.fr < s.length) : ∀ (n : Nat) (d : Int) (a : Nat), a ≤ ts.length → n ≤ 100000 → 2 * (ts.length - a) + 1 ≤ n → 0 ≤ d ∧ d ≤ 20 →
    CSpec Try.prog 59 [.pt 1000 0, .i .i64 d] [(1000, [.s s, .rd .token ts, .i .i64 (a : Int), .i .i64 0, .i .i64 0])] (.agg (enc .node (valP s ts n d a).1)) [(1000, [.s s, .rd .token ts, .i .i64 ((valP s ts n d a).2.1 : Int), .i .i64 (valP s ts n d a).2.2.1, .i .i64 (valP s ts n d a).2.2.2])] := by
  intro n
  induction n using Nat.strongRecOn with
  | _ n ih =>
    intro d a ha hn hneed hd
    obtain ⟨n, rfl⟩ : ∃ k, n = k + 1 := ⟨n - 1, by omega⟩
    have h := s_value s ts n d a hts ha (by omega) (by omega) hd hfr (fun m hm c hc hmc hd2 => ih m (by omega) (d + 1) c hc (by omega) hmc (by omega))
    obtain ⟨cs, h1, h2⟩ := rawV_le s ts n d a
    rw [h1] at h
    exact h.aggLe h2
end
end Go.Proofs.Ytdcdmojbkmedpaa
end
section
namespace Go.Tr
set_option linter.unusedSectionVars false
set_option linter.unusedSimpArgs false
set_option linter.unusedVariables false
open Go Go.SX Go.Tk
theorem kd_rng (n : Int) : 1 ≤ cls n ∧ cls n ≤ 7 := by
  unfold cls
  (repeat' split) <;> omega
theorem nx_kind (s : Str) : (nx s).1 ≤ 7 ∧ ((nx s).1 = 6 → markc (by8 (s.getD 0 0))) := by
  have h := kd_rng (by8 (s.getD 0 0))
  have key : kindL s = 6 → markc (by8 (s.getD 0 0)) := by
    unfold kindL cls
    intro h
    (repeat' split at h) <;> first | assumption | omega
  have hk : kindL s = cls (by8 (s.getD 0 0)) := rfl
  unfold nx
  split
  · exact ⟨by simp only; omega, key⟩
  · split
    · split
      · exact ⟨by simp only; omega, fun h => absurd h (by simp)⟩
      · exact ⟨by simp only; omega, fun h => absurd h (by simp)⟩
    · split
      · split
        · exact ⟨by simp only; omega, fun h => absurd h (by simp)⟩
        · exact ⟨by simp only; omega, fun h => absurd h (by simp)⟩
      · exact ⟨by simp only; omega, key⟩
theorem toks_good (s : Str) : ∀ (f a : Nat) (t : Token), t ∈ toks s f a → 0 ≤ t.fr ∧ t.fr < s.length ∧ t.kind ≤ 7 ∧ (t.kind = 6 → markc (by8 (s.getD t.fr.toNat 0)))
  | 0, a, t, h => by cases h
  | f + 1, a, t, h => by
    simp only [toks] at h
    split at h
    · rename_i hlt
      have hk := nx_kind (s.drop a)
      rw [getD_drop, Nat.add_zero] at hk
      rcases List.mem_cons.1 h with rfl | h
      · exact ⟨Int.natCast_nonneg _, by simp only; omega, hk.1, fun h => by simp only; rw [Int.toNat_natCast]; exact hk.2 h⟩
      · exact toks_good s f _ t h
    · cases h
theorem toks_len (s : Str) : ∀ (f a : Nat), a ≤ s.length → (toks s f a).length ≤ s.length - a
  | 0, a, _ => Nat.zero_le _
  | f + 1, a, ha => by
    simp only [toks]
    split
    · rename_i hlt
      have hb := nx_bounds (drop_ne hlt)
      rw [List.length_drop] at hb
      have := toks_len s f (a + (nx (s.drop a)).2) (by omega)
      rw [List.length_cons]
      omega
    · exact Nat.zero_le _
theorem tokens_good (s : Str) : ∀ t ∈ tokens s 0, 0 ≤ t.fr ∧ t.fr < s.length ∧ t.kind ≤ 7 ∧ (t.kind = 6 → markc (by8 (s.getD t.fr.toNat 0))) := fun t h => toks_good s _ 0 t h
theorem tokens_len (s : Str) : (tokens s 0).length ≤ s.length := by
  have := toks_len s s.length 0 (Nat.zero_le _)
  unfold tokens
  omega
theorem tokens_nox (s : Str) : NoX s (tokens s 0) := fun t ht h6 => by
  have h := (tokens_good s t ht).2.2.2 h6
  unfold markc by8 at h
  omega
/-- what the program parses a text to -/
def parsP (s : Str) : SX.Node × Int × Int :=
  if 20000 < s.length then (zeroN, 0, 2)
  else if (valP s (tokens s 0) (2 * (tokens s 0).length + 1) 0 0).2.2.1 ≠ 0 then (zeroN, (valP s (tokens s 0) (2 * (tokens s 0).length + 1) 0 0).2.2.2, (valP s (tokens s 0) (2 * (tokens s 0).length + 1) 0 0).2.2.1)
  else if sk (tokens s 0) (valP s (tokens s 0) (2 * (tokens s 0).length + 1) 0 0).2.1 < (tokens s 0).length then (zeroN, plc s (tokens s 0) (sk (tokens s 0) (valP s (tokens s 0) (2 * (tokens s 0).length + 1) 0 0).2.1), 4)
  else (⟨6, 0, (tokens s 0).length, [(valP s (tokens s 0) (2 * (tokens s 0).length + 1) 0 0).1]⟩, 0, 0)
/-- .. and the document -/
def parsD (s : Str) : SX.Node × Int × Int :=
  if 20000 < s.length then (zeroN, 0, 2)
  else if (valD s (tokens s 0) (soL (tokens s 0) 0) (2 * (tokens s 0).length + 1) 0 0).2.2.1 ≠ 0 then (zeroN, (valD s (tokens s 0) (soL (tokens s 0) 0) (2 * (tokens s 0).length + 1) 0 0).2.2.2, (valD s (tokens s 0) (soL (tokens s 0) 0) (2 * (tokens s 0).length + 1) 0 0).2.2.1)
  else if (valD s (tokens s 0) (soL (tokens s 0) 0) (2 * (tokens s 0).length + 1) 0 0).2.1 < (soL (tokens s 0) 0).length then (zeroN, plcD s (tokens s 0) (soL (tokens s 0) 0) (valD s (tokens s 0) (soL (tokens s 0) 0) (2 * (tokens s 0).length + 1) 0 0).2.1, 4)
  else (⟨6, 0, (tokens s 0).length, [(valD s (tokens s 0) (soL (tokens s 0) 0) (2 * (tokens s 0).length + 1) 0 0).1]⟩, 0, 0)
theorem pars_eq (s : Str) : parsD s = parsP s := by
  unfold parsD parsP
  by_cases hs : 20000 < s.length
  · rw [if_pos hs, if_pos hs]
  · rw [if_neg hs, if_neg hs]
    obtain ⟨h1, h2⟩ := (sim_n (so := soL (tokens s 0) 0) (tokens_nox s) (2 * (tokens s 0).length + 1) 0 0 0 (by decide) ⟨rfl⟩).1
    generalize valP s (tokens s 0) (2 * (tokens s 0).length + 1) 0 0 = x at h1 h2
    generalize valD s (tokens s 0) (soL (tokens s 0) 0) (2 * (tokens s 0).length + 1) 0 0 = y at h1 h2
    rw [← h1]
    by_cases hb : x.2.2.1 ≠ 0
    · rw [if_pos hb, if_pos hb]
    · rw [if_neg hb, if_neg hb]
      obtain ⟨k1, k2, _⟩ := h2 (Decidable.not_not.1 hb)
      rw [k2.plac, ← k1]
      rcases k2.skip with ⟨g1, g2, _⟩ | ⟨g1, g2⟩
      · rw [if_pos g1, if_pos g2]
      · rw [if_neg g1, if_neg g2]
end Go.Tr
end
section
namespace Go.SX
set_option linter.unusedSectionVars false
set_option linter.unusedSimpArgs false
set_option linter.unusedVariables false
set_option linter.unusedSectionVars false
variable [Globs]
theorem CSpec.frz {P : Program} {f : FuncId} {args args' : List AV} {boxes boxes0 : List (Nat × List AV)} {r : AV} {boxes' : List (Nat × List AV)} (h : CSpec P f args boxes r boxes') (id : Nat)
    (he : (⟨argSlots 0 args', boxes0⟩ : St).frz id = ⟨argSlots 0 args, boxes⟩) (hl : args'.length = args.length) (hb : boxNames boxes0 = boxNames boxes) : CSpec P f args' boxes0 r boxes' :=
  ⟨h.1, fun F X β w vs h1 h2 hI => h.2 F X β w vs (h1.trans hl) (fun n g hg => by
    have := boxNames_mem.2 (h2 n g hg)
    rw [hb] at this
    exact boxNames_mem.1 this) (by
    have := hI.frz id
    rw [he] at this
    exact this)⟩
end Go.SX
end
