/-
  A part of the proof that 'typecaselaw.TokCuts' returns true: what stands at a text's front, by the document. No conditions.
-/
import Derived.Test.YtjlbaagnoppfgaaTokC
namespace Go.Proofs.Ytjlbaagnoppfgaa
set_option linter.unusedSectionVars false
set_option linter.unusedSimpArgs false
set_option linter.unusedVariables false
open Go Go.SX Go.Tk
set_option maxRecDepth 100000
set_option maxHeartbeats 0
def c0 (s : Str) : Int := by8 (s.getD 0 0)
def frV (s : Str) : List AV := [.i .i64 0, .i .i64 (frontN (fun n => decide (blankc n)) s), .i .i64 (if c0 s = 10 then 1 else 0), .i .i64 (note s), .i .i64 (frontN (fun n => decide (wordc n)) s), .i .i64 (if c0 s = 34 then (text s : Int) else 0), .i .i64 (if markc (c0 s) then 1 else 0), .i .i64 0]
theorem by8_inj {a b : UInt8} (h : by8 a = by8 b) : a = b := UInt8.toNat_inj.1 (by unfold by8 at h; omega)
theorem c0_eq {s : Str} {b : UInt8} (h : c0 s = by8 b) : s.getD 0 0 = b := by8_inj h
theorem note_zero {s : Str} (h1 : c0 s ≠ 35) (h2 : c0 s ≠ 47) : note s = 0 := by
  unfold note
  rw [if_neg (fun e => h1 (by unfold c0; rw [e]; rfl)), if_neg (fun e => h2 (by unfold c0; rw [e.1]; rfl))]
theorem frV_eq {s : Str} (h10 : c0 s ≠ 10) (h34 : c0 s ≠ 34) (hm : ¬ markc (c0 s)) : frV s = [.i .i64 0, .i .i64 (frontN (fun n => decide (blankc n)) s), .i .i64 0, .i .i64 (note s), .i .i64 (frontN (fun n => decide (wordc n)) s), .i .i64 0, .i .i64 0, .i .i64 0] := by
  unfold frV
  rw [if_neg h10, if_neg h34, if_neg hm]
theorem frO {s : Str} (h35 : c0 s ≠ 35) (h47 : c0 s ≠ 47) (h34 : c0 s ≠ 34) (hm : ¬ markc (c0 s)) : frV s = [.i .i64 0, .i .i64 (frontN (fun n => decide (blankc n)) s), .i .i64 (if c0 s = 10 then 1 else 0), .i .i64 0, .i .i64 (frontN (fun n => decide (wordc n)) s), .i .i64 0, .i .i64 0, .i .i64 0] := by
  unfold frV
  rw [note_zero h35 h47, if_neg h34, if_neg hm]
  rfl
theorem frM {s : Str} (h10 : c0 s ≠ 10) (h35 : c0 s ≠ 35) (h47 : c0 s ≠ 47) (h34 : c0 s ≠ 34) (hm : markc (c0 s)) : frV s = [.i .i64 0, .i .i64 (frontN (fun n => decide (blankc n)) s), .i .i64 0, .i .i64 0, .i .i64 (frontN (fun n => decide (wordc n)) s), .i .i64 0, .i .i64 1, .i .i64 0] := by
  unfold frV
  rw [note_zero h35 h47, if_neg h34, if_neg h10, if_pos hm]
  rfl
theorem fr34 {s : Str} (hc : c0 s = 34) {t : Nat} (ht : text s = t) : frV s = [.i .i64 0, .i .i64 (frontN (fun n => decide (blankc n)) s), .i .i64 0, .i .i64 0, .i .i64 (frontN (fun n => decide (wordc n)) s), .i .i64 t, .i .i64 0, .i .i64 0] := by
  unfold frV
  rw [note_zero (by omega) (by omega), if_pos hc, if_neg (by omega), if_neg (by unfold markc; omega), ht]
  rfl
theorem take2 {s : Str} (h : 2 ≤ s.length) : s.take 2 = [s.getD 0 0, s.getD 1 0] := by
  match s with
  | [] => simp at h
  | [_] => simp at h
  | c :: d :: r => rfl
theorem pre2b {s : Str} (h : (s.take (Int.toNat 2)).drop (Int.toNat 0) = [47, 42]) : s.getD 0 0 = 47 ∧ s.getD 1 0 = 42 := by
  have h : s.take 2 = [47, 42] := h
  match s with
  | [] => cases h
  | [_] => cases h
  | c :: d :: r => injection h with h1 h2; injection h2 with h2 _; subst h1 h2; exact ⟨rfl, rfl⟩
theorem pre2 {s : Str} (h : (s.take (Int.toNat 2)).drop (Int.toNat 0) = [47, 42]) : c0 s = 47 := by
  unfold c0
  rw [(pre2b h).1]
  rfl
theorem note47 {s : Str} (h : s.getD 0 0 = 47 ∧ s.getD 1 0 = 42) (hl : 2 ≤ s.length) : note s = upn 4 (findSC (s.drop (4 - 2))) := by
  unfold note
  rw [if_neg (by rw [h.1]; decide), if_pos ⟨h.1, h.2, hl⟩]
  cases findSC (s.drop (4 - 2)) with
  | none => rfl
  | some n => exact Nat.add_comm _ _
theorem note_no47 {s : Str} (h35 : c0 s ≠ 35) (h : ¬ (s.take (Int.toNat 2)).drop (Int.toNat 0) = [47, 42]) : note s = 0 := by
  unfold note
  rw [if_neg (fun e => h35 (by unfold c0; rw [e]; rfl)), if_neg (fun e => h (by show s.take 2 = _; rw [take2 e.2.2, e.1, e.2.1]))]
theorem note_short {s : Str} (h35 : c0 s ≠ 35) (h : s.length < 4) : note s = 0 := by
  unfold note
  rw [if_neg (fun e => h35 (by unfold c0; rw [e]; rfl))]
  split
  · rw [findSC_end (by omega)]
  · rfl
theorem sub2 {s : Str} {i : Nat} (h2 : 2 ≤ i) (hk : i ≤ s.length) : (s.take (Int.toNat i)).drop (Int.toNat ((i : Int) - 2)) = [42, 47] ↔ (s.getD (i - 2) 0 = 42 ∧ s.getD (i - 2 + 1) 0 = 47) := by
  have e : Int.toNat ((i : Int) - 2) = i - 2 := by omega
  rw [e, Int.toNat_natCast]
  have : (s.take i).drop (i - 2) = [s.getD (i - 2) 0, s.getD (i - 2 + 1) 0] := by
    rw [List.drop_eq_getElem_cons (by rw [List.length_take]; omega), List.drop_eq_getElem_cons (by rw [List.length_take]; omega), List.drop_eq_nil_of_le (by rw [List.length_take]; omega)]
    simp [List.getD_eq_getElem?_getD, List.getElem?_eq_getElem (show i - 2 < s.length by omega), List.getElem?_eq_getElem (show i - 2 + 1 < s.length by omega)]
  rw [this]
  simp
section
variable [G : Globs]
theorem w_fronts (s : Str) (h0 : s ≠ []) (hs : s.length ≤ 1000000) : vc Try.prog Γ 104 [0, 2, 3, 4, 5, 11, 15, 26, 35, 43, 51, 67, 71, 83, 95, 101] (Try.f95.body.getD .skip) (postK Γ [.cell 2 156] (fun v => v = .agg (frV s))) ⟨argSlots 0 [.s s], []⟩ := by
  have hl : 1 ≤ s.length := by cases s with
    | nil => exact absurd rfl h0
    | cons c r => simp
  have q1 := s_run s 120 (fun n => decide (blankc n)) hs (fun x _ _ => s_f1 x)
  have q2 := s_run s 122 (fun n => decide (n ≠ 10)) hs (fun x _ _ => s_f2 x)
  have q4 := s_run s 123 (fun n => decide (wordc n)) hs (fun x _ _ => s_f3 x)
  have q6 := s_oneOf (c0 s) [123, 125, 91, 93, 58, 61, 44] (by decide)
  have hf1 := frontN_le (fun n => decide (blankc n)) s
  have htl := text_le s
  rw [oneN_mark] at q6
  by_cases hc : c0 s = 10
  · have q6 : PSpec Try.prog 121 [.i .u8 (c0 s), .s [123, 125, 91, 93, 58, 61, 44]] (.b false) := by rw [decide_eq_false (by unfold markc; omega)] at q6; exact q6
    have hfr := frO (s := s) (by omega) (by omega) (by omega) (by unfold markc; omega)
    rw [if_pos hc] at hfr
    refine Or.inl (Exists.intro _ (And.intro (q1) ?_))
    refine And.intro ⟨by decide, by decide⟩ ?_
    refine And.intro ⟨by omega, by omega⟩ ?_
    refine And.intro (fun _ => ?_) (fun h9 => absurd hc (show ¬ c0 s = 10 from ne_of_beq_false h9))
    refine And.intro ⟨by decide, by decide⟩ ?_
    refine And.intro ⟨by omega, by omega⟩ ?_
    refine And.intro (fun h9 => absurd (show c0 s = 35 from eq_of_beq h9) (by omega)) (fun _ => ?_)
    intro _
    refine And.intro (fun hlen => ?_) (fun hlen => ?_)
    · have hlen : (4 : Int) ≤ s.length := of_decide_eq_true hlen
      refine And.intro ⟨by omega, by omega, by omega⟩ ?_
      refine And.intro (fun h9 => absurd (pre2 (eq_of_beq h9)) (by omega)) (fun _ => ?_)
      refine Or.inl (Exists.intro _ (And.intro (q4) ?_))
      refine And.intro ⟨by decide, by decide⟩ ?_
      refine And.intro ⟨by omega, by omega⟩ ?_
      refine And.intro (fun h9 => absurd (show c0 s = 34 from eq_of_beq h9) (by omega)) (fun _ => ?_)
      refine And.intro ⟨by omega, by omega⟩ ?_
      refine Or.inl (Exists.intro _ (And.intro (q6) ?_))
      (focus (refine And.intro (fun h9 => ?_) ?_; (focus (exfalso; revert h9; first | decide | (simp <;> omega) | (intro h9; simp at h9 <;> omega))); refine fun _ => ?_))
      show AV.agg _ = _
      rw [hfr]
      all_goals rfl
    · (focus (refine And.intro (fun h9 => ?_) ?_; (focus (exfalso; revert h9; first | decide | (simp <;> omega) | (intro h9; simp at h9 <;> omega))); refine fun _ => ?_))
      refine Or.inl (Exists.intro _ (And.intro (q4) ?_))
      refine And.intro ⟨by decide, by decide⟩ ?_
      refine And.intro ⟨by omega, by omega⟩ ?_
      refine And.intro (fun h9 => absurd (show c0 s = 34 from eq_of_beq h9) (by omega)) (fun _ => ?_)
      refine And.intro ⟨by omega, by omega⟩ ?_
      refine Or.inl (Exists.intro _ (And.intro (q6) ?_))
      (focus (refine And.intro (fun h9 => ?_) ?_; (focus (exfalso; revert h9; first | decide | (simp <;> omega) | (intro h9; simp at h9 <;> omega))); refine fun _ => ?_))
      show AV.agg _ = _
      rw [hfr]
      all_goals rfl
  · by_cases hc : c0 s = 35
    · have q6 : PSpec Try.prog 121 [.i .u8 (c0 s), .s [123, 125, 91, 93, 58, 61, 44]] (.b false) := by rw [decide_eq_false (by unfold markc; omega)] at q6; exact q6
      have hfr := frV_eq (s := s) (by omega) (by omega) (by unfold markc; omega)
      have hn : note s = frontN (fun n => decide (n ≠ 10)) s := by unfold note; rw [if_pos (c0_eq (by rw [hc]; rfl))]
      rw [hn] at hfr
      refine Or.inl (Exists.intro _ (And.intro (q1) ?_))
      refine And.intro ⟨by decide, by decide⟩ ?_
      refine And.intro ⟨by omega, by omega⟩ ?_
      refine And.intro (fun h9 => absurd (show c0 s = 10 from eq_of_beq h9) (by omega)) (fun _ => ?_)
      refine And.intro ⟨by omega, by omega⟩ ?_
      refine And.intro (fun _ => ?_) (fun h9 => absurd hc (show ¬ c0 s = 35 from ne_of_beq_false h9))
      refine Or.inl (Exists.intro _ (And.intro (q2) ?_))
      refine And.intro ⟨by decide, by decide⟩ ?_
      intro _
      refine And.intro (fun hlen => ?_) (fun hlen => ?_)
      · have hlen : (4 : Int) ≤ s.length := of_decide_eq_true hlen
        refine And.intro ⟨by omega, by omega, by omega⟩ ?_
        refine And.intro (fun h9 => absurd (pre2 (eq_of_beq h9)) (by omega)) (fun _ => ?_)
        refine Or.inl (Exists.intro _ (And.intro (q4) ?_))
        refine And.intro ⟨by decide, by decide⟩ ?_
        refine And.intro ⟨by omega, by omega⟩ ?_
        refine And.intro (fun h9 => absurd (show c0 s = 34 from eq_of_beq h9) (by omega)) (fun _ => ?_)
        refine And.intro ⟨by omega, by omega⟩ ?_
        refine Or.inl (Exists.intro _ (And.intro (q6) ?_))
        (focus (refine And.intro (fun h9 => ?_) ?_; (focus (exfalso; revert h9; first | decide | (simp <;> omega) | (intro h9; simp at h9 <;> omega))); refine fun _ => ?_))
        show AV.agg _ = _
        rw [hfr]
        all_goals rfl
      · (focus (refine And.intro (fun h9 => ?_) ?_; (focus (exfalso; revert h9; first | decide | (simp <;> omega) | (intro h9; simp at h9 <;> omega))); refine fun _ => ?_))
        refine Or.inl (Exists.intro _ (And.intro (q4) ?_))
        refine And.intro ⟨by decide, by decide⟩ ?_
        refine And.intro ⟨by omega, by omega⟩ ?_
        refine And.intro (fun h9 => absurd (show c0 s = 34 from eq_of_beq h9) (by omega)) (fun _ => ?_)
        refine And.intro ⟨by omega, by omega⟩ ?_
        refine Or.inl (Exists.intro _ (And.intro (q6) ?_))
        (focus (refine And.intro (fun h9 => ?_) ?_; (focus (exfalso; revert h9; first | decide | (simp <;> omega) | (intro h9; simp at h9 <;> omega))); refine fun _ => ?_))
        show AV.agg _ = _
        rw [hfr]
        all_goals rfl
    · by_cases hc : c0 s = 47
      · have q6 : PSpec Try.prog 121 [.i .u8 (c0 s), .s [123, 125, 91, 93, 58, 61, 44]] (.b false) := by rw [decide_eq_false (by unfold markc; omega)] at q6; exact q6
        have hfr := frV_eq (s := s) (by omega) (by omega) (by unfold markc; omega)
        refine Or.inl (Exists.intro _ (And.intro (q1) ?_))
        refine And.intro ⟨by decide, by decide⟩ ?_
        refine And.intro ⟨by omega, by omega⟩ ?_
        refine And.intro (fun h9 => absurd (show c0 s = 10 from eq_of_beq h9) (by omega)) (fun _ => ?_)
        refine And.intro ⟨by omega, by omega⟩ ?_
        refine And.intro (fun h9 => absurd (show c0 s = 35 from eq_of_beq h9) (by omega)) (fun _ => ?_)
        intro _
        refine And.intro (fun hlen => ?_) (fun hlen => ?_)
        · have hlen : (4 : Int) ≤ s.length := of_decide_eq_true hlen
          refine And.intro ⟨by omega, by omega, by omega⟩ ?_
          refine And.intro (fun h9 => ?_) (fun h9 => ?_)
          · have hp := pre2b (eq_of_beq h9)
            have hnote : note s = upn 4 (findSC (s.drop (4 - 2))) := note47 hp (by omega)
            refine Exists.intro [] (Exists.intro [] (Exists.intro [] (Exists.intro (Nat × Nat) (Exists.intro (fun x => 4 ≤ x.1 ∧ ((x.2 = 0 ∧ note s = upn x.1 (findSC (s.drop (x.1 - 2)))) ∨ (x.2 ≠ 0 ∧ note s = x.2)) ∧ x.1 ≤ s.length + 1) (Exists.intro (fun ⟨i, v⟩ => ⟨[(0, .s s), (2, .pt 2 0), (3, .pt 3 0), (4, .i .i64 i)], [(2, [.i .i64 0, .i .i64 0, .i .i64 0, .i .i64 0, .i .i64 0, .i .i64 0, .i .i64 0, .i .i64 0]), (3, [.i .i64 0, .i .i64 (frontN (fun n => decide (blankc n)) s), .i .i64 0, .i .i64 v, .i .i64 0, .i .i64 0, .i .i64 0, .i .i64 0])]⟩) (Exists.intro (fun x => s.length + 2 - x.1) (Exists.intro (4, 0) (And.intro ⟨Nat.le_refl _, .inl ⟨rfl, hnote⟩, by show 4 ≤ s.length + 1; omega⟩ (And.intro ?_ ?_)))))))))
            · (repeat' (first | exact trivial | exact Or.inl rfl | refine And.intro ?_ ?_))
            · rintro ⟨i, v⟩ ⟨hi, hv, hil⟩
              simp only at hi hv hil
              intro _
              refine And.intro (fun hcc => ?_) (fun hcc => ?_)
              · have hk : i ≤ s.length := by have : (i : Int) ≤ s.length := of_decide_eq_true hcc; omega
                refine And.intro ⟨by decide, by decide⟩ ?_
                refine And.intro (fun hz => ?_) (fun hz => ?_)
                · have hz : v = 0 := by have := eq_of_beq (show ((v : Int) == 0) = true from hz); omega
                  subst hz
                  have hv : note s = upn i (findSC (s.drop (i - 2))) := hv.elim (fun h => h.2) (fun h => absurd rfl h.1)
                  rw [findSC_step (by omega)] at hv
                  refine And.intro ⟨by omega, by omega⟩ ?_
                  refine And.intro ⟨by omega, by omega, by omega⟩ ?_
                  refine And.intro (fun hq => ?_) (fun hq => ?_)
                  · have hq := (sub2 (by omega) hk).1 (eq_of_beq hq)
                    rw [if_pos hq] at hv
                    refine And.intro ⟨by decide, by decide⟩ ?_
                    refine And.intro ⟨by omega, by omega⟩ ?_
                    refine Exists.intro [] (Exists.intro (i + 1, i) (And.intro ⟨by show 4 ≤ i + 1; omega, .inr ⟨by show i ≠ 0; omega, hv⟩, by show i + 1 ≤ s.length + 1; omega⟩ (And.intro ?_ ?_)))
                    · (repeat' (first | exact trivial | exact Or.inl rfl | refine And.intro ?_ ?_))
                    · show s.length + 2 - (i + 1) < s.length + 2 - i
                      omega
                  · have hq := fun h => ne_of_beq_false hq ((sub2 (by omega) hk).2 h)
                    rw [if_neg hq, upn_map, show i - 2 + 1 = i + 1 - 2 by omega] at hv
                    refine And.intro ⟨by omega, by omega⟩ ?_
                    refine Exists.intro [] (Exists.intro (i + 1, 0) (And.intro ⟨by show 4 ≤ i + 1; omega, .inl ⟨rfl, hv⟩, by show i + 1 ≤ s.length + 1; omega⟩ (And.intro ?_ ?_)))
                    · (repeat' (first | exact trivial | exact Or.inl rfl | refine And.intro ?_ ?_))
                    · show s.length + 2 - (i + 1) < s.length + 2 - i
                      omega
                · have hz : v ≠ 0 := by have := ne_of_beq_false (show ((v : Int) == 0) = false from hz); omega
                  have hv : note s = v := hv.elim (fun h => absurd h.1 hz) (fun h => h.2)
                  subst hv
                  refine Or.inl (Exists.intro _ (And.intro (q4) ?_))
                  refine And.intro ⟨by decide, by decide⟩ ?_
                  refine And.intro ⟨by omega, by omega⟩ ?_
                  refine And.intro (fun h9 => absurd (show c0 s = 34 from eq_of_beq h9) (by omega)) (fun _ => ?_)
                  refine And.intro ⟨by omega, by omega⟩ ?_
                  refine Or.inl (Exists.intro _ (And.intro (q6) ?_))
                  (focus (refine And.intro (fun h9 => ?_) ?_; (focus (exfalso; revert h9; first | decide | (simp <;> omega) | (intro h9; simp at h9 <;> omega))); refine fun _ => ?_))
                  show AV.agg _ = _
                  rw [hfr]
                  all_goals rfl
              · have hk : ¬ i ≤ s.length := by have : ¬ (i : Int) ≤ s.length := of_decide_eq_false hcc; omega
                have hv : note s = v := by
                  rcases hv with hv | hv
                  · rw [hv.1, hv.2, findSC_end (by omega)]; rfl
                  · exact hv.2
                subst hv
                (focus (refine And.intro (fun h9 => ?_) ?_; (focus (exfalso; revert h9; first | decide | (simp <;> omega) | (intro h9; simp at h9 <;> omega))); refine fun _ => ?_))
                refine Or.inl (Exists.intro _ (And.intro (q4) ?_))
                refine And.intro ⟨by decide, by decide⟩ ?_
                refine And.intro ⟨by omega, by omega⟩ ?_
                refine And.intro (fun h9 => absurd (show c0 s = 34 from eq_of_beq h9) (by omega)) (fun _ => ?_)
                refine And.intro ⟨by omega, by omega⟩ ?_
                refine Or.inl (Exists.intro _ (And.intro (q6) ?_))
                (focus (refine And.intro (fun h9 => ?_) ?_; (focus (exfalso; revert h9; first | decide | (simp <;> omega) | (intro h9; simp at h9 <;> omega))); refine fun _ => ?_))
                show AV.agg _ = _
                rw [hfr]
                all_goals rfl
          · have hz : note s = 0 := note_no47 (by omega) fun h => ne_of_beq_false h9 h
            rw [hz] at hfr
            refine Or.inl (Exists.intro _ (And.intro (q4) ?_))
            refine And.intro ⟨by decide, by decide⟩ ?_
            refine And.intro ⟨by omega, by omega⟩ ?_
            refine And.intro (fun h9 => absurd (show c0 s = 34 from eq_of_beq h9) (by omega)) (fun _ => ?_)
            refine And.intro ⟨by omega, by omega⟩ ?_
            refine Or.inl (Exists.intro _ (And.intro (q6) ?_))
            (focus (refine And.intro (fun h9 => ?_) ?_; (focus (exfalso; revert h9; first | decide | (simp <;> omega) | (intro h9; simp at h9 <;> omega))); refine fun _ => ?_))
            show AV.agg _ = _
            rw [hfr]
            all_goals rfl
        · have hlen : ¬ (4 : Int) ≤ s.length := of_decide_eq_false hlen
          have hz : note s = 0 := note_short (by omega) (by omega)
          rw [hz] at hfr
          (focus (refine And.intro (fun h9 => ?_) ?_; (focus (exfalso; revert h9; first | decide | (simp <;> omega) | (intro h9; simp at h9 <;> omega))); refine fun _ => ?_))
          refine Or.inl (Exists.intro _ (And.intro (q4) ?_))
          refine And.intro ⟨by decide, by decide⟩ ?_
          refine And.intro ⟨by omega, by omega⟩ ?_
          refine And.intro (fun h9 => absurd (show c0 s = 34 from eq_of_beq h9) (by omega)) (fun _ => ?_)
          refine And.intro ⟨by omega, by omega⟩ ?_
          refine Or.inl (Exists.intro _ (And.intro (q6) ?_))
          (focus (refine And.intro (fun h9 => ?_) ?_; (focus (exfalso; revert h9; first | decide | (simp <;> omega) | (intro h9; simp at h9 <;> omega))); refine fun _ => ?_))
          show AV.agg _ = _
          rw [hfr]
          all_goals rfl
      · by_cases hc : c0 s = 34
        · have q6 : PSpec Try.prog 121 [.i .u8 (c0 s), .s [123, 125, 91, 93, 58, 61, 44]] (.b false) := by rw [decide_eq_false (by unfold markc; omega)] at q6; exact q6
          refine Or.inl (Exists.intro _ (And.intro (q1) ?_))
          refine And.intro ⟨by decide, by decide⟩ ?_
          refine And.intro ⟨by omega, by omega⟩ ?_
          refine And.intro (fun h9 => absurd (show c0 s = 10 from eq_of_beq h9) (by omega)) (fun _ => ?_)
          refine And.intro ⟨by omega, by omega⟩ ?_
          refine And.intro (fun h9 => absurd (show c0 s = 35 from eq_of_beq h9) (by omega)) (fun _ => ?_)
          intro _
          refine And.intro (fun hlen => ?_) (fun hlen => ?_)
          · have hlen : (4 : Int) ≤ s.length := of_decide_eq_true hlen
            refine And.intro ⟨by omega, by omega, by omega⟩ ?_
            refine And.intro (fun h9 => absurd (pre2 (eq_of_beq h9)) (by omega)) (fun _ => ?_)
            refine Or.inl (Exists.intro _ (And.intro (q4) ?_))
            refine And.intro ⟨by decide, by decide⟩ ?_
            refine And.intro ⟨by omega, by omega⟩ ?_
            refine And.intro (fun _ => ?_) (fun h9 => absurd hc (show ¬ c0 s = 34 from ne_of_beq_false h9))
            refine Exists.intro [] (Exists.intro [] (Exists.intro [] (Exists.intro Nat (Exists.intro (fun i => 1 ≤ i ∧ text s = upn i (txt false (s.drop i))) (Exists.intro (fun i => ⟨[(0, .s s), (2, .pt 2 0), (3, .pt 3 0), (5, .i .i64 i)], [(2, [.i .i64 0, .i .i64 0, .i .i64 0, .i .i64 0, .i .i64 0, .i .i64 0, .i .i64 0, .i .i64 0]), (3, [.i .i64 0, .i .i64 (frontN (fun n => decide (blankc n)) s), .i .i64 0, .i .i64 0, .i .i64 (frontN (fun n => decide (wordc n)) s), .i .i64 0, .i .i64 0, .i .i64 0])]⟩) (Exists.intro (fun i => s.length + 2 - i) (Exists.intro 1 (And.intro ⟨Nat.le_refl _, rfl⟩ (And.intro ?_ ?_)))))))))
            · (repeat' (first | exact trivial | exact Or.inl rfl | refine And.intro ?_ ?_))
            · rintro i ⟨hi, heq⟩
              intro _
              refine And.intro (fun hcc => ?_) (fun hcc => ?_)
              · have hk : i < s.length := by have : (i : Int) < s.length := of_decide_eq_true hcc; omega
                rw [txt_step hk] at heq
                refine And.intro ⟨by omega, by omega⟩ ?_
                refine And.intro (fun h34 => ?_) (fun h34 => ?_)
                · have h34 : ¬ by8 (s.getD i 0) = 34 := by have := (show (by8 (s.getD i 0) != 34) = true from h34); simpa only [bne_iff_ne, ne_eq] using this
                  refine And.intro ⟨by omega, by omega⟩ ?_
                  refine And.intro (fun h10 => ?_) (fun h10 => ?_)
                  · have h10 : ¬ by8 (s.getD i 0) = 10 := by have := (show (by8 (s.getD i 0) != 10) = true from h10); simpa only [bne_iff_ne, ne_eq] using this
                    rw [if_neg h10, if_neg (by decide), if_neg h34, upn_map] at heq
                    refine And.intro ⟨by omega, by omega⟩ ?_
                    refine And.intro (fun h92 => ?_) (fun h92 => ?_)
                    · have h92 : by8 (s.getD i 0) = 92 := eq_of_beq h92
                      rw [decide_eq_true h92] at heq
                      refine And.intro ⟨by omega, by omega⟩ ?_
                      intro _
                      refine And.intro (fun hc2 => ?_) (fun hc2 => ?_)
                      · have hk2 : i + 1 < s.length := by have : ((i : Int) + 1) < s.length := of_decide_eq_true hc2; omega
                        rw [txt_step hk2] at heq
                        refine And.intro ⟨by omega, by omega⟩ ?_
                        refine And.intro (fun hq => ?_) (fun hq => ?_)
                        · have hq : by8 (s.getD (i + 1) 0) = 10 := eq_of_beq hq
                          rw [if_pos hq] at heq
                          have hfr := fr34 hc (show text s = 0 from heq)
                          intro _
                          refine And.intro (fun _ => ?_) (fun h9 => absurd (show ¬ ((i : Int) + 1 : Int) < s.length from of_decide_eq_false h9) (by omega))
                          refine And.intro ⟨by omega, by omega⟩ ?_
                          refine And.intro (fun h9 => absurd (show by8 (s.getD (i + 1) 0) = 34 from eq_of_beq h9) (by omega)) (fun _ => ?_)
                          refine And.intro ⟨by omega, by omega⟩ ?_
                          refine Or.inl (Exists.intro _ (And.intro (q6) ?_))
                          (focus (refine And.intro (fun h9 => ?_) ?_; (focus (exfalso; revert h9; first | decide | (simp <;> omega) | (intro h9; simp at h9 <;> omega))); refine fun _ => ?_))
                          show AV.agg _ = _
                          rw [hfr]
                          all_goals rfl
                        · have hq : ¬ by8 (s.getD (i + 1) 0) = 10 := ne_of_beq_false hq
                          rw [if_neg hq, if_pos rfl, upn_map] at heq
                          refine And.intro ⟨by omega, by omega⟩ ?_
                          refine Exists.intro [] (Exists.intro (i + 1 + 1) (And.intro ⟨by omega, heq⟩ (And.intro ?_ ?_)))
                          · (repeat' (first | exact trivial | exact Or.inl rfl | refine And.intro ?_ ?_))
                          · show s.length + 2 - (i + 1 + 1) < s.length + 2 - i
                            omega
                      · have hk2 : s.length ≤ i + 1 := by have : ¬ ((i : Int) + 1) < s.length := of_decide_eq_false hc2; omega
                        rw [txt_end hk2] at heq
                        (focus (refine And.intro (fun h9 => ?_) ?_; (focus (exfalso; revert h9; first | decide | (simp <;> omega) | (intro h9; simp at h9 <;> omega))); refine fun _ => ?_))
                        refine And.intro ⟨by omega, by omega⟩ ?_
                        refine Exists.intro [] (Exists.intro (i + 1 + 1) (And.intro ⟨by omega, by rw [txt_end (by omega)]; exact heq⟩ (And.intro ?_ ?_)))
                        · (repeat' (first | exact trivial | exact Or.inl rfl | refine And.intro ?_ ?_))
                        · show s.length + 2 - (i + 1 + 1) < s.length + 2 - i
                          omega
                    · have h92 : ¬ by8 (s.getD i 0) = 92 := ne_of_beq_false h92
                      rw [decide_eq_false h92] at heq
                      refine And.intro ⟨by omega, by omega⟩ ?_
                      refine Exists.intro [] (Exists.intro (i + 1) (And.intro ⟨by omega, heq⟩ (And.intro ?_ ?_)))
                      · (repeat' (first | exact trivial | exact Or.inl rfl | refine And.intro ?_ ?_))
                      · show s.length + 2 - (i + 1) < s.length + 2 - i
                        omega
                  · have h10 : by8 (s.getD i 0) = 10 := by have := (show (by8 (s.getD i 0) != 10) = false from h10); simpa only [bne_eq_false_iff_eq] using this
                    rw [if_pos h10] at heq
                    have hfr := fr34 hc (show text s = 0 from heq)
                    intro _
                    refine And.intro (fun _ => ?_) (fun h9 => absurd (show ¬ ((i : Int) : Int) < s.length from of_decide_eq_false h9) (by omega))
                    refine And.intro ⟨by omega, by omega⟩ ?_
                    refine And.intro (fun h9 => absurd (show by8 (s.getD i 0) = 34 from eq_of_beq h9) (by omega)) (fun _ => ?_)
                    refine And.intro ⟨by omega, by omega⟩ ?_
                    refine Or.inl (Exists.intro _ (And.intro (q6) ?_))
                    (focus (refine And.intro (fun h9 => ?_) ?_; (focus (exfalso; revert h9; first | decide | (simp <;> omega) | (intro h9; simp at h9 <;> omega))); refine fun _ => ?_))
                    show AV.agg _ = _
                    rw [hfr]
                    all_goals rfl
                · have h34 : by8 (s.getD i 0) = 34 := by have := (show (by8 (s.getD i 0) != 34) = false from h34); simpa only [bne_eq_false_iff_eq] using this
                  rw [if_neg (by omega), if_neg (by decide), if_pos h34] at heq
                  have hfr := fr34 hc (show text s = i + 1 from heq)
                  (focus (refine And.intro (fun h9 => ?_) ?_; (focus (exfalso; revert h9; first | decide | (simp <;> omega) | (intro h9; simp at h9 <;> omega))); refine fun _ => ?_))
                  intro _
                  refine And.intro (fun _ => ?_) (fun h9 => absurd (show ¬ ((i : Int) : Int) < s.length from of_decide_eq_false h9) (by omega))
                  refine And.intro ⟨by omega, by omega⟩ ?_
                  refine And.intro (fun _ => ?_) (fun h9 => absurd h34 (show ¬ by8 (s.getD i 0) = 34 from ne_of_beq_false h9))
                  refine And.intro ⟨by omega, by omega⟩ ?_
                  refine And.intro ⟨by decide, by decide⟩ ?_
                  refine And.intro ⟨by omega, by omega⟩ ?_
                  refine Or.inl (Exists.intro _ (And.intro (q6) ?_))
                  (focus (refine And.intro (fun h9 => ?_) ?_; (focus (exfalso; revert h9; first | decide | (simp <;> omega) | (intro h9; simp at h9 <;> omega))); refine fun _ => ?_))
                  show AV.agg _ = _
                  rw [hfr]
                  all_goals rfl
              · have hk : s.length ≤ i := by have : ¬ (i : Int) < s.length := of_decide_eq_false hcc; omega
                rw [txt_end hk] at heq
                have hfr := fr34 hc (show text s = 0 from heq)
                (focus (refine And.intro (fun h9 => ?_) ?_; (focus (exfalso; revert h9; first | decide | (simp <;> omega) | (intro h9; simp at h9 <;> omega))); refine fun _ => ?_))
                (focus (refine And.intro (fun h9 => ?_) ?_; (focus (exfalso; revert h9; first | decide | (simp <;> omega) | (intro h9; simp at h9 <;> omega))); refine fun _ => ?_))
                intro _
                refine And.intro (fun h9 => absurd (show ((i : Int) : Int) < s.length from of_decide_eq_true h9) (by omega)) (fun _ => ?_)
                (focus (refine And.intro (fun h9 => ?_) ?_; (focus (exfalso; revert h9; first | decide | (simp <;> omega) | (intro h9; simp at h9 <;> omega))); refine fun _ => ?_))
                refine And.intro ⟨by omega, by omega⟩ ?_
                refine Or.inl (Exists.intro _ (And.intro (q6) ?_))
                (focus (refine And.intro (fun h9 => ?_) ?_; (focus (exfalso; revert h9; first | decide | (simp <;> omega) | (intro h9; simp at h9 <;> omega))); refine fun _ => ?_))
                show AV.agg _ = _
                rw [hfr]
                all_goals rfl
          · (focus (refine And.intro (fun h9 => ?_) ?_; (focus (exfalso; revert h9; first | decide | (simp <;> omega) | (intro h9; simp at h9 <;> omega))); refine fun _ => ?_))
            refine Or.inl (Exists.intro _ (And.intro (q4) ?_))
            refine And.intro ⟨by decide, by decide⟩ ?_
            refine And.intro ⟨by omega, by omega⟩ ?_
            refine And.intro (fun _ => ?_) (fun h9 => absurd hc (show ¬ c0 s = 34 from ne_of_beq_false h9))
            refine Exists.intro [] (Exists.intro [] (Exists.intro [] (Exists.intro Nat (Exists.intro (fun i => 1 ≤ i ∧ text s = upn i (txt false (s.drop i))) (Exists.intro (fun i => ⟨[(0, .s s), (2, .pt 2 0), (3, .pt 3 0), (5, .i .i64 i)], [(2, [.i .i64 0, .i .i64 0, .i .i64 0, .i .i64 0, .i .i64 0, .i .i64 0, .i .i64 0, .i .i64 0]), (3, [.i .i64 0, .i .i64 (frontN (fun n => decide (blankc n)) s), .i .i64 0, .i .i64 0, .i .i64 (frontN (fun n => decide (wordc n)) s), .i .i64 0, .i .i64 0, .i .i64 0])]⟩) (Exists.intro (fun i => s.length + 2 - i) (Exists.intro 1 (And.intro ⟨Nat.le_refl _, rfl⟩ (And.intro ?_ ?_)))))))))
            · (repeat' (first | exact trivial | exact Or.inl rfl | refine And.intro ?_ ?_))
            · rintro i ⟨hi, heq⟩
              intro _
              refine And.intro (fun hcc => ?_) (fun hcc => ?_)
              · have hk : i < s.length := by have : (i : Int) < s.length := of_decide_eq_true hcc; omega
                rw [txt_step hk] at heq
                refine And.intro ⟨by omega, by omega⟩ ?_
                refine And.intro (fun h34 => ?_) (fun h34 => ?_)
                · have h34 : ¬ by8 (s.getD i 0) = 34 := by have := (show (by8 (s.getD i 0) != 34) = true from h34); simpa only [bne_iff_ne, ne_eq] using this
                  refine And.intro ⟨by omega, by omega⟩ ?_
                  refine And.intro (fun h10 => ?_) (fun h10 => ?_)
                  · have h10 : ¬ by8 (s.getD i 0) = 10 := by have := (show (by8 (s.getD i 0) != 10) = true from h10); simpa only [bne_iff_ne, ne_eq] using this
                    rw [if_neg h10, if_neg (by decide), if_neg h34, upn_map] at heq
                    refine And.intro ⟨by omega, by omega⟩ ?_
                    refine And.intro (fun h92 => ?_) (fun h92 => ?_)
                    · have h92 : by8 (s.getD i 0) = 92 := eq_of_beq h92
                      rw [decide_eq_true h92] at heq
                      refine And.intro ⟨by omega, by omega⟩ ?_
                      intro _
                      refine And.intro (fun hc2 => ?_) (fun hc2 => ?_)
                      · have hk2 : i + 1 < s.length := by have : ((i : Int) + 1) < s.length := of_decide_eq_true hc2; omega
                        rw [txt_step hk2] at heq
                        refine And.intro ⟨by omega, by omega⟩ ?_
                        refine And.intro (fun hq => ?_) (fun hq => ?_)
                        · have hq : by8 (s.getD (i + 1) 0) = 10 := eq_of_beq hq
                          rw [if_pos hq] at heq
                          have hfr := fr34 hc (show text s = 0 from heq)
                          intro _
                          refine And.intro (fun _ => ?_) (fun h9 => absurd (show ¬ ((i : Int) + 1 : Int) < s.length from of_decide_eq_false h9) (by omega))
                          refine And.intro ⟨by omega, by omega⟩ ?_
                          refine And.intro (fun h9 => absurd (show by8 (s.getD (i + 1) 0) = 34 from eq_of_beq h9) (by omega)) (fun _ => ?_)
                          refine And.intro ⟨by omega, by omega⟩ ?_
                          refine Or.inl (Exists.intro _ (And.intro (q6) ?_))
                          (focus (refine And.intro (fun h9 => ?_) ?_; (focus (exfalso; revert h9; first | decide | (simp <;> omega) | (intro h9; simp at h9 <;> omega))); refine fun _ => ?_))
                          show AV.agg _ = _
                          rw [hfr]
                          all_goals rfl
                        · have hq : ¬ by8 (s.getD (i + 1) 0) = 10 := ne_of_beq_false hq
                          rw [if_neg hq, if_pos rfl, upn_map] at heq
                          refine And.intro ⟨by omega, by omega⟩ ?_
                          refine Exists.intro [] (Exists.intro (i + 1 + 1) (And.intro ⟨by omega, heq⟩ (And.intro ?_ ?_)))
                          · (repeat' (first | exact trivial | exact Or.inl rfl | refine And.intro ?_ ?_))
                          · show s.length + 2 - (i + 1 + 1) < s.length + 2 - i
                            omega
                      · have hk2 : s.length ≤ i + 1 := by have : ¬ ((i : Int) + 1) < s.length := of_decide_eq_false hc2; omega
                        rw [txt_end hk2] at heq
                        (focus (refine And.intro (fun h9 => ?_) ?_; (focus (exfalso; revert h9; first | decide | (simp <;> omega) | (intro h9; simp at h9 <;> omega))); refine fun _ => ?_))
                        refine And.intro ⟨by omega, by omega⟩ ?_
                        refine Exists.intro [] (Exists.intro (i + 1 + 1) (And.intro ⟨by omega, by rw [txt_end (by omega)]; exact heq⟩ (And.intro ?_ ?_)))
                        · (repeat' (first | exact trivial | exact Or.inl rfl | refine And.intro ?_ ?_))
                        · show s.length + 2 - (i + 1 + 1) < s.length + 2 - i
                          omega
                    · have h92 : ¬ by8 (s.getD i 0) = 92 := ne_of_beq_false h92
                      rw [decide_eq_false h92] at heq
                      refine And.intro ⟨by omega, by omega⟩ ?_
                      refine Exists.intro [] (Exists.intro (i + 1) (And.intro ⟨by omega, heq⟩ (And.intro ?_ ?_)))
                      · (repeat' (first | exact trivial | exact Or.inl rfl | refine And.intro ?_ ?_))
                      · show s.length + 2 - (i + 1) < s.length + 2 - i
                        omega
                  · have h10 : by8 (s.getD i 0) = 10 := by have := (show (by8 (s.getD i 0) != 10) = false from h10); simpa only [bne_eq_false_iff_eq] using this
                    rw [if_pos h10] at heq
                    have hfr := fr34 hc (show text s = 0 from heq)
                    intro _
                    refine And.intro (fun _ => ?_) (fun h9 => absurd (show ¬ ((i : Int) : Int) < s.length from of_decide_eq_false h9) (by omega))
                    refine And.intro ⟨by omega, by omega⟩ ?_
                    refine And.intro (fun h9 => absurd (show by8 (s.getD i 0) = 34 from eq_of_beq h9) (by omega)) (fun _ => ?_)
                    refine And.intro ⟨by omega, by omega⟩ ?_
                    refine Or.inl (Exists.intro _ (And.intro (q6) ?_))
                    (focus (refine And.intro (fun h9 => ?_) ?_; (focus (exfalso; revert h9; first | decide | (simp <;> omega) | (intro h9; simp at h9 <;> omega))); refine fun _ => ?_))
                    show AV.agg _ = _
                    rw [hfr]
                    all_goals rfl
                · have h34 : by8 (s.getD i 0) = 34 := by have := (show (by8 (s.getD i 0) != 34) = false from h34); simpa only [bne_eq_false_iff_eq] using this
                  rw [if_neg (by omega), if_neg (by decide), if_pos h34] at heq
                  have hfr := fr34 hc (show text s = i + 1 from heq)
                  (focus (refine And.intro (fun h9 => ?_) ?_; (focus (exfalso; revert h9; first | decide | (simp <;> omega) | (intro h9; simp at h9 <;> omega))); refine fun _ => ?_))
                  intro _
                  refine And.intro (fun _ => ?_) (fun h9 => absurd (show ¬ ((i : Int) : Int) < s.length from of_decide_eq_false h9) (by omega))
                  refine And.intro ⟨by omega, by omega⟩ ?_
                  refine And.intro (fun _ => ?_) (fun h9 => absurd h34 (show ¬ by8 (s.getD i 0) = 34 from ne_of_beq_false h9))
                  refine And.intro ⟨by omega, by omega⟩ ?_
                  refine And.intro ⟨by decide, by decide⟩ ?_
                  refine And.intro ⟨by omega, by omega⟩ ?_
                  refine Or.inl (Exists.intro _ (And.intro (q6) ?_))
                  (focus (refine And.intro (fun h9 => ?_) ?_; (focus (exfalso; revert h9; first | decide | (simp <;> omega) | (intro h9; simp at h9 <;> omega))); refine fun _ => ?_))
                  show AV.agg _ = _
                  rw [hfr]
                  all_goals rfl
              · have hk : s.length ≤ i := by have : ¬ (i : Int) < s.length := of_decide_eq_false hcc; omega
                rw [txt_end hk] at heq
                have hfr := fr34 hc (show text s = 0 from heq)
                (focus (refine And.intro (fun h9 => ?_) ?_; (focus (exfalso; revert h9; first | decide | (simp <;> omega) | (intro h9; simp at h9 <;> omega))); refine fun _ => ?_))
                (focus (refine And.intro (fun h9 => ?_) ?_; (focus (exfalso; revert h9; first | decide | (simp <;> omega) | (intro h9; simp at h9 <;> omega))); refine fun _ => ?_))
                intro _
                refine And.intro (fun h9 => absurd (show ((i : Int) : Int) < s.length from of_decide_eq_true h9) (by omega)) (fun _ => ?_)
                (focus (refine And.intro (fun h9 => ?_) ?_; (focus (exfalso; revert h9; first | decide | (simp <;> omega) | (intro h9; simp at h9 <;> omega))); refine fun _ => ?_))
                refine And.intro ⟨by omega, by omega⟩ ?_
                refine Or.inl (Exists.intro _ (And.intro (q6) ?_))
                (focus (refine And.intro (fun h9 => ?_) ?_; (focus (exfalso; revert h9; first | decide | (simp <;> omega) | (intro h9; simp at h9 <;> omega))); refine fun _ => ?_))
                show AV.agg _ = _
                rw [hfr]
                all_goals rfl
        · by_cases hm : markc (c0 s)
          · have q6 : PSpec Try.prog 121 [.i .u8 (c0 s), .s [123, 125, 91, 93, 58, 61, 44]] (.b true) := by rw [decide_eq_true hm] at q6; exact q6
            have hfr := frM (s := s) (by omega) (by omega) (by omega) (by omega) hm
            refine Or.inl (Exists.intro _ (And.intro (q1) ?_))
            refine And.intro ⟨by decide, by decide⟩ ?_
            refine And.intro ⟨by omega, by omega⟩ ?_
            refine And.intro (fun h9 => absurd (show c0 s = 10 from eq_of_beq h9) (by omega)) (fun _ => ?_)
            refine And.intro ⟨by omega, by omega⟩ ?_
            refine And.intro (fun h9 => absurd (show c0 s = 35 from eq_of_beq h9) (by omega)) (fun _ => ?_)
            intro _
            refine And.intro (fun hlen => ?_) (fun hlen => ?_)
            · have hlen : (4 : Int) ≤ s.length := of_decide_eq_true hlen
              refine And.intro ⟨by omega, by omega, by omega⟩ ?_
              refine And.intro (fun h9 => absurd (pre2 (eq_of_beq h9)) (by omega)) (fun _ => ?_)
              refine Or.inl (Exists.intro _ (And.intro (q4) ?_))
              refine And.intro ⟨by decide, by decide⟩ ?_
              refine And.intro ⟨by omega, by omega⟩ ?_
              refine And.intro (fun h9 => absurd (show c0 s = 34 from eq_of_beq h9) (by omega)) (fun _ => ?_)
              refine And.intro ⟨by omega, by omega⟩ ?_
              refine Or.inl (Exists.intro _ (And.intro (q6) ?_))
              (focus (refine And.intro ?_ (fun h9 => ?_); rotate_left 1; (focus (exfalso; revert h9; first | decide | (simp <;> omega) | (intro h9; simp at h9 <;> omega))); refine fun _ => ?_))
              refine And.intro ⟨by decide, by decide⟩ ?_
              show AV.agg _ = _
              rw [hfr]
              all_goals rfl
            · (focus (refine And.intro (fun h9 => ?_) ?_; (focus (exfalso; revert h9; first | decide | (simp <;> omega) | (intro h9; simp at h9 <;> omega))); refine fun _ => ?_))
              refine Or.inl (Exists.intro _ (And.intro (q4) ?_))
              refine And.intro ⟨by decide, by decide⟩ ?_
              refine And.intro ⟨by omega, by omega⟩ ?_
              refine And.intro (fun h9 => absurd (show c0 s = 34 from eq_of_beq h9) (by omega)) (fun _ => ?_)
              refine And.intro ⟨by omega, by omega⟩ ?_
              refine Or.inl (Exists.intro _ (And.intro (q6) ?_))
              (focus (refine And.intro ?_ (fun h9 => ?_); rotate_left 1; (focus (exfalso; revert h9; first | decide | (simp <;> omega) | (intro h9; simp at h9 <;> omega))); refine fun _ => ?_))
              refine And.intro ⟨by decide, by decide⟩ ?_
              show AV.agg _ = _
              rw [hfr]
              all_goals rfl
          · have q6 : PSpec Try.prog 121 [.i .u8 (c0 s), .s [123, 125, 91, 93, 58, 61, 44]] (.b false) := by rw [decide_eq_false hm] at q6; exact q6
            have hfr := frO (s := s) (by omega) (by omega) (by omega) hm
            rw [if_neg (by omega)] at hfr
            refine Or.inl (Exists.intro _ (And.intro (q1) ?_))
            refine And.intro ⟨by decide, by decide⟩ ?_
            refine And.intro ⟨by omega, by omega⟩ ?_
            refine And.intro (fun h9 => absurd (show c0 s = 10 from eq_of_beq h9) (by omega)) (fun _ => ?_)
            refine And.intro ⟨by omega, by omega⟩ ?_
            refine And.intro (fun h9 => absurd (show c0 s = 35 from eq_of_beq h9) (by omega)) (fun _ => ?_)
            intro _
            refine And.intro (fun hlen => ?_) (fun hlen => ?_)
            · have hlen : (4 : Int) ≤ s.length := of_decide_eq_true hlen
              refine And.intro ⟨by omega, by omega, by omega⟩ ?_
              refine And.intro (fun h9 => absurd (pre2 (eq_of_beq h9)) (by omega)) (fun _ => ?_)
              refine Or.inl (Exists.intro _ (And.intro (q4) ?_))
              refine And.intro ⟨by decide, by decide⟩ ?_
              refine And.intro ⟨by omega, by omega⟩ ?_
              refine And.intro (fun h9 => absurd (show c0 s = 34 from eq_of_beq h9) (by omega)) (fun _ => ?_)
              refine And.intro ⟨by omega, by omega⟩ ?_
              refine Or.inl (Exists.intro _ (And.intro (q6) ?_))
              (focus (refine And.intro (fun h9 => ?_) ?_; (focus (exfalso; revert h9; first | decide | (simp <;> omega) | (intro h9; simp at h9 <;> omega))); refine fun _ => ?_))
              show AV.agg _ = _
              rw [hfr]
              all_goals rfl
            · (focus (refine And.intro (fun h9 => ?_) ?_; (focus (exfalso; revert h9; first | decide | (simp <;> omega) | (intro h9; simp at h9 <;> omega))); refine fun _ => ?_))
              refine Or.inl (Exists.intro _ (And.intro (q4) ?_))
              refine And.intro ⟨by decide, by decide⟩ ?_
              refine And.intro ⟨by omega, by omega⟩ ?_
              refine And.intro (fun h9 => absurd (show c0 s = 34 from eq_of_beq h9) (by omega)) (fun _ => ?_)
              refine And.intro ⟨by omega, by omega⟩ ?_
              refine Or.inl (Exists.intro _ (And.intro (q6) ?_))
              (focus (refine And.intro (fun h9 => ?_) ?_; (focus (exfalso; revert h9; first | decide | (simp <;> omega) | (intro h9; simp at h9 <;> omega))); refine fun _ => ?_))
              show AV.agg _ = _
              rw [hfr]
              all_goals rfl
theorem s_fronts (s : Str) (h0 : s ≠ []) (hs : s.length ≤ 1000000) : PSpec Try.prog 95 [.s s] (.agg (frV s)) :=
  pspec_of_vc Γ_good Try.func95 rfl Try.call95 Try.results95 Try.ntmps95 (Nat.le_of_ble_eq_true rfl) (w_fronts s h0 hs)
end
end Go.Proofs.Ytjlbaagnoppfgaa
