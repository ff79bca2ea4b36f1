/-
  A part of the proof that 'typecaselaw.UtfMakes' returns true: a text cut, the law. No conditions.
-/
import Derived.Test.YtjlbaagnoppfgaaDoorUmA
namespace Go.Proofs.YtjlbaagnoppfgaaDoor
set_option linter.unusedSectionVars false
set_option linter.unusedSimpArgs false
set_option linter.unusedVariables false
open Go Go.SX Go.Ut Go.RowKit
set_option maxRecDepth 100000
set_option maxHeartbeats 0
/-- what cutting says -/
def cutR (s : Str) (n : Int) : AV := if 0 ≤ bad s then .tup [.i .i64 0, .i .i64 3] else if 0 ≤ n ∧ n ≤ (runes s).length then .tup [.i .i64 (offs s n.toNat), .i .i64 0] else .tup [.i .i64 0, .i .i64 1]
/-- whether numbers are runes -/
def errI (l : List Int) : Int := if ∀ x ∈ l, scalar x then 0 else 3
theorem errI_good {l : List Int} (h : ∀ x ∈ l, scalar x) : errI l = 0 := if_pos h
theorem errI_bad {l : List Int} (h : ¬ ∀ x ∈ l, scalar x) : errI l = 3 := if_neg h
theorem errI_same {l r : List Int} (h : (∀ x ∈ l, scalar x) ↔ ∀ x ∈ r, scalar x) : errI l = errI r := by
  by_cases c : ∀ x ∈ l, scalar x
  · rw [errI_good c, errI_good (h.1 c)]
  · rw [errI_bad c, errI_bad (fun e => c (h.2 e))]
/-- while cutting: place, count -/
structure CutI (s : Str) (n : Int) (x : Nat × Nat) : Prop where
  hi : x.1 ≤ s.length
  hb : badFrom s x.1 < 0
  hr : (runes s).take x.2 ++ runesFrom s x.1 = runes s
  ho : (encL ((runes s).take x.2)).length = x.1
  hn : 0 ≤ n → (x.2 : Int) ≤ n
  hc : ((runes s).take x.2).length = x.2
theorem take_more {α : Type} {l r : List α} {x : α} {k : Nat} (h : l.take k ++ x :: r = l) (hc : (l.take k).length = k) : l.take (k + 1) = l.take k ++ [x] ∧ l.take (k + 1) ++ r = l ∧ (l.take (k + 1)).length = k + 1 := by
  have e : l.take (k + 1) = l.take k ++ [x] := by
    have h2 := congrArg (List.take (k + 1)) h
    rw [List.take_append, hc, List.take_of_length_le (by omega), show k + 1 - k = 1 by omega] at h2
    exact h2.symm
  rw [e]
  refine ⟨rfl, ?_, by rw [List.length_append, hc]; rfl⟩
  rw [List.append_assoc]
  exact h
section
variable [G : Globs]
theorem w_Cut (hu : HasU8) (s : Str) (n : Int) (hs : s.length ≤ 1048576) : vc Tryd.prog Γ 27 [0, 1, 4, 5, 6, 7, 10, 12, 13, 14, 18, 24] (Tryd.f25.body.getD .skip) (postK Γ [.tmp 4, .tmp 5] (fun v => v = cutR s n)) ⟨argSlots 0 [.s s, .i .i64 n], []⟩ := by
  have qb := s_Bad hu s
  refine Or.inl (Exists.intro _ (And.intro (qb) ?_))
  refine And.intro (fun h1 => ?_) (fun h1 => ?_)
  · have h1 : 0 ≤ bad s := of_decide_eq_true h1
    show _ = _
    unfold cutR
    rw [if_pos h1]
    rfl
  have h1 : ¬ 0 ≤ bad s := of_decide_eq_false h1
  refine Exists.intro [] (Exists.intro [] (Exists.intro [] (Exists.intro (Nat × Nat) (Exists.intro (CutI s n) (Exists.intro (fun ⟨i, c⟩ => ⟨[(0, .s s), (1, .i .i64 n), (6, .i .i64 c), (12, .ob 12 12 (.it s i))], []⟩) (Exists.intro (fun x => s.length - x.1) (Exists.intro (0, 0) (And.intro ⟨Nat.zero_le _, by have : badFrom s 0 = bad s := rfl; simp only; omega, rfl, rfl, fun h => h, rfl⟩ (And.intro ?_ ?_)))))))))
  · (repeat' (first | exact trivial | exact Or.inl rfl | refine And.intro ?_ ?_))
  · rintro ⟨i, c⟩ ⟨hi, hb, hr, ho, hn, hc⟩
    simp only at hi hb hr ho hn hc
    refine And.intro (fun hk => ?_) (fun hk => ?_)
    · obtain ⟨hnb, hb2⟩ := bad_range hb hk
      obtain ⟨g1, g2, g3⟩ := good_at hk hnb
      have hp := dec_pos s i
      have hle := dec_le hk
      have hrl := runes_len s
      rw [runes_step hk] at hr
      obtain ⟨t1, t2, t3⟩ := take_more hr hc
      have hcl : c + 1 ≤ (runes s).length := by have := congrArg List.length t2; rw [List.length_append, t3] at this; omega
      (focus (refine And.intro ?_ (fun h9 => ?_); rotate_left 1; (focus (exfalso; revert h9; first | decide | (simp <;> omega) | (intro h9; simp at h9 <;> omega))); refine fun _ => ?_))
      refine And.intro (fun h2 => ?_) (fun h2 => ?_)
      · have h2 : (c : Int) = n := eq_of_beq h2
        show _ = _
        unfold cutR
        rw [if_neg h1, if_pos (by omega)]
        unfold offs
        rw [show n.toNat = c by omega, ho]
        rfl
      · have h2 : (c : Int) ≠ n := ne_of_beq_false h2
        refine And.intro ⟨by omega, by omega⟩ ?_
        have ho2 : (encL ((runes s).take (c + 1))).length = i + (decAt s i).2 := by
          have := encS_len g1
          rw [t1, encL_append, encL_one, List.length_append, ho]
          omega
        refine Exists.intro [] (Exists.intro (i + (decAt s i).2, c + 1) (And.intro ⟨hle, hb2, t2, ho2, by intro h; have := hn h; simp only; omega, t3⟩ (And.intro ?_ ?_)))
        · (repeat' (first | exact trivial | exact Or.inl rfl | refine And.intro ?_ ?_))
        · show s.length - (i + (decAt s i).2) < s.length - i
          omega
    · have hrl := runes_len s
      rw [runes_end (by omega), List.append_nil] at hr
      have hcl : c = (runes s).length := by rw [← hc, hr]
      (focus (refine And.intro (fun h9 => ?_) ?_; (focus (exfalso; revert h9; first | decide | (simp <;> omega) | (intro h9; simp at h9 <;> omega))); refine fun _ => ?_))
      refine And.intro (fun h2 => ?_) (fun h2 => ?_)
      · have h2 : (c : Int) = n := eq_of_beq h2
        intro _
        show _ = _
        unfold cutR
        rw [if_neg h1, if_pos (by omega)]
        unfold offs
        rw [show n.toNat = c by omega, ho, show i = s.length by omega]
        rfl
      · have h2 : (c : Int) ≠ n := ne_of_beq_false h2
        show _ = _
        unfold cutR
        rw [if_neg h1, if_neg (fun h => by have := hn h.1; omega)]
        rfl
theorem s_Cut (hu : HasU8) (s : Str) (n : Int) (hs : s.length ≤ 1048576) : PSpec Tryd.prog 25 [.s s, .i .i64 n] (cutR s n) :=
  pspec_of_vc Γ_good Tryd.func25 rfl Tryd.call25 Tryd.results25 Tryd.ntmps25 (Nat.le_of_ble_eq_true rfl) (w_Cut hu s n hs)
theorem w_law5 (hu : HasU8) (l : List Int) (s : Str) (n : Int) (hl : l.length ≤ 1048576) (hr : ∀ x ∈ l, -2147483648 ≤ x ∧ x ≤ 2147483647) (hs : s.length ≤ 1048576) : vc Tryd.prog Γ 110 [0, 1, 2, 6, 7, 8, 10, 11, 12, 13, 14, 15, 16, 18, 19, 20, 21, 22, 28, 36, 56, 65, 81, 90, 91, 92, 93] (Tryd.f5.body.getD .skip) (postK Γ [.tmp 6] (fun v => v = .b true)) ⟨argSlots 0 [.rd .rune l, .s s, .i .i64 n], []⟩ := by
  intro _
  refine Exists.intro [] (Exists.intro [] (Exists.intro [] (Exists.intro Nat (Exists.intro (fun k => k ≤ l.length) (Exists.intro (fun k => ⟨[(0, .rd .rune l), (1, .s s), (2, .i .i64 n), (7, .s (encG (l.take k))), (8, .i .i64 (errI (l.take k))), (19, .rd .rune l), (20, .i .i64 l.length), (21, .i .i64 k)], []⟩) (Exists.intro (fun k => l.length - k) (Exists.intro 0 (And.intro (Nat.zero_le _) (And.intro ?_ ?_)))))))))
  · (repeat' (first | exact trivial | exact Or.inl rfl | refine And.intro ?_ ?_))
  · intro k hk0
    refine And.intro (fun h => ?_) (fun h => ?_)
    · have hk : k < l.length := by have : (k : Int) < l.length := of_decide_eq_true h; omega
      refine And.intro ⟨by omega, by omega⟩ ?_
      have hg : l.getD (Int.toNat k) 0 = l[k] := by rw [Int.toNat_natCast, List.getD_eq_getElem?_getD, List.getElem?_eq_getElem hk]; rfl
      have hm : l[k] ∈ l := List.getElem_mem hk
      have hrk := hr _ hm
      have hw : IntKind.i64.wrap l[k] = l[k] := IntWalk.i64_in _ ⟨by omega, by omega⟩
      rw [show l.getD (Int.toNat k) (dflt .rune) = l[k] from hg]
      have he := encG_step hk rfl
      have hle := encG_le (l.take k)
      have hlt : (l.take k).length ≤ k := by rw [List.length_take]; omega
      have hml : (4194308 : Nat) ≤ maxLen := by unfold maxLen; omega
      have q9 : PSpec Tryd.prog 9 [.i .i64 (IntKind.i64.wrap l[k])] (.b (decide (scalar l[k]))) := by rw [hw]; exact s_Scalar l[k]
      refine Or.inl (Exists.intro _ (And.intro (q9) ?_))
      refine And.intro (fun h1 => ?_) (fun h1 => ?_)
      · have h1 : ¬ scalar l[k] := by simpa using h1
        rw [if_neg h1, List.append_nil] at he
        have hmk : l[k] ∈ l.take (k + 1) := by
          rw [List.take_add_one, List.getElem?_eq_getElem hk]
          exact List.mem_append_right _ (List.mem_singleton.2 rfl)
        have hn : ¬ ∀ x ∈ l.take (k + 1), scalar x := fun h => h1 (h _ hmk)
        refine And.intro ⟨by omega, by omega⟩ ?_
        refine Exists.intro [] (Exists.intro (k + 1) (And.intro hk (And.intro ?_ ?_)))
        · dsimp only
          rw [he, errI_bad hn]
          (repeat' (first | exact trivial | exact Or.inl rfl | refine And.intro ?_ ?_))
        · show l.length - (k + 1) < l.length - k
          omega
      · have h1 : scalar l[k] := by simpa using h1
        rw [if_pos h1] at he
        have hn : (∀ x ∈ l.take (k + 1), scalar x) ↔ ∀ x ∈ l.take k, scalar x := by
          rw [List.take_add_one, List.getElem?_eq_getElem hk]
          simp only [List.mem_append]
          refine ⟨fun h x hx => h x (.inl hx), fun h x hx => ?_⟩
          rcases hx with hx | hx
          · exact h x hx
          · cases List.mem_singleton.1 hx
            exact h1
        have q10 : PSpec Tryd.prog 10 [.i .i64 (IntKind.i64.wrap l[k])] (.s (encS l[k])) := by rw [hw]; exact s_CodeOf l[k] h1
        have h4 := encS_le l[k]
        refine Or.inl (Exists.intro _ (And.intro (q10) ?_))
        refine And.intro (by omega) ?_
        refine And.intro ⟨by omega, by omega⟩ ?_
        refine Exists.intro [] (Exists.intro (k + 1) (And.intro hk (And.intro ?_ ?_)))
        · dsimp only
          rw [he, errI_same hn]
          (repeat' (first | exact trivial | exact Or.inl rfl | refine And.intro ?_ ?_))
        · show l.length - (k + 1) < l.length - k
          omega
    · have hk : k = l.length := by have : ¬ (k : Int) < l.length := of_decide_eq_false h; omega
      subst hk
      rw [List.take_length]
      have qt := s_Text l hl hr
      have qc := s_Clean s hs
      have qd := s_Cleaned s hs
      have qx := s_Cut hu s n hs
      have qb := s_BadPlace s
      unfold cutR at qx
      by_cases hsc : ∀ x ∈ l, scalar x
      · rw [if_pos hsc] at qt
        rw [errI_good hsc]
        rw [encG_all hsc]
        (focus (refine And.intro (fun h9 => ?_) ?_; (focus (exfalso; revert h9; first | decide | (simp <;> omega) | (intro h9; simp at h9 <;> omega))); refine fun _ => ?_))
        refine Or.inl (Exists.intro _ (And.intro (qt) ?_))
        (focus (refine And.intro ?_ (fun h9 => ?_); rotate_left 1; (focus (exfalso; revert h9; first | decide | (simp <;> omega) | (intro h9; simp at h9 <;> omega))); refine fun _ => ?_))
        (focus (refine And.intro ?_ (fun h9 => ?_); rotate_left 1; (focus (exfalso; revert h9; first | decide | (simp <;> omega) | (intro h9; simp at h9 <;> omega))); refine fun _ => ?_))
        refine Or.inl (Exists.intro _ (And.intro (qc) ?_))
        refine Or.inl (Exists.intro _ (And.intro (qd) ?_))
        (focus (refine And.intro (fun h9 => ?_) ?_; (focus (exfalso; revert h9; first | decide | (simp <;> omega) | (intro h9; simp at h9 <;> omega))); refine fun _ => ?_))
        by_cases hb : 0 ≤ bad s
        · rw [if_pos hb] at qx
          refine Or.inl (Exists.intro _ (And.intro (qx) ?_))
          refine Or.inl (Exists.intro _ (And.intro (qb) ?_))
          refine And.intro (fun _ => ?_) (fun h9 => absurd hb (of_decide_eq_false h9))
          (focus (refine And.intro ?_ (fun h9 => ?_); rotate_left 1; (focus (exfalso; revert h9; first | decide | (simp <;> omega) | (intro h9; simp at h9 <;> omega))); refine fun _ => ?_))
          rfl
        · rw [if_neg hb] at qx
          have qs := s_Scalars s hs (by omega)
          have hrl := runes_len s
          have hrs := runes_scalar s
          by_cases hn : 0 ≤ n ∧ n ≤ (runes s).length
          · rw [if_pos hn] at qx
            refine Or.inl (Exists.intro _ (And.intro (qx) ?_))
            refine Or.inl (Exists.intro _ (And.intro (qb) ?_))
            refine And.intro (fun h9 => absurd (of_decide_eq_true h9) hb) (fun _ => ?_)
            refine Or.inl (Exists.intro _ (And.intro (qs) ?_))
            refine And.intro (fun h9 => ?_) (fun h9 => absurd (of_decide_eq_true h9) (by omega))
            intro _
            refine And.intro (fun h9 => absurd (of_decide_eq_true h9) (by omega)) (fun _ => ?_)
            refine And.intro ⟨by omega, by omega, by omega⟩ ?_
            intro _
            have htk : ((runes s).take (Int.toNat n)).drop (Int.toNat 0) = (runes s).take n.toNat := rfl
            have htl : ((runes s).take n.toNat).length = n.toNat := by rw [List.length_take]; omega
            rw [htk]
            refine Exists.intro [] (Exists.intro [] (Exists.intro [] (Exists.intro Nat (Exists.intro (fun k => k ≤ n.toNat) (Exists.intro (fun k => ⟨[(13, .i .i64 (offs s n.toNat)), (14, .i .i64 0), (16, .i .i64 (encL (((runes s).take n.toNat).take k)).length), (90, .rd .rune ((runes s).take n.toNat)), (91, .i .i64 ((runes s).take n.toNat).length), (92, .i .i64 k)], []⟩) (Exists.intro (fun k => n.toNat - k) (Exists.intro 0 (And.intro (Nat.zero_le _) (And.intro ?_ ?_)))))))))
            · (repeat' (first | exact trivial | exact Or.inl rfl | refine And.intro ?_ ?_))
            · intro k hk0
              have hle := encL_le (((runes s).take n.toNat).take k)
              have hlt : (((runes s).take n.toNat).take k).length ≤ k := by rw [List.length_take]; omega
              refine And.intro (fun h => ?_) (fun h => ?_)
              · have hk : k < n.toNat := by have : (k : Int) < ((runes s).take n.toNat).length := of_decide_eq_true h; omega
                refine And.intro ⟨by omega, by omega⟩ ?_
                have hkl : k < ((runes s).take n.toNat).length := by omega
                have hm : ((runes s).take n.toNat)[k] ∈ runes s := List.mem_of_mem_take (List.getElem_mem hkl)
                have hsk := hrs _ hm
                have hg : ((runes s).take n.toNat).getD (Int.toNat k) (dflt .rune) = ((runes s).take n.toNat)[k] := by rw [Int.toNat_natCast, List.getD_eq_getElem?_getD, List.getElem?_eq_getElem hkl]; rfl
                rw [hg]
                have hw : IntKind.i64.wrap ((runes s).take n.toNat)[k] = ((runes s).take n.toNat)[k] := by unfold scalar at hsk; exact IntWalk.i64_in _ ⟨by omega, by omega⟩
                have q10 : PSpec Tryd.prog 10 [.i .i64 (IntKind.i64.wrap ((runes s).take n.toNat)[k])] (.s (encS ((runes s).take n.toNat)[k])) := by rw [hw]; exact s_CodeOf _ hsk
                have h4 := encS_le ((runes s).take n.toNat)[k]
                have he : encL (((runes s).take n.toNat).take (k + 1)) = encL (((runes s).take n.toNat).take k) ++ encS ((runes s).take n.toNat)[k] := by
                  rw [List.take_add_one, List.getElem?_eq_getElem hkl, encL_append]
                  exact congrArg _ (encL_one _)
                refine Or.inl (Exists.intro _ (And.intro (q10) ?_))
                intro _
                refine And.intro ⟨by omega, by omega⟩ ?_
                refine And.intro ⟨by omega, by omega⟩ ?_
                refine Exists.intro [] (Exists.intro (k + 1) (And.intro hk (And.intro ?_ ?_)))
                · dsimp only
                  rw [he, List.length_append]
                  (repeat' (first | exact trivial | exact Or.inl rfl | refine And.intro ?_ ?_))
                · show n.toNat - (k + 1) < n.toNat - k
                  omega
              · have hk : k = n.toNat := by have : ¬ (k : Int) < ((runes s).take n.toNat).length := of_decide_eq_false h; omega
                subst hk
                rw [List.take_of_length_le (l := (runes s).take n.toNat) (by omega)]
                (focus (refine And.intro ?_ (fun h9 => ?_); rotate_left 1; (focus (exfalso; revert h9; first | decide | (simp <;> omega) | (intro h9; simp at h9 <;> omega))); refine fun _ => ?_))
                show _ = _
                exact congrArg AV.b (by show (((encL ((runes s).take n.toNat)).length : Int) == ((encL ((runes s).take n.toNat)).length : Int)) = true; exact beq_self_eq_true _)
          · rw [if_neg hn] at qx
            refine Or.inl (Exists.intro _ (And.intro (qx) ?_))
            refine Or.inl (Exists.intro _ (And.intro (qb) ?_))
            refine And.intro (fun h9 => absurd (of_decide_eq_true h9) hb) (fun _ => ?_)
            refine Or.inl (Exists.intro _ (And.intro (qs) ?_))
            by_cases h0 : n < 0
            · refine And.intro (fun h9 => absurd h0 (of_decide_eq_false h9)) (fun h9 => ?_)
              (focus (refine And.intro ?_ (fun h9 => ?_); rotate_left 1; (focus (exfalso; revert h9; first | decide | (simp <;> omega) | (intro h9; simp at h9 <;> omega))); refine fun _ => ?_))
              (focus (refine And.intro ?_ (fun h9 => ?_); rotate_left 1; (focus (exfalso; revert h9; first | decide | (simp <;> omega) | (intro h9; simp at h9 <;> omega))); refine fun _ => ?_))
              rfl
            · refine And.intro (fun h9 => ?_) (fun h9 => absurd h9 (by simpa using h0))
              intro _
              refine And.intro (fun _ => ?_) (fun h9 => absurd (show ((runes s).length : Int) < n by omega) (of_decide_eq_false h9))
              (focus (refine And.intro ?_ (fun h9 => ?_); rotate_left 1; (focus (exfalso; revert h9; first | decide | (simp <;> omega) | (intro h9; simp at h9 <;> omega))); refine fun _ => ?_))
              rfl
      · rw [if_neg hsc] at qt
        rw [errI_bad hsc]
        (focus (refine And.intro ?_ (fun h9 => ?_); rotate_left 1; (focus (exfalso; revert h9; first | decide | (simp <;> omega) | (intro h9; simp at h9 <;> omega))); refine fun _ => ?_))
        refine Or.inl (Exists.intro _ (And.intro (qt) ?_))
        (focus (refine And.intro ?_ (fun h9 => ?_); rotate_left 1; (focus (exfalso; revert h9; first | decide | (simp <;> omega) | (intro h9; simp at h9 <;> omega))); refine fun _ => ?_))
        (focus (refine And.intro ?_ (fun h9 => ?_); rotate_left 1; (focus (exfalso; revert h9; first | decide | (simp <;> omega) | (intro h9; simp at h9 <;> omega))); refine fun _ => ?_))
        refine Or.inl (Exists.intro _ (And.intro (qc) ?_))
        refine Or.inl (Exists.intro _ (And.intro (qd) ?_))
        (focus (refine And.intro (fun h9 => ?_) ?_; (focus (exfalso; revert h9; first | decide | (simp <;> omega) | (intro h9; simp at h9 <;> omega))); refine fun _ => ?_))
        by_cases hb : 0 ≤ bad s
        · rw [if_pos hb] at qx
          refine Or.inl (Exists.intro _ (And.intro (qx) ?_))
          refine Or.inl (Exists.intro _ (And.intro (qb) ?_))
          refine And.intro (fun _ => ?_) (fun h9 => absurd hb (of_decide_eq_false h9))
          (focus (refine And.intro ?_ (fun h9 => ?_); rotate_left 1; (focus (exfalso; revert h9; first | decide | (simp <;> omega) | (intro h9; simp at h9 <;> omega))); refine fun _ => ?_))
          rfl
        · rw [if_neg hb] at qx
          have qs := s_Scalars s hs (by omega)
          have hrl := runes_len s
          have hrs := runes_scalar s
          by_cases hn : 0 ≤ n ∧ n ≤ (runes s).length
          · rw [if_pos hn] at qx
            refine Or.inl (Exists.intro _ (And.intro (qx) ?_))
            refine Or.inl (Exists.intro _ (And.intro (qb) ?_))
            refine And.intro (fun h9 => absurd (of_decide_eq_true h9) hb) (fun _ => ?_)
            refine Or.inl (Exists.intro _ (And.intro (qs) ?_))
            refine And.intro (fun h9 => ?_) (fun h9 => absurd (of_decide_eq_true h9) (by omega))
            intro _
            refine And.intro (fun h9 => absurd (of_decide_eq_true h9) (by omega)) (fun _ => ?_)
            refine And.intro ⟨by omega, by omega, by omega⟩ ?_
            intro _
            have htk : ((runes s).take (Int.toNat n)).drop (Int.toNat 0) = (runes s).take n.toNat := rfl
            have htl : ((runes s).take n.toNat).length = n.toNat := by rw [List.length_take]; omega
            rw [htk]
            refine Exists.intro [] (Exists.intro [] (Exists.intro [] (Exists.intro Nat (Exists.intro (fun k => k ≤ n.toNat) (Exists.intro (fun k => ⟨[(13, .i .i64 (offs s n.toNat)), (14, .i .i64 0), (16, .i .i64 (encL (((runes s).take n.toNat).take k)).length), (90, .rd .rune ((runes s).take n.toNat)), (91, .i .i64 ((runes s).take n.toNat).length), (92, .i .i64 k)], []⟩) (Exists.intro (fun k => n.toNat - k) (Exists.intro 0 (And.intro (Nat.zero_le _) (And.intro ?_ ?_)))))))))
            · (repeat' (first | exact trivial | exact Or.inl rfl | refine And.intro ?_ ?_))
            · intro k hk0
              have hle := encL_le (((runes s).take n.toNat).take k)
              have hlt : (((runes s).take n.toNat).take k).length ≤ k := by rw [List.length_take]; omega
              refine And.intro (fun h => ?_) (fun h => ?_)
              · have hk : k < n.toNat := by have : (k : Int) < ((runes s).take n.toNat).length := of_decide_eq_true h; omega
                refine And.intro ⟨by omega, by omega⟩ ?_
                have hkl : k < ((runes s).take n.toNat).length := by omega
                have hm : ((runes s).take n.toNat)[k] ∈ runes s := List.mem_of_mem_take (List.getElem_mem hkl)
                have hsk := hrs _ hm
                have hg : ((runes s).take n.toNat).getD (Int.toNat k) (dflt .rune) = ((runes s).take n.toNat)[k] := by rw [Int.toNat_natCast, List.getD_eq_getElem?_getD, List.getElem?_eq_getElem hkl]; rfl
                rw [hg]
                have hw : IntKind.i64.wrap ((runes s).take n.toNat)[k] = ((runes s).take n.toNat)[k] := by unfold scalar at hsk; exact IntWalk.i64_in _ ⟨by omega, by omega⟩
                have q10 : PSpec Tryd.prog 10 [.i .i64 (IntKind.i64.wrap ((runes s).take n.toNat)[k])] (.s (encS ((runes s).take n.toNat)[k])) := by rw [hw]; exact s_CodeOf _ hsk
                have h4 := encS_le ((runes s).take n.toNat)[k]
                have he : encL (((runes s).take n.toNat).take (k + 1)) = encL (((runes s).take n.toNat).take k) ++ encS ((runes s).take n.toNat)[k] := by
                  rw [List.take_add_one, List.getElem?_eq_getElem hkl, encL_append]
                  exact congrArg _ (encL_one _)
                refine Or.inl (Exists.intro _ (And.intro (q10) ?_))
                intro _
                refine And.intro ⟨by omega, by omega⟩ ?_
                refine And.intro ⟨by omega, by omega⟩ ?_
                refine Exists.intro [] (Exists.intro (k + 1) (And.intro hk (And.intro ?_ ?_)))
                · dsimp only
                  rw [he, List.length_append]
                  (repeat' (first | exact trivial | exact Or.inl rfl | refine And.intro ?_ ?_))
                · show n.toNat - (k + 1) < n.toNat - k
                  omega
              · have hk : k = n.toNat := by have : ¬ (k : Int) < ((runes s).take n.toNat).length := of_decide_eq_false h; omega
                subst hk
                rw [List.take_of_length_le (l := (runes s).take n.toNat) (by omega)]
                (focus (refine And.intro ?_ (fun h9 => ?_); rotate_left 1; (focus (exfalso; revert h9; first | decide | (simp <;> omega) | (intro h9; simp at h9 <;> omega))); refine fun _ => ?_))
                show _ = _
                exact congrArg AV.b (by show (((encL ((runes s).take n.toNat)).length : Int) == ((encL ((runes s).take n.toNat)).length : Int)) = true; exact beq_self_eq_true _)
          · rw [if_neg hn] at qx
            refine Or.inl (Exists.intro _ (And.intro (qx) ?_))
            refine Or.inl (Exists.intro _ (And.intro (qb) ?_))
            refine And.intro (fun h9 => absurd (of_decide_eq_true h9) hb) (fun _ => ?_)
            refine Or.inl (Exists.intro _ (And.intro (qs) ?_))
            by_cases h0 : n < 0
            · refine And.intro (fun h9 => absurd h0 (of_decide_eq_false h9)) (fun h9 => ?_)
              (focus (refine And.intro ?_ (fun h9 => ?_); rotate_left 1; (focus (exfalso; revert h9; first | decide | (simp <;> omega) | (intro h9; simp at h9 <;> omega))); refine fun _ => ?_))
              (focus (refine And.intro ?_ (fun h9 => ?_); rotate_left 1; (focus (exfalso; revert h9; first | decide | (simp <;> omega) | (intro h9; simp at h9 <;> omega))); refine fun _ => ?_))
              rfl
            · refine And.intro (fun h9 => ?_) (fun h9 => absurd h9 (by simpa using h0))
              intro _
              refine And.intro (fun _ => ?_) (fun h9 => absurd (show ((runes s).length : Int) < n by omega) (of_decide_eq_false h9))
              (focus (refine And.intro ?_ (fun h9 => ?_); rotate_left 1; (focus (exfalso; revert h9; first | decide | (simp <;> omega) | (intro h9; simp at h9 <;> omega))); refine fun _ => ?_))
              rfl
theorem s_law5 (hu : HasU8) (l : List Int) (s : Str) (n : Int) (hl : l.length ≤ 1048576) (hr : ∀ x ∈ l, -2147483648 ≤ x ∧ x ≤ 2147483647) (hs : s.length ≤ 1048576) : PSpec Tryd.prog 5 [.rd .rune l, .s s, .i .i64 n] (.b true) :=
  pspec_of_vc Γ_good Tryd.func5 rfl Tryd.call5 Tryd.results5 Tryd.ntmps5 (Nat.le_of_ble_eq_true rfl) (w_law5 hu l s n hl hr hs)
end
end Go.Proofs.YtjlbaagnoppfgaaDoor
