/-
  'typecaselaw.TreeParses' returns true, whatever the input, and the input reads as it did. No conditions.
-/
import Derived.Test.YtdcdmojbkmedpaaTr4
import Derived.Deep.Slices
import Derived.Carry
import Derived.DataReads
import Derived.Test.YtdcdmojbkmedpaaRows
import Derived.WalkKit
import Derived.ProofKit
import Derived.OpenShut
import Derived.JoinedCond
import Derived.ChangeMaps5
import Derived.HandedShaped
set_option linter.constructorNameAsVariable false
set_option linter.unusedVariables false
set_option linter.unusedSimpArgs false
set_option linter.unusedSectionVars false
section
namespace Go.Proofs.Ytdcdmojbkmedpaa
set_option linter.unusedSectionVars false
set_option linter.unusedSimpArgs false
set_option linter.unusedVariables false
open Go Go.SX Go.Tk Go.Tr
set_option maxRecDepth 100000
set_option maxHeartbeats 1000000
section
variable [G : Globs]
theorem rawD_le (s : Str) (ts : List Token) (so : List Int) (n : Nat) (d : Int) (i : Nat) : ∃ cs, rawD s ts so (n + 1) d i = .agg cs ∧ AVles cs (enc .node (valD s ts so (n + 1) d i).1) := by
  unfold rawD
  split
  · exact ⟨_, rfl, .inl rfl, .inl rfl, .inl rfl, .inl rfl, trivial⟩
  · rename_i h
    refine bareN_le ?_
    rw [valD] at h ⊢
    split at h
    · rename_i h2
      rw [if_pos h2]
      rfl
    · rename_i h2
      rw [if_neg h2]
      split at h
      · rename_i h3
        rw [if_pos h3]
        rfl
      · rename_i h3
        rw [if_neg h3]
        split at h
        · rename_i h4
          rw [if_pos h4]
          rfl
        · rename_i h4
          rw [if_neg h4]
          split at h
          · rename_i h5
            rw [if_pos h5, if_neg (fun h0 => h ⟨Or.inr h5, h3, h0⟩)]
            rfl
          · rename_i h5
            rw [if_neg h5, if_neg (fun h0 => h ⟨by omega, h3, h0⟩)]
            rfl
theorem s_valueDE (s : Str) (ts : List Token) (so : List Int) (hso : ∀ x ∈ so, 0 ≤ x ∧ x < (ts.length : Int)) (hl : so.length ≤ 100000) (hts : ts.length ≤ 100000) (hfr : ∀ t ∈ ts, t.kind = 6 → 0 ≤ t.fr ∧ t.fr < s.length) : ∀ (n : Nat) (d : Int) (i : Nat), i ≤ so.length → n ≤ 1000000 → 2 * (so.length - i) + 1 ≤ n → 0 ≤ d ∧ d ≤ 20 →
    CSpec Try.prog 63 [.pt 1000 0, .i .i64 d] [(1000, [.s s, .rd .token ts, .rd .int so, .i .i64 (i : Int), .i .i64 0, .i .i64 0])] (.agg (enc .node (valD s ts so n d i).1)) [(1000, [.s s, .rd .token ts, .rd .int so, .i .i64 ((valD s ts so n d i).2.1 : Int), .i .i64 (valD s ts so n d i).2.2.1, .i .i64 (valD s ts so n d i).2.2.2])] := by
  intro n
  induction n using Nat.strongRecOn with
  | _ n ih =>
    intro d i hi hn hneed hd
    obtain ⟨n, rfl⟩ : ∃ k, n = k + 1 := ⟨n - 1, by omega⟩
    have h := s_valueD s ts so n i d hso hi hl hts (by omega) (by omega) hd hfr (fun m hm c hc hmc hd2 => ih m (by omega) (d + 1) c hc (by omega) hmc (by omega))
    obtain ⟨cs, h1, h2⟩ := rawD_le s ts so n d i
    rw [h1] at h
    exact h.aggLe h2
theorem w_Parse (hml : HasML) (s : Str) : vc Try.prog Γ 54 [0, 2, 3, 4, 5, 6, 7, 8, 15, 21, 32, 39] (Try.f25.body.getD .skip) (postK Γ [.cell 2 50, .tmp 3, .tmp 4] (fun v => v = .tup [rawN (parsP s).1, .i .i64 (parsP s).2.1, .i .i64 (parsP s).2.2])) ⟨argSlots 0 [.s s], []⟩ := by
  have qa := s_Cut hml s
  unfold cutR at qa
  obtain ⟨R, hR⟩ : ∃ R, R = parsP s := ⟨_, rfl⟩
  rw [← hR]
  unfold parsP at hR
  by_cases hs : 20000 < s.length
  · rw [if_pos hs] at qa hR
    refine Or.inl (Exists.intro _ (And.intro (qa) ?_))
    (repeat' (first | (refine And.intro (fun h => ?_) (fun h => ?_) <;> (try simp [-List.getD_eq_getElem?_getD, -Int.pred_toNat] at h) <;> (try (exfalso; first | omega | contradiction))) | (refine And.intro (rng64 (by omega) (by omega)) ?_) | (refine And.intro ⟨by omega, by omega⟩ ?_) | (refine And.intro ⟨by omega, by omega, by omega⟩ ?_) | (intro _)))
    rw [hR]
    show _ = _
    rfl
  · rw [if_neg hs] at qa hR
    have hlen := tokens_len s
    have hgood := tokens_good s
    generalize tokens s 0 = ts at qa hR hlen hgood
    have hfr : ∀ t ∈ ts, t.kind = 6 → 0 ≤ t.fr ∧ t.fr < s.length := fun t ht _ => ⟨(hgood t ht).1, (hgood t ht).2.1⟩
    have hV := s_valueE s ts (by omega) hfr (2 * ts.length + 1) 0 0 (Nat.zero_le _) (by omega) (by omega) (by decide)
    obtain ⟨g1, g2⟩ := (rest_n s ts (2 * ts.length + 1) 0 0 (Nat.zero_le _)).1
    generalize valP s ts (2 * ts.length + 1) 0 0 = x at hV g1 g2 hR
    obtain ⟨⟨xk, xf, xt, xs⟩, xr, xb, xw⟩ := x
    simp only at g1 g2 hR
    have hK := s_skip s ts xr xb xw (by omega) (by omega)
    have hb := sk_le3 ts (show xr ≤ ts.length + 2 * (2 * ts.length + 1) + 2 by omega) (by omega)
    generalize sk ts xr = b at hK hb hR
    have hF := s_fail s ts b xb xw 4 (by omega) (by omega)
    unfold failW at hF
    refine Or.inl (Exists.intro _ (And.intro (qa) ?_))
    (repeat' (first | (refine And.intro (fun h => ?_) (fun h => ?_) <;> (try simp [-List.getD_eq_getElem?_getD, -Int.pred_toNat] at h) <;> (try (exfalso; first | omega | contradiction))) | (refine And.intro (rng64 (by omega) (by omega)) ?_) | (refine And.intro ⟨by omega, by omega⟩ ?_) | (refine And.intro ⟨by omega, by omega, by omega⟩ ?_) | (intro _)))
    refine Or.inr (Or.inl (Exists.intro [] (Exists.intro _ (Exists.intro _ (Exists.intro _ (Exists.intro _ (Exists.intro _ (Exists.intro [(1000, 21)] (And.intro (hV) ?_)))))))))
    refine (And.intro rfl (And.intro rfl (And.intro rfl (And.intro rfl (And.intro rfl ?_)))))
    refine Or.inr (Or.inl (Exists.intro [] (Exists.intro _ (Exists.intro _ (Exists.intro _ (Exists.intro _ (Exists.intro _ (Exists.intro [(1000, 21)] (And.intro (hK) ?_)))))))))
    refine (And.intro rfl (And.intro rfl (And.intro rfl (And.intro rfl (And.intro rfl ?_)))))
    by_cases hxb : xb = 0
    · rw [if_neg (by omega)] at hR
      rw [if_neg (by omega)] at hF
      by_cases hbl : b < ts.length
      · rw [if_pos hbl] at hR
        (repeat' (first | (refine And.intro (fun h => ?_) (fun h => ?_) <;> (try simp [-List.getD_eq_getElem?_getD, -Int.pred_toNat] at h) <;> (try (exfalso; first | omega | contradiction))) | (refine And.intro (rng64 (by omega) (by omega)) ?_) | (refine And.intro ⟨by omega, by omega⟩ ?_) | (refine And.intro ⟨by omega, by omega, by omega⟩ ?_) | (intro _)))
        refine Or.inr (Or.inl (Exists.intro [] (Exists.intro _ (Exists.intro _ (Exists.intro _ (Exists.intro _ (Exists.intro _ (Exists.intro [(1000, 21)] (And.intro (hF) ?_)))))))))
        refine (And.intro rfl (And.intro rfl (And.intro rfl (And.intro rfl (And.intro rfl ?_)))))
        (repeat' (first | (refine And.intro (fun h => ?_) (fun h => ?_) <;> (try simp [-List.getD_eq_getElem?_getD, -Int.pred_toNat] at h) <;> (try (exfalso; first | omega | contradiction))) | (refine And.intro (rng64 (by omega) (by omega)) ?_) | (refine And.intro ⟨by omega, by omega⟩ ?_) | (refine And.intro ⟨by omega, by omega, by omega⟩ ?_) | (intro _)))
        refine Exists.intro [.take 1, .take 2, .take 3, .take 5, .take 6, .take 7, .tree 5 [0, 4, 8, 9, 10] (.opt 0 (.opt 4 (.opt 8 (.opt 9 (.opt 10 .fin .non) .non) (.opt 9 (.opt 8 (.opt 10 .fin .non) (.opt 10 (.opt 8 .fin .non) .non)) .non)) (.opt 8 (.opt 4 (.opt 9 (.opt 10 .fin .non) .non) (.opt 9 (.opt 4 (.opt 10 .fin .non) .non) .non)) (.opt 9 (.opt 4 (.opt 8 (.opt 10 .fin .non) (.opt 10 (.opt 8 .fin .non) .non)) (.opt 8 (.opt 4 (.opt 10 .fin .non) .non) .non)) .non))) (.opt 4 (.opt 0 (.opt 8 (.opt 9 (.opt 10 .fin .non) .non) (.opt 9 (.opt 8 (.opt 10 .fin .non) (.opt 10 (.opt 8 .fin .non) .non)) .non)) (.opt 8 (.opt 0 (.opt 9 (.opt 10 .fin .non) .non) .non) .non)) (.opt 8 (.opt 0 (.opt 4 (.opt 9 (.opt 10 .fin .non) .non) (.opt 9 (.opt 4 (.opt 10 .fin .non) .non) .non)) (.opt 4 (.opt 0 (.opt 9 (.opt 10 .fin .non) .non) .non) .non)) .non))), .take 11] (And.intro (by kernel_rfl) ?_)
        refine Exists.intro ⟨[(2, .pt 2 0), (3, .i .i64 (plc s ts b)), (48, .i .i64 4)], [(2, [.i .i64 0, .i .i64 0, .i .i64 0, .nl])]⟩ (And.intro ?_ ?_)
        · (repeat' (first | exact trivial | exact Or.inl rfl | exact Or.inr (Or.inl ⟨rfl, _, rfl⟩) | exact Or.inr (Or.inr (Or.inr ⟨_, _, _, rfl, rfl⟩)) | refine And.intro ?_ ?_))
        rw [hR]
        show _ = _
        rfl
      · rw [if_neg hbl] at hR
        (repeat' (first | (refine And.intro (fun h => ?_) (fun h => ?_) <;> (try simp [-List.getD_eq_getElem?_getD, -Int.pred_toNat] at h) <;> (try (exfalso; first | omega | contradiction))) | (refine And.intro (rng64 (by omega) (by omega)) ?_) | (refine And.intro ⟨by omega, by omega⟩ ?_) | (refine And.intro ⟨by omega, by omega, by omega⟩ ?_) | (intro _)))
        rw [hR]
        show _ = _
        rfl
    · rw [if_pos hxb] at hR
      rw [if_pos hxb] at hF
      by_cases hbl : b < ts.length
      · (repeat' (first | (refine And.intro (fun h => ?_) (fun h => ?_) <;> (try simp [-List.getD_eq_getElem?_getD, -Int.pred_toNat] at h) <;> (try (exfalso; first | omega | contradiction))) | (refine And.intro (rng64 (by omega) (by omega)) ?_) | (refine And.intro ⟨by omega, by omega⟩ ?_) | (refine And.intro ⟨by omega, by omega, by omega⟩ ?_) | (intro _)))
        refine Or.inr (Or.inl (Exists.intro [] (Exists.intro _ (Exists.intro _ (Exists.intro _ (Exists.intro _ (Exists.intro _ (Exists.intro [(1000, 21)] (And.intro (hF) ?_)))))))))
        refine (And.intro rfl (And.intro rfl (And.intro rfl (And.intro rfl (And.intro rfl ?_)))))
        (repeat' (first | (refine And.intro (fun h => ?_) (fun h => ?_) <;> (try simp [-List.getD_eq_getElem?_getD, -Int.pred_toNat] at h) <;> (try (exfalso; first | omega | contradiction))) | (refine And.intro (rng64 (by omega) (by omega)) ?_) | (refine And.intro ⟨by omega, by omega⟩ ?_) | (refine And.intro ⟨by omega, by omega, by omega⟩ ?_) | (intro _)))
        refine Exists.intro [.take 1, .take 2, .take 3, .take 5, .take 6, .take 7, .tree 5 [0, 4, 8, 9, 10] (.opt 0 (.opt 4 (.opt 8 (.opt 9 (.opt 10 .fin .non) .non) (.opt 9 (.opt 8 (.opt 10 .fin .non) (.opt 10 (.opt 8 .fin .non) .non)) .non)) (.opt 8 (.opt 4 (.opt 9 (.opt 10 .fin .non) .non) (.opt 9 (.opt 4 (.opt 10 .fin .non) .non) .non)) (.opt 9 (.opt 4 (.opt 8 (.opt 10 .fin .non) (.opt 10 (.opt 8 .fin .non) .non)) (.opt 8 (.opt 4 (.opt 10 .fin .non) .non) .non)) .non))) (.opt 4 (.opt 0 (.opt 8 (.opt 9 (.opt 10 .fin .non) .non) (.opt 9 (.opt 8 (.opt 10 .fin .non) (.opt 10 (.opt 8 .fin .non) .non)) .non)) (.opt 8 (.opt 0 (.opt 9 (.opt 10 .fin .non) .non) .non) .non)) (.opt 8 (.opt 0 (.opt 4 (.opt 9 (.opt 10 .fin .non) .non) (.opt 9 (.opt 4 (.opt 10 .fin .non) .non) .non)) (.opt 4 (.opt 0 (.opt 9 (.opt 10 .fin .non) .non) .non) .non)) .non))), .take 11] (And.intro (by kernel_rfl) ?_)
        refine Exists.intro ⟨[(2, .pt 2 0), (3, .i .i64 xw), (48, .i .i64 xb)], [(2, [.i .i64 0, .i .i64 0, .i .i64 0, .nl])]⟩ (And.intro ?_ ?_)
        · (repeat' (first | exact trivial | exact Or.inl rfl | exact Or.inr (Or.inl ⟨rfl, _, rfl⟩) | exact Or.inr (Or.inr (Or.inr ⟨_, _, _, rfl, rfl⟩)) | refine And.intro ?_ ?_))
        rw [hR]
        show _ = _
        rfl
      · (repeat' (first | (refine And.intro (fun h => ?_) (fun h => ?_) <;> (try simp [-List.getD_eq_getElem?_getD, -Int.pred_toNat] at h) <;> (try (exfalso; first | omega | contradiction))) | (refine And.intro (rng64 (by omega) (by omega)) ?_) | (refine And.intro ⟨by omega, by omega⟩ ?_) | (refine And.intro ⟨by omega, by omega, by omega⟩ ?_) | (intro _)))
        refine Exists.intro [.take 1, .take 2, .take 3, .take 5, .take 6, .take 7, .tree 5 [0, 4, 8, 9, 10] (.opt 0 (.opt 4 (.opt 8 (.opt 9 (.opt 10 .fin .non) .non) (.opt 9 (.opt 8 (.opt 10 .fin .non) (.opt 10 (.opt 8 .fin .non) .non)) .non)) (.opt 8 (.opt 4 (.opt 9 (.opt 10 .fin .non) .non) (.opt 9 (.opt 4 (.opt 10 .fin .non) .non) .non)) (.opt 9 (.opt 4 (.opt 8 (.opt 10 .fin .non) (.opt 10 (.opt 8 .fin .non) .non)) (.opt 8 (.opt 4 (.opt 10 .fin .non) .non) .non)) .non))) (.opt 4 (.opt 0 (.opt 8 (.opt 9 (.opt 10 .fin .non) .non) (.opt 9 (.opt 8 (.opt 10 .fin .non) (.opt 10 (.opt 8 .fin .non) .non)) .non)) (.opt 8 (.opt 0 (.opt 9 (.opt 10 .fin .non) .non) .non) .non)) (.opt 8 (.opt 0 (.opt 4 (.opt 9 (.opt 10 .fin .non) .non) (.opt 9 (.opt 4 (.opt 10 .fin .non) .non) .non)) (.opt 4 (.opt 0 (.opt 9 (.opt 10 .fin .non) .non) .non) .non)) .non))), .take 11] (And.intro (by kernel_rfl) ?_)
        refine Exists.intro ⟨[(2, .pt 2 0), (3, .i .i64 xw), (48, .i .i64 xb)], [(2, [.i .i64 0, .i .i64 0, .i .i64 0, .nl])]⟩ (And.intro ?_ ?_)
        · (repeat' (first | exact trivial | exact Or.inl rfl | exact Or.inr (Or.inl ⟨rfl, _, rfl⟩) | exact Or.inr (Or.inr (Or.inr ⟨_, _, _, rfl, rfl⟩)) | refine And.intro ?_ ?_))
        rw [hR]
        show _ = _
        rfl
theorem s_Parse (hml : HasML) (s : Str) : PSpec Try.prog 25 [.s s] (.tup [rawN (parsP s).1, .i .i64 (parsP s).2.1, .i .i64 (parsP s).2.2]) :=
  pspec_of_vc Γ_good Try.func25 rfl Try.call25 Try.results25 Try.ntmps25 (Nat.le_of_ble_eq_true rfl) (w_Parse hml s)
theorem w_Parsed (s : Str) : vc Try.prog Γ 78 [0, 2, 3, 4, 5, 6, 7, 8, 9, 10, 17, 23, 24, 25, 26, 27, 33, 56, 63] (Try.f26.body.getD .skip) (postK Γ [.cell 2 50, .tmp 3, .tmp 4] (fun v => v = .tup [rawN (parsD s).1, .i .i64 (parsD s).2.1, .i .i64 (parsD s).2.2])) ⟨argSlots 0 [.s s], []⟩ := by
  have qa := s_Tokens s
  unfold cutR at qa
  obtain ⟨R, hR⟩ : ∃ R, R = parsD s := ⟨_, rfl⟩
  rw [← hR]
  unfold parsD at hR
  by_cases hs : 20000 < s.length
  · rw [if_pos hs] at qa hR
    refine Or.inl (Exists.intro _ (And.intro (qa) ?_))
    (repeat' (first | (refine And.intro (fun h => ?_) (fun h => ?_) <;> (try simp [-List.getD_eq_getElem?_getD, -Int.pred_toNat] at h) <;> (try (exfalso; first | omega | contradiction))) | (refine And.intro (rng64 (by omega) (by omega)) ?_) | (refine And.intro ⟨by omega, by omega⟩ ?_) | (refine And.intro ⟨by omega, by omega, by omega⟩ ?_) | (intro _)))
    rw [hR]
    show _ = _
    rfl
  · rw [if_neg hs] at qa hR
    have hlen := tokens_len s
    have hgood := tokens_good s
    generalize tokens s 0 = ts at qa hR hlen hgood
    have hfr : ∀ t ∈ ts, t.kind = 6 → 0 ≤ t.fr ∧ t.fr < s.length := fun t ht _ => ⟨(hgood t ht).1, (hgood t ht).2.1⟩
    refine Or.inl (Exists.intro _ (And.intro (qa) ?_))
    (repeat' (first | (refine And.intro (fun h => ?_) (fun h => ?_) <;> (try simp [-List.getD_eq_getElem?_getD, -Int.pred_toNat] at h) <;> (try (exfalso; first | omega | contradiction))) | (refine And.intro (rng64 (by omega) (by omega)) ?_) | (refine And.intro ⟨by omega, by omega⟩ ?_) | (refine And.intro ⟨by omega, by omega, by omega⟩ ?_) | (intro _)))
    refine Exists.intro [] (Exists.intro [(23, 2, 62, .int)] (Exists.intro [] (Exists.intro (List Int × Nat) (Exists.intro (fun q => q.2 ≤ ts.length ∧ q.1.length ≤ q.2 ∧ q.1 ++ soL ts q.2 = soL ts 0) (Exists.intro (fun ⟨acc, i⟩ => ⟨[(2, .pt 2 0), (5, .rd .token ts), (7, .pt 23 0), (24, .rd .token ts), (25, .i .i64 ts.length), (26, .i .i64 (i : Int))], [(2, [.i .i64 0, .i .i64 0, .i .i64 0, .nl]), (23, [.s s, .rd .token ts, .vec 62 .int acc, .i .i64 0, .i .i64 0, .i .i64 0])]⟩) (Exists.intro (fun q => ts.length - q.2) (Exists.intro ([], 0) (And.intro ⟨Nat.zero_le _, Nat.le_refl _, rfl⟩ (And.intro ?_ ?_)))))))))
    · (repeat' (first | exact trivial | exact Or.inl rfl | exact Or.inr (Or.inl ⟨rfl, _, rfl⟩) | exact Or.inr (Or.inr (Or.inr ⟨_, _, _, rfl, rfl⟩)) | refine And.intro ?_ ?_))
    · rintro ⟨acc, i⟩ ⟨hi, hacc, hI⟩
      simp only at hi hacc hI
      refine And.intro (fun hz => ?_) (fun hz => ?_)
      · have hlt := ltD hz
        have hst := soL_step ts hlt
        have hgt : ts.getD (Int.toNat (i : Int)) (dflt .token) = ts.getD i default := by rw [Int.toNat_natCast]
        have hmem : ts.getD i default ∈ ts := by rw [List.getD_eq_getElem?_getD, List.getElem?_eq_getElem hlt]; exact List.getElem_mem hlt
        have hk7 := (hgood _ hmem).2.2.1
        have hal : (acc ++ [(i : Int)]).length = acc.length + 1 := by rw [List.length_append]; rfl
        refine And.intro ⟨by omega, by omega⟩ ?_
        rw [hgt]
        generalize ts.getD i default = t at hst hk7
        have hs0 : sol t = decide (4 ≤ t.kind ∧ t.kind ≤ 7) := rfl
        by_cases hk : 3 < t.kind
        · rw [if_pos (by rw [hs0, decide_eq_true_eq]; omega)] at hst
          rw [hst] at hI
          (repeat' (first | (refine And.intro (fun h => ?_) (fun h => ?_) <;> (try simp [-List.getD_eq_getElem?_getD, -Int.pred_toNat] at h) <;> (try (exfalso; first | omega | contradiction))) | (refine And.intro (rng64 (by omega) (by omega)) ?_) | (refine And.intro ⟨by omega, by omega⟩ ?_) | (refine And.intro ⟨by omega, by omega, by omega⟩ ?_) | (intro _)))
          refine And.intro (show (acc.length + 1) * 8 ≤ 140737488355328 by omega) ?_
          (repeat' (first | (refine And.intro (fun h => ?_) (fun h => ?_) <;> (try simp [-List.getD_eq_getElem?_getD, -Int.pred_toNat] at h) <;> (try (exfalso; first | omega | contradiction))) | (refine And.intro (rng64 (by omega) (by omega)) ?_) | (refine And.intro ⟨by omega, by omega⟩ ?_) | (refine And.intro ⟨by omega, by omega, by omega⟩ ?_) | (intro _)))
          refine Exists.intro [(41, 62)] (Exists.intro (acc ++ [(i : Int)], i + 1) (And.intro ⟨by simp only; omega, by simp only; omega, by simp only; rw [List.append_assoc]; exact hI⟩ (And.intro ?_ ?_)))
          · (repeat' (first | exact trivial | exact Or.inl rfl | exact Or.inr (Or.inl ⟨rfl, _, rfl⟩) | exact Or.inr (Or.inr (Or.inr ⟨_, _, _, rfl, rfl⟩)) | refine And.intro ?_ ?_))
          · (exact Nat.sub_lt_sub_left (by omega) (by omega))
        · rw [if_neg (by rw [hs0, decide_eq_true_eq]; omega)] at hst
          rw [hst] at hI
          (repeat' (first | (refine And.intro (fun h => ?_) (fun h => ?_) <;> (try simp [-List.getD_eq_getElem?_getD, -Int.pred_toNat] at h) <;> (try (exfalso; first | omega | contradiction))) | (refine And.intro (rng64 (by omega) (by omega)) ?_) | (refine And.intro ⟨by omega, by omega⟩ ?_) | (refine And.intro ⟨by omega, by omega, by omega⟩ ?_) | (intro _)))
          refine Exists.intro [] (Exists.intro (acc, i + 1) (And.intro ⟨by simp only; omega, by simp only; omega, hI⟩ (And.intro ?_ ?_)))
          · (repeat' (first | exact trivial | exact Or.inl rfl | exact Or.inr (Or.inl ⟨rfl, _, rfl⟩) | exact Or.inr (Or.inr (Or.inr ⟨_, _, _, rfl, rfl⟩)) | refine And.intro ?_ ?_))
          · (exact Nat.sub_lt_sub_left (by omega) (by omega))
      · have hi2 := geD hi hz
        subst hi2
        rw [soL_end ts (Nat.le_refl _), List.append_nil] at hI
        subst hI
        have hso := soL_mem ts
        have hV := s_valueDE s ts (soL ts 0) hso (by omega) (by omega) hfr (2 * ts.length + 1) 0 0 (Nat.zero_le _) (by omega) (by omega) (by decide)
        obtain ⟨g1, g2, g3⟩ := (restD_n s ts (soL ts 0) (2 * ts.length + 1) 0 0 (Nat.zero_le _)).1
        generalize valD s ts (soL ts 0) (2 * ts.length + 1) 0 0 = x at hV g1 g2 g3 hR
        generalize soL ts 0 = so at hV g1 hso hR hacc
        have hV2 : CSpec Try.prog 63 [.pt 1000 0, .i .i64 0] [(1000, [.s s, .rd .token ts, .vec 1001 .int so, .i .i64 0, .i .i64 0, .i .i64 0])] (.agg (enc .node x.1)) [(1000, [.s s, .rd .token ts, .rd .int so, .i .i64 (x.2.1 : Int), .i .i64 x.2.2.1, .i .i64 x.2.2.2])] := hV.frz 1001 rfl rfl rfl
        clear hV
        obtain ⟨⟨xk, xf, xt, xs⟩, xr, xb, xw⟩ := x
        simp only at g1 g2 g3 hR
        have hF := s_fault s ts so xr xb xw 4 hso g1 (by omega)
        refine Or.inr (Or.inl (Exists.intro [] (Exists.intro _ (Exists.intro _ (Exists.intro _ (Exists.intro _ (Exists.intro _ (Exists.intro [(1000, 23), (1001, 62)] (And.intro (hV2) ?_)))))))))
        refine (And.intro rfl (And.intro rfl (And.intro rfl (And.intro rfl (And.intro rfl ?_)))))
        refine Exists.intro [.blk [0, 1, 2, 3, 4, 5, 6, 7, 8, 9]] (And.intro (by kernel_rfl) ?_)
        by_cases hxb : xb = 0
        · rw [if_neg (by omega)] at hR
          rw [if_neg (by omega), if_neg (by omega)] at hF
          by_cases hbl : xr < so.length
          · rw [if_pos hbl] at hR
            (repeat' (first | (refine And.intro (fun h => ?_) (fun h => ?_) <;> (try simp [-List.getD_eq_getElem?_getD, -Int.pred_toNat] at h) <;> (try (exfalso; first | omega | contradiction))) | (refine And.intro (rng64 (by omega) (by omega)) ?_) | (refine And.intro ⟨by omega, by omega⟩ ?_) | (refine And.intro ⟨by omega, by omega, by omega⟩ ?_) | (intro _)))
            refine Or.inr (Or.inl (Exists.intro [] (Exists.intro _ (Exists.intro _ (Exists.intro _ (Exists.intro _ (Exists.intro _ (Exists.intro [(1000, 23)] (And.intro (hF) ?_)))))))))
            refine (And.intro rfl (And.intro rfl (And.intro rfl (And.intro rfl (And.intro rfl ?_)))))
            (repeat' (first | (refine And.intro (fun h => ?_) (fun h => ?_) <;> (try simp [-List.getD_eq_getElem?_getD, -Int.pred_toNat] at h) <;> (try (exfalso; first | omega | contradiction))) | (refine And.intro (rng64 (by omega) (by omega)) ?_) | (refine And.intro ⟨by omega, by omega⟩ ?_) | (refine And.intro ⟨by omega, by omega, by omega⟩ ?_) | (intro _)))
            refine Exists.intro [.take 1, .take 2, .take 3, .take 5, .take 6, .take 7, .tree 5 [0, 4, 8, 9, 10] (.opt 0 (.opt 4 (.opt 8 (.opt 9 (.opt 10 .fin .non) .non) (.opt 9 (.opt 8 (.opt 10 .fin .non) (.opt 10 (.opt 8 .fin .non) .non)) .non)) (.opt 8 (.opt 4 (.opt 9 (.opt 10 .fin .non) .non) (.opt 9 (.opt 4 (.opt 10 .fin .non) .non) .non)) (.opt 9 (.opt 4 (.opt 8 (.opt 10 .fin .non) (.opt 10 (.opt 8 .fin .non) .non)) (.opt 8 (.opt 4 (.opt 10 .fin .non) .non) .non)) .non))) (.opt 4 (.opt 0 (.opt 8 (.opt 9 (.opt 10 .fin .non) .non) (.opt 9 (.opt 8 (.opt 10 .fin .non) (.opt 10 (.opt 8 .fin .non) .non)) .non)) (.opt 8 (.opt 0 (.opt 9 (.opt 10 .fin .non) .non) .non) .non)) (.opt 8 (.opt 0 (.opt 4 (.opt 9 (.opt 10 .fin .non) .non) (.opt 9 (.opt 4 (.opt 10 .fin .non) .non) .non)) (.opt 4 (.opt 0 (.opt 9 (.opt 10 .fin .non) .non) .non) .non)) .non))), .take 11] (And.intro (by kernel_rfl) ?_)
            refine Exists.intro ⟨[(2, .pt 2 0), (3, .i .i64 (plcD s ts so xr)), (72, .i .i64 4)], [(2, [.i .i64 0, .i .i64 0, .i .i64 0, .nl])]⟩ (And.intro ?_ ?_)
            · (repeat' (first | exact trivial | exact Or.inl rfl | exact Or.inr (Or.inl ⟨rfl, _, rfl⟩) | exact Or.inr (Or.inr (Or.inr ⟨_, _, _, rfl, rfl⟩)) | refine And.intro ?_ ?_))
            rw [hR]
            show _ = _
            rfl
          · rw [if_neg hbl] at hR
            (repeat' (first | (refine And.intro (fun h => ?_) (fun h => ?_) <;> (try simp [-List.getD_eq_getElem?_getD, -Int.pred_toNat] at h) <;> (try (exfalso; first | omega | contradiction))) | (refine And.intro (rng64 (by omega) (by omega)) ?_) | (refine And.intro ⟨by omega, by omega⟩ ?_) | (refine And.intro ⟨by omega, by omega, by omega⟩ ?_) | (intro _)))
            rw [hR]
            show _ = _
            rfl
        · rw [if_pos hxb] at hR
          rw [if_pos hxb, if_pos hxb] at hF
          by_cases hbl : xr < so.length
          · (repeat' (first | (refine And.intro (fun h => ?_) (fun h => ?_) <;> (try simp [-List.getD_eq_getElem?_getD, -Int.pred_toNat] at h) <;> (try (exfalso; first | omega | contradiction))) | (refine And.intro (rng64 (by omega) (by omega)) ?_) | (refine And.intro ⟨by omega, by omega⟩ ?_) | (refine And.intro ⟨by omega, by omega, by omega⟩ ?_) | (intro _)))
            refine Or.inr (Or.inl (Exists.intro [] (Exists.intro _ (Exists.intro _ (Exists.intro _ (Exists.intro _ (Exists.intro _ (Exists.intro [(1000, 23)] (And.intro (hF) ?_)))))))))
            refine (And.intro rfl (And.intro rfl (And.intro rfl (And.intro rfl (And.intro rfl ?_)))))
            (repeat' (first | (refine And.intro (fun h => ?_) (fun h => ?_) <;> (try simp [-List.getD_eq_getElem?_getD, -Int.pred_toNat] at h) <;> (try (exfalso; first | omega | contradiction))) | (refine And.intro (rng64 (by omega) (by omega)) ?_) | (refine And.intro ⟨by omega, by omega⟩ ?_) | (refine And.intro ⟨by omega, by omega, by omega⟩ ?_) | (intro _)))
            refine Exists.intro [.take 1, .take 2, .take 3, .take 5, .take 6, .take 7, .tree 5 [0, 4, 8, 9, 10] (.opt 0 (.opt 4 (.opt 8 (.opt 9 (.opt 10 .fin .non) .non) (.opt 9 (.opt 8 (.opt 10 .fin .non) (.opt 10 (.opt 8 .fin .non) .non)) .non)) (.opt 8 (.opt 4 (.opt 9 (.opt 10 .fin .non) .non) (.opt 9 (.opt 4 (.opt 10 .fin .non) .non) .non)) (.opt 9 (.opt 4 (.opt 8 (.opt 10 .fin .non) (.opt 10 (.opt 8 .fin .non) .non)) (.opt 8 (.opt 4 (.opt 10 .fin .non) .non) .non)) .non))) (.opt 4 (.opt 0 (.opt 8 (.opt 9 (.opt 10 .fin .non) .non) (.opt 9 (.opt 8 (.opt 10 .fin .non) (.opt 10 (.opt 8 .fin .non) .non)) .non)) (.opt 8 (.opt 0 (.opt 9 (.opt 10 .fin .non) .non) .non) .non)) (.opt 8 (.opt 0 (.opt 4 (.opt 9 (.opt 10 .fin .non) .non) (.opt 9 (.opt 4 (.opt 10 .fin .non) .non) .non)) (.opt 4 (.opt 0 (.opt 9 (.opt 10 .fin .non) .non) .non) .non)) .non))), .take 11] (And.intro (by kernel_rfl) ?_)
            refine Exists.intro ⟨[(2, .pt 2 0), (3, .i .i64 xw), (72, .i .i64 xb)], [(2, [.i .i64 0, .i .i64 0, .i .i64 0, .nl])]⟩ (And.intro ?_ ?_)
            · (repeat' (first | exact trivial | exact Or.inl rfl | exact Or.inr (Or.inl ⟨rfl, _, rfl⟩) | exact Or.inr (Or.inr (Or.inr ⟨_, _, _, rfl, rfl⟩)) | refine And.intro ?_ ?_))
            rw [hR]
            show _ = _
            rfl
          · (repeat' (first | (refine And.intro (fun h => ?_) (fun h => ?_) <;> (try simp [-List.getD_eq_getElem?_getD, -Int.pred_toNat] at h) <;> (try (exfalso; first | omega | contradiction))) | (refine And.intro (rng64 (by omega) (by omega)) ?_) | (refine And.intro ⟨by omega, by omega⟩ ?_) | (refine And.intro ⟨by omega, by omega, by omega⟩ ?_) | (intro _)))
            refine Exists.intro [.take 1, .take 2, .take 3, .take 5, .take 6, .take 7, .tree 5 [0, 4, 8, 9, 10] (.opt 0 (.opt 4 (.opt 8 (.opt 9 (.opt 10 .fin .non) .non) (.opt 9 (.opt 8 (.opt 10 .fin .non) (.opt 10 (.opt 8 .fin .non) .non)) .non)) (.opt 8 (.opt 4 (.opt 9 (.opt 10 .fin .non) .non) (.opt 9 (.opt 4 (.opt 10 .fin .non) .non) .non)) (.opt 9 (.opt 4 (.opt 8 (.opt 10 .fin .non) (.opt 10 (.opt 8 .fin .non) .non)) (.opt 8 (.opt 4 (.opt 10 .fin .non) .non) .non)) .non))) (.opt 4 (.opt 0 (.opt 8 (.opt 9 (.opt 10 .fin .non) .non) (.opt 9 (.opt 8 (.opt 10 .fin .non) (.opt 10 (.opt 8 .fin .non) .non)) .non)) (.opt 8 (.opt 0 (.opt 9 (.opt 10 .fin .non) .non) .non) .non)) (.opt 8 (.opt 0 (.opt 4 (.opt 9 (.opt 10 .fin .non) .non) (.opt 9 (.opt 4 (.opt 10 .fin .non) .non) .non)) (.opt 4 (.opt 0 (.opt 9 (.opt 10 .fin .non) .non) .non) .non)) .non))), .take 11] (And.intro (by kernel_rfl) ?_)
            refine Exists.intro ⟨[(2, .pt 2 0), (3, .i .i64 xw), (72, .i .i64 xb)], [(2, [.i .i64 0, .i .i64 0, .i .i64 0, .nl])]⟩ (And.intro ?_ ?_)
            · (repeat' (first | exact trivial | exact Or.inl rfl | exact Or.inr (Or.inl ⟨rfl, _, rfl⟩) | exact Or.inr (Or.inr (Or.inr ⟨_, _, _, rfl, rfl⟩)) | refine And.intro ?_ ?_))
            rw [hR]
            show _ = _
            rfl
theorem s_Parsed (s : Str) : PSpec Try.prog 26 [.s s] (.tup [rawN (parsD s).1, .i .i64 (parsD s).2.1, .i .i64 (parsD s).2.2]) :=
  pspec_of_vc Γ_good Try.func26 rfl Try.call26 Try.results26 Try.ntmps26 (Nat.le_of_ble_eq_true rfl) (w_Parsed s)
end
end Go.Proofs.Ytdcdmojbkmedpaa
end
section
namespace Go.Proofs.Ytdcdmojbkmedpaa
set_option linter.unusedSectionVars false
set_option linter.unusedSimpArgs false
set_option linter.unusedVariables false
open Go Go.SX Go.Tk Go.Tr
set_option maxRecDepth 100000
set_option maxHeartbeats 1000000
section
variable [G : Globs]
theorem w_same1 (a : SX.Node) (hc : ∀ x ∈ a.kids, PSpec Try.prog 27 [.agg (enc .node x), .agg (enc .node x)] (.b true)) : vc Try.prog Γ 53 [2, 3, 4, 5, 33, 36, 37, 38, 51] (Try.f27.body.getD .skip) (postK Γ [.tmp 4] (fun v => v = .b true)) ⟨argSlots 0 [.agg (enc .node a), .agg (enc .node a)], []⟩ := by
  obtain ⟨k, f, t, kids⟩ := a
  simp only at hc
  (repeat' (first | (refine And.intro (fun h => ?_) (fun h => ?_) <;> (try simp [-List.getD_eq_getElem?_getD, -Int.pred_toNat] at h) <;> (try (exfalso; first | omega | contradiction))) | (refine And.intro (rng64 (by omega) (by omega)) ?_) | (refine And.intro ⟨by omega, by omega⟩ ?_) | (refine And.intro ⟨by omega, by omega, by omega⟩ ?_) | (intro _)))
  have hl : kids.length ≤ maxLen := by assumption
  replace hl := len_le hl
  refine Exists.intro [] (Exists.intro [] (Exists.intro [] (Exists.intro Nat (Exists.intro (fun i => i ≤ kids.length) (Exists.intro (fun i => ⟨[(2, .pt 2 0), (3, .pt 3 0), (36, .i .i64 kids.length), (37, .i .i64 (i : Int))], [(2, [.i .i64 k, .i .i64 f, .i .i64 t, .rd .node kids]), (3, [.i .i64 k, .i .i64 f, .i .i64 t, .rd .node kids])]⟩) (Exists.intro (fun i => kids.length - i) (Exists.intro 0 (And.intro (Nat.zero_le _) (And.intro ?_ ?_)))))))))
  · (repeat' (first | exact trivial | exact Or.inl rfl | exact Or.inr (Or.inl ⟨rfl, _, rfl⟩) | exact Or.inr (Or.inr (Or.inr ⟨_, _, _, rfl, rfl⟩)) | refine And.intro ?_ ?_))
  · intro i hi
    refine And.intro (fun hz => ?_) (fun hz => ?_)
    · have hi2 := ltD hz
      have hg := getI (τ := .node) hi2
      refine Exists.intro [.blk [0, 1, 2, 3, 4, 5, 6, 7, 8, 9, 10, 11]] (And.intro (by kernel_rfl) ?_)
      refine And.intro ⟨by omega, by omega⟩ ?_
      refine And.intro ⟨by omega, by omega⟩ ?_
      rw [hg]
      refine Exists.intro _ (And.intro (hc _ (List.getElem_mem hi2)) ?_)
      (repeat' (first | (refine And.intro (fun h => ?_) (fun h => ?_) <;> (try simp [-List.getD_eq_getElem?_getD, -Int.pred_toNat] at h) <;> (try (exfalso; first | omega | contradiction))) | (refine And.intro (rng64 (by omega) (by omega)) ?_) | (refine And.intro ⟨by omega, by omega⟩ ?_) | (refine And.intro ⟨by omega, by omega, by omega⟩ ?_) | (intro _)))
      refine Exists.intro [] (Exists.intro (i + 1) (And.intro hi2 (And.intro ?_ ?_)))
      · (repeat' (first | exact trivial | exact Or.inl rfl | exact Or.inr (Or.inl ⟨rfl, _, rfl⟩) | exact Or.inr (Or.inr (Or.inr ⟨_, _, _, rfl, rfl⟩)) | refine And.intro ?_ ?_))
      · (exact Nat.sub_lt_sub_left (by omega) (by omega))
    · show _ = _
      rfl
theorem s_same1 (a : SX.Node) (hc : ∀ x ∈ a.kids, PSpec Try.prog 27 [.agg (enc .node x), .agg (enc .node x)] (.b true)) : PSpec Try.prog 27 [.agg (enc .node a), .agg (enc .node a)] (.b true) :=
  pspec_of_vc Γ_good Try.func27 rfl Try.call27 Try.results27 Try.ntmps27 (Nat.le_of_ble_eq_true rfl) (w_same1 a hc)
theorem s_sameE : ∀ (n : Nat) (a : SX.Node), SizeOf.sizeOf a < n → PSpec Try.prog 27 [.agg (enc .node a), .agg (enc .node a)] (.b true)
  | 0, a, h => absurd h (Nat.not_lt_zero _)
  | n + 1, a, h => s_same1 a fun x hx => s_sameE n x (by
    obtain ⟨k, f, t, kids⟩ := a
    have h1 : SizeOf.sizeOf x < SizeOf.sizeOf kids := List.sizeOf_lt_of_mem hx
    simp only [SX.Node.mk.sizeOf_spec] at h
    omega)
theorem w_sameZ : vc Try.prog Γ 53 [2, 3, 4, 5, 33, 36, 37, 38, 51] (Try.f27.body.getD .skip) (postK Γ [.tmp 4] (fun v => v = .b true)) ⟨argSlots 0 [.agg [.i .i64 0, .i .i64 0, .i .i64 0, .nl], .agg [.i .i64 0, .i .i64 0, .i .i64 0, .nl]], []⟩ := by
  (repeat' (first | (refine And.intro (fun h => ?_) (fun h => ?_) <;> (try simp [-List.getD_eq_getElem?_getD, -Int.pred_toNat] at h) <;> (try (exfalso; first | omega | contradiction))) | (refine And.intro (rng64 (by omega) (by omega)) ?_) | (refine And.intro ⟨by omega, by omega⟩ ?_) | (refine And.intro ⟨by omega, by omega, by omega⟩ ?_) | (intro _)))
  refine Exists.intro [] (Exists.intro [] (Exists.intro [] (Exists.intro Unit (Exists.intro (fun _ => True) (Exists.intro (fun _ => ⟨[(36, .i .i64 0), (37, .i .i64 0)], []⟩) (Exists.intro (fun _ => 0) (Exists.intro () (And.intro trivial (And.intro ?_ ?_)))))))))
  · (repeat' (first | exact trivial | exact Or.inl rfl | exact Or.inr (Or.inl ⟨rfl, _, rfl⟩) | exact Or.inr (Or.inr (Or.inr ⟨_, _, _, rfl, rfl⟩)) | refine And.intro ?_ ?_))
  · intro _ _
    (focus (refine And.intro (fun h9 => ?_) ?_; (focus (exfalso; revert h9; first | decide | (simp <;> omega) | (intro h9; simp at h9 <;> omega))); refine fun _ => ?_))
    show _ = _
    rfl
theorem s_sameZ : PSpec Try.prog 27 [.agg [.i .i64 0, .i .i64 0, .i .i64 0, .nl], .agg [.i .i64 0, .i .i64 0, .i .i64 0, .nl]] (.b true) :=
  pspec_of_vc Γ_good Try.func27 rfl Try.call27 Try.results27 Try.ntmps27 (Nat.le_of_ble_eq_true rfl) (w_sameZ )
theorem w_law (hml : HasML) (s : Str) : vc Try.prog Γ 34 [0, 2, 3, 4, 5, 6, 7, 8] (Try.f5.body.getD .skip) (postK Γ [.tmp 2] (fun v => v = .b true)) ⟨argSlots 0 [.s s], []⟩ := by
  have qa := s_Parse hml s
  have qb := s_Parsed s
  rw [pars_eq] at qb
  by_cases hk : (parsP s).1.kids = []
  · have hz : (parsP s).1 = zeroN := by
      unfold parsP at hk ⊢
      (repeat' split) <;> first | rfl | (rename_i h1 h2 h3; rw [if_neg h1, if_neg h2, if_neg h3] at hk; cases hk)
    have h0 : rawN (parsP s).1 = .agg [.i .i64 0, .i .i64 0, .i .i64 0, .nl] := by rw [hz]; rfl
    rw [h0] at qa qb
    refine Or.inl (Exists.intro _ (And.intro (qa) ?_))
    refine Or.inl (Exists.intro _ (And.intro (qb) ?_))
    refine Or.inl (Exists.intro _ (And.intro (s_sameZ) ?_))
    (repeat' (first | (refine And.intro (fun h => ?_) (fun h => ?_) <;> (try simp [-List.getD_eq_getElem?_getD, -Int.pred_toNat] at h) <;> (try (exfalso; first | omega | contradiction))) | (refine And.intro (rng64 (by omega) (by omega)) ?_) | (refine And.intro ⟨by omega, by omega⟩ ?_) | (refine And.intro ⟨by omega, by omega, by omega⟩ ?_) | (intro _)))
    refine congrArg AV.b ?_
    exact beq_self_eq_true (parsP s).2.2
  · have h0 : rawN (parsP s).1 = .agg (enc .node (parsP s).1) := by
      unfold rawN
      cases hkk : (parsP s).1.kids with
      | nil => exact absurd hkk hk
      | cons x r => rfl
    rw [h0] at qa qb
    have qc := s_sameE _ (parsP s).1 (Nat.lt_succ_self _)
    generalize parsP s = x at qa qb qc
    obtain ⟨⟨xk, xf, xt, xs⟩, i, e⟩ := x
    refine Or.inl (Exists.intro _ (And.intro (qa) ?_))
    refine Or.inl (Exists.intro _ (And.intro (qb) ?_))
    refine Or.inl (Exists.intro _ (And.intro (qc) ?_))
    (repeat' (first | (refine And.intro (fun h => ?_) (fun h => ?_) <;> (try simp [-List.getD_eq_getElem?_getD, -Int.pred_toNat] at h) <;> (try (exfalso; first | omega | contradiction))) | (refine And.intro (rng64 (by omega) (by omega)) ?_) | (refine And.intro ⟨by omega, by omega⟩ ?_) | (refine And.intro ⟨by omega, by omega, by omega⟩ ?_) | (intro _)))
    refine congrArg AV.b ?_
    exact beq_self_eq_true e
theorem s_law (hml : HasML) (s : Str) : PSpec Try.prog 5 [.s s] (.b true) :=
  pspec_of_vc Γ_good Try.func5 rfl Try.call5 Try.results5 Try.ntmps5 (Nat.le_of_ble_eq_true rfl) (w_law hml s)
end
end Go.Proofs.Ytdcdmojbkmedpaa
end
section
namespace Go.SX
set_option linter.unusedSectionVars false
variable [Globs]
open Go.RowKit Go.WideShapes Go.ChangeShapes Go.Deep
theorem mapM_at {α β : Type} {f : α → Option β} : ∀ {l : List α} {r : List β}, l.mapM f = some r → r.length = l.length ∧ ∀ (j : Nat) x, l[j]? = some x → f x = r[j]? := by
  intro l
  induction l with
  | nil => intro r h; simp at h; subst h; exact ⟨rfl, fun j x h => by simp at h⟩
  | cons a l ih =>
    intro r h
    simp only [List.mapM_cons, Option.bind_eq_bind, Option.bind_eq_some_iff] at h
    obtain ⟨b, hb, bs, hbs, h⟩ := h
    have h : b :: bs = r := by injection h
    subst h
    obtain ⟨h1, h2⟩ := ih hbs
    refine ⟨by simp [h1], fun j x hx => ?_⟩
    cases j with
    | zero => simp at hx; subst hx; simpa using hb
    | succ j => simpa using h2 j x (by simpa using hx)
section
variable {H : Type} {encH : TypeId × Value → H} {P : Program} {W : World} {sp : Nat → Bool} {hd : Bool} {O : Nat → Prop}

theorem cells_get {w : World} {base : Nat} {a : Addr} {n : Nat} {cs : List Value} (h : w.cells? base a n = some cs) : cs.length = n ∧ ∀ (j : Nat) v, cs[j]? = some v → w.cell? (a.add j) = some v := by
  unfold World.cells? at h
  split at h
  · obtain ⟨h1, h2⟩ := mapM_at h
    rw [List.length_range] at h1
    refine ⟨h1, fun j v hv => ?_⟩
    have hj : j < n := by rw [← h1]; exact (List.getElem?_eq_some_iff.1 hv).1
    rw [h2 j j (by simp [hj]), hv]
  · cases h
theorem add_of {a : Addr} {n : Nat} (h : (a.add n).spot = none) : a.add n = ⟨a.block, a.off + n, none⟩ := by
  unfold Addr.add at h ⊢
  split
  · rename_i h0
    rw [if_pos h0] at h
    obtain ⟨b, o, s⟩ := a
    simp only at h
    subst h h0
    rfl
  · rfl
theorem arg_int {t : TypeId} {k : IntKind} {fuel : Nat} {cs : List Value} {x : DataW H × List MemPlace} (ht : P.underlying t = some (.int k)) (h : DataW.trod encH P W 0 sp hd fuel t cs = some x) : ∃ n, cs = [.int k n] ∧ Im O W (.i k n) (.int k n) ∧ (Lit.int k n).wf = true := by
  obtain ⟨n, h1, _, h2⟩ := DataW.trod_int ht h
  exact ⟨n, h1, .i k n, h2⟩
theorem arg_str {t : TypeId} {fuel : Nat} {cs : List Value} {x : DataW H × List MemPlace} (ht : P.underlying t = some .string) (h : DataW.trod encH P W 0 sp hd fuel t cs = some x) : ∃ (l : Str) (v : Value), cs = [v] ∧ Im O W (.s l) v := by
  obtain ⟨s, h1, _, h2⟩ := DataW.trod_string ht h
  refine ⟨s.data.toList, .string s, h1, ?_⟩
  have := Im.s (O := O) (w := W) s.data.toList (by rw [Array.length_toList]; exact h2)
  simpa using this
theorem arg_bool {t : TypeId} {fuel : Nat} {cs : List Value} {x : DataW H × List MemPlace} (ht : P.underlying t = some .bool) (h : DataW.trod encH P W 0 sp hd fuel t cs = some x) : ∃ b, cs = [.bool b] ∧ Im O W (.b b) (.bool b) := by
  obtain ⟨b, h1, _⟩ := DataW.trod_bool ht h
  exact ⟨b, h1, .b b⟩
/-- a slice, by its elements -/
theorem arg_slice {t e : TypeId} {τ : Ty} (hO : ∀ k, ¬ O k) (ht : P.underlying t = some (.slice e)) (hc : P.cellsOf e = esz τ)
    (hel : ∀ (n : Nat) (cs : List Value) (x : DataW H × List MemPlace), DataW.trod encH P W 0 sp hd n e cs = some x → ∃ y : den τ, All2 (Im O W) (enc τ y) cs)
    {fuel : Nat} {cs : List Value} {x : DataW H × List MemPlace} (h : DataW.trod encH P W 0 sp hd fuel t cs = some x) : ∃ (l : List (den τ)) (v : Value), cs = [v] ∧ Im O W (.rd τ l) v := by
  rcases open_slice ht h with ⟨rfl, _⟩ | ⟨a, len, cap, m, n, D, Pl, rfl, hb, hlc, hcm, hm, _, hall⟩
  · exact ⟨[], _, rfl, .rd0 τ none 0 (Nat.zero_le _)⟩
  have hlm : len ≤ m := by rw [hm]; split <;> omega
  by_cases h0 : len = 0
  · subst h0; exact ⟨[], _, rfl, .rd0 τ _ _ hcm⟩
  have hch : ∀ i, i < len → ∃ (y : den τ) (us : List Value), All2 (Im O W) (enc τ y) us ∧ us.length = esz τ ∧ ∀ (j : Nat) v, us[j]? = some v → W.cell? ⟨a.block, a.off + (i * esz τ + j), none⟩ = some v := by
    intro i hi
    obtain ⟨us, h1, h2⟩ := hall i (by omega)
    obtain ⟨y, hy⟩ := hel _ _ _ h2
    rw [hc] at h1
    obtain ⟨h3, h4⟩ := cells_get h1
    refine ⟨y, us, hy, h3, fun j v hv => ?_⟩
    have h5 := h4 j v hv
    have hs : ∀ j v, us[j]? = some v → ((a.add (i * esz τ)).add j).spot = none := fun j v hv => World.cell?_spot (h4 j v hv)
    have hpos := esz_pos τ
    have h00 : (a.add (i * esz τ)).spot = none := by
      have := hs 0 (us[0]'(by omega)) (List.getElem?_eq_getElem _)
      simpa [Addr.add] using this
    have e1 := add_of h00
    rw [e1] at h5
    rw [add_none] at h5
    rw [← h5, Nat.add_assoc]
  have ys : ∃ l : List (den τ), l.length = len ∧ ∀ (i : Nat) y, l[i]? = some y → ∃ us : List Value, All2 (Im O W) (enc τ y) us ∧ ∀ (j : Nat) v, us[j]? = some v → W.cell? ⟨a.block, a.off + (i * esz τ + j), none⟩ = some v := by
    have hch' := fun (i : Fin len) => hch i.1 i.2
    refine ⟨List.ofFn fun i : Fin len => Classical.choose (hch' i), by simp, fun i y hy => ?_⟩
    have hi : i < len := by have := (List.getElem?_eq_some_iff.1 hy).1; simpa using this
    rw [List.getElem?_ofFn, dif_pos hi] at hy
    injection hy with hy
    subst hy
    obtain ⟨us, h1, _, h2⟩ := Classical.choose_spec (hch' ⟨i, hi⟩)
    exact ⟨us, h1, h2⟩
  obtain ⟨l, hll, hl⟩ := ys
  refine ⟨l, _, rfl, ?_⟩
  have hane : a = ⟨a.block, a.off, none⟩ := by
    obtain ⟨y, us, _, h3, h4⟩ := hch 0 (by omega)
    obtain ⟨us', h1, h2⟩ := hall 0 (by omega)
    have hpos := esz_pos τ
    rw [hc] at h1
    obtain ⟨h5, h6⟩ := cells_get h1
    have := World.cell?_spot (h6 0 (us'[0]'(by omega)) (List.getElem?_eq_getElem _))
    simp [Addr.add] at this
    obtain ⟨b, o, s⟩ := a
    simp only at this
    subst this
    rfl
  rw [hane, ← hll]
  refine .rd τ l a.block a.off cap (fun i j => (W.cell? ⟨a.block, a.off + (i * esz τ + j), none⟩).getD undef) (hO _) (by omega) hcm (fun e => h0 (by rw [← hll, e]; rfl)) (fun i y j av hy hav => ?_) (fun i y j av hy hav => ?_)
  · obtain ⟨us, h1, h2⟩ := hl i y hy
    have hj : j < us.length := by rw [← h1.1]; exact (List.getElem?_eq_some_iff.1 hav).1
    rw [h2 j _ (List.getElem?_eq_getElem hj)]; rfl
  · obtain ⟨us, h1, h2⟩ := hl i y hy
    have hj : j < us.length := by rw [← h1.1]; exact (List.getElem?_eq_some_iff.1 hav).1
    rw [h2 j _ (List.getElem?_eq_getElem hj)]
    exact h1.2 j av _ hav (List.getElem?_eq_getElem hj)
/-- a struct of cells: each field's one -/
theorem one_field {t : TypeId} {fs : Array Field} {fuel : Nat} {cs : List Value} {x : DataW H × List MemPlace} (ht : P.underlying t = some (.struct fs)) (h : DataW.trod encH P W 0 sp hd fuel t cs = some x) :
    cs.length = P.cellsOf t ∧ ∃ n, ∀ (i : Nat) (f : Field), fs[i]? = some f → ∃ y, DataW.trod encH P W 0 sp hd n f.type ((cs.drop f.offset).take (P.cellsOf f.type)) = some y := by
  obtain ⟨xs, n, _, _, h1, h2, h3⟩ := DataW.trod_struct ht h
  refine ⟨h1, n, fun i f hf => ?_⟩
  have hi : i < xs.length := by rw [h2]; exact (Array.getElem?_eq_some_iff.1 hf).1
  rw [h3 i f hf, List.getElem?_eq_getElem hi]
  exact ⟨_, rfl⟩
theorem arg_part {t : TypeId} {f0 f1 f2 : Field} {fuel : Nat} {cs : List Value} {x : DataW H × List MemPlace} (ht : P.underlying t = some (.struct #[f0, f1, f2])) (hC : P.cellsOf t = 3)
    (ho : f0.offset = 0 ∧ f1.offset = 1 ∧ f2.offset = 2) (hc : P.cellsOf f0.type = 1 ∧ P.cellsOf f1.type = 1 ∧ P.cellsOf f2.type = 1)
    (h0 : P.underlying f0.type = some (.int .i64)) (h1 : P.underlying f1.type = some (.int .i64)) (h2 : P.underlying f2.type = some .string)
    (h : DataW.trod encH P W 0 sp hd fuel t cs = some x) : ∃ y : den .part, All2 (Im O W) (enc .part y) cs := by
  obtain ⟨hl, n, hf⟩ := one_field ht h
  rw [hC] at hl
  match cs, hl with
  | [u0, u1, u2], _ =>
    obtain ⟨_, g0⟩ := hf 0 f0 rfl
    obtain ⟨_, g1⟩ := hf 1 f1 rfl
    obtain ⟨_, g2⟩ := hf 2 f2 rfl
    rw [ho.1, hc.1] at g0
    rw [ho.2.1, hc.2.1] at g1
    rw [ho.2.2, hc.2.2] at g2
    obtain ⟨a, e0, i0, _⟩ := arg_int (O := O) h0 g0
    obtain ⟨b, e1, i1, _⟩ := arg_int (O := O) h1 g1
    obtain ⟨s, v, e2, i2⟩ := arg_str (O := O) h2 g2
    simp at e0 e1 e2
    subst e0 e1 e2
    exact ⟨⟨a, b, s⟩, All2.cons i0 (All2.cons i1 (All2.cons i2 (All2.nil _)))⟩
theorem slice_shape {t e : TypeId} {fuel : Nat} {cs : List Value} {x : DataW H × List MemPlace} (ht : P.underlying t = some (.slice e)) (h : DataW.trod encH P W 0 sp hd fuel t cs = some x) : ∃ u, cs = [u] ∧ u.oneCell' = true := by
  rcases open_slice ht h with ⟨rfl, _⟩ | ⟨a, len, cap, m, n, D, Pl, rfl, _⟩
  · exact ⟨_, rfl, rfl⟩
  · exact ⟨_, rfl, rfl⟩
/-- a node, of whose kids nothing is asked -/
theorem arg_node {t e : TypeId} {f0 f1 f2 f3 : Field} {fuel : Nat} {cs : List Value} {x : DataW H × List MemPlace} (ht : P.underlying t = some (.struct #[f0, f1, f2, f3])) (hC : P.cellsOf t = 4)
    (ho : f0.offset = 0 ∧ f1.offset = 1 ∧ f2.offset = 2 ∧ f3.offset = 3) (hc : P.cellsOf f0.type = 1 ∧ P.cellsOf f1.type = 1 ∧ P.cellsOf f2.type = 1 ∧ P.cellsOf f3.type = 1)
    (h0 : P.underlying f0.type = some (.int .i64)) (h1 : P.underlying f1.type = some (.int .i64)) (h2 : P.underlying f2.type = some (.int .i64)) (h3 : P.underlying f3.type = some (.slice e))
    (h : DataW.trod encH P W 0 sp hd fuel t cs = some x) : ∃ (a b c : Int) (u : Value), cs = [.int .i64 a, .int .i64 b, .int .i64 c, u] ∧ u.oneCell' = true ∧ (Lit.int .i64 c).wf = true := by
  obtain ⟨hl, n, hf⟩ := one_field ht h
  rw [hC] at hl
  match cs, hl with
  | [u0, u1, u2, u3], _ =>
    obtain ⟨_, g0⟩ := hf 0 f0 rfl
    obtain ⟨_, g1⟩ := hf 1 f1 rfl
    obtain ⟨_, g2⟩ := hf 2 f2 rfl
    obtain ⟨_, g3⟩ := hf 3 f3 rfl
    rw [ho.1, hc.1] at g0
    rw [ho.2.1, hc.2.1] at g1
    rw [ho.2.2.1, hc.2.2.1] at g2
    rw [ho.2.2.2, hc.2.2.2] at g3
    obtain ⟨a, e0, _, _⟩ := arg_int (O := fun _ => False) h0 g0
    obtain ⟨b, e1, _, _⟩ := arg_int (O := fun _ => False) h1 g1
    obtain ⟨c, e2, _, w2⟩ := arg_int (O := fun _ => False) h2 g2
    obtain ⟨u, e3, o3⟩ := slice_shape h3 g3
    simp at e0 e1 e2 e3
    subst e0 e1 e2 e3
    exact ⟨a, b, c, _, rfl, o3, w2⟩
end
theorem wf_i64 {n : Int} (h : (Lit.int .i64 n).wf = true) : (-9223372036854775808 : Int) ≤ n ∧ n ≤ (9223372036854775807 : Int) := by
  simp only [Lit.wf, Bool.and_eq_true, decide_eq_true_eq] at h; exact h
theorem wf_i32 {n : Int} (h : (Lit.int .i32 n).wf = true) : (-2147483648 : Int) ≤ n ∧ n ≤ (2147483647 : Int) := by
  simp only [Lit.wf, Bool.and_eq_true, decide_eq_true_eq] at h; exact h
theorem wf_u8 {n : Int} (h : (Lit.int .u8 n).wf = true) : (0 : Int) ≤ n ∧ n ≤ (255 : Int) := by
  simp only [Lit.wf, Bool.and_eq_true, decide_eq_true_eq] at h; exact h
theorem wf_u32 {n : Int} (h : (Lit.int .u32 n).wf = true) : (0 : Int) ≤ n ∧ n ≤ (4294967295 : Int) := by
  simp only [Lit.wf, Bool.and_eq_true, decide_eq_true_eq] at h; exact h
theorem wf_u64 {n : Int} (h : (Lit.int .u64 n).wf = true) : (0 : Int) ≤ n ∧ n ≤ (18446744073709551615 : Int) := by
  simp only [Lit.wf, Bool.and_eq_true, decide_eq_true_eq] at h; exact h
end Go.SX
end
section
namespace Go.SX
set_option linter.unusedSectionVars false
variable [Globs]
open Go.RowKit Go.WideShapes Go.ChangeShapes Go.Deep
section
variable {H : Type} {encH : TypeId × Value → H} {P : Program} {W : World} {sp : Nat → Bool} {hd : Bool} {O : Nat → Prop}
/-- a slice, by its elements, beside what is read of them -/
theorem arg_sliceR {t e : TypeId} {τ : Ty} {R : den τ → DataW H → Prop} (hO : ∀ k, ¬ O k) (ht : P.underlying t = some (.slice e)) (hc : P.cellsOf e = esz τ)
    (hel : ∀ (n : Nat) (cs : List Value) (x : DataW H × List MemPlace), DataW.trod encH P W 0 sp hd n e cs = some x → ∃ y : den τ, All2 (Im O W) (enc τ y) cs ∧ R y x.1)
    {fuel : Nat} {cs : List Value} {x : DataW H × List MemPlace} (h : DataW.trod encH P W 0 sp hd fuel t cs = some x) : ∃ (l : List (den τ)) (v : Value), cs = [v] ∧ Im O W (.rd τ l) v ∧ ((x.1 = .nil ∧ l = []) ∨ ∃ els rest, x.1 = .slice els rest ∧ els.length = l.length ∧ ∀ (i : Nat) y d, l[i]? = some y → els[i]? = some d → R y d) := by
  rcases open_slice ht h with ⟨rfl, rfl⟩ | ⟨a, len, cap, m, n, D, Pl, rfl, hb, hlc, hcm, hm, rfl, hall⟩
  · exact ⟨[], _, rfl, .rd0 τ none 0 (Nat.zero_le _), .inl ⟨rfl, rfl⟩⟩
  have hlm : len ≤ m := by rw [hm]; split <;> omega
  by_cases h0 : len = 0
  · subst h0; exact ⟨[], _, rfl, .rd0 τ _ _ hcm, .inr ⟨_, _, rfl, rfl, fun i y d hy _ => by simp at hy⟩⟩
  have hch : ∀ i, i < len → ∃ (y : den τ) (us : List Value), (All2 (Im O W) (enc τ y) us ∧ R y (D i)) ∧ us.length = esz τ ∧ ∀ (j : Nat) v, us[j]? = some v → W.cell? ⟨a.block, a.off + (i * esz τ + j), none⟩ = some v := by
    intro i hi
    obtain ⟨us, h1, h2⟩ := hall i (by omega)
    obtain ⟨y, hy⟩ := hel _ _ _ h2
    rw [hc] at h1
    obtain ⟨h3, h4⟩ := cells_get h1
    refine ⟨y, us, hy, h3, fun j v hv => ?_⟩
    have h5 := h4 j v hv
    have hs : ∀ j v, us[j]? = some v → ((a.add (i * esz τ)).add j).spot = none := fun j v hv => World.cell?_spot (h4 j v hv)
    have hpos := esz_pos τ
    have h00 : (a.add (i * esz τ)).spot = none := by
      have := hs 0 (us[0]'(by omega)) (List.getElem?_eq_getElem _)
      simpa [Addr.add] using this
    have e1 := add_of h00
    rw [e1] at h5
    rw [add_none] at h5
    rw [← h5, Nat.add_assoc]
  have ys : ∃ l : List (den τ), l.length = len ∧ ∀ (i : Nat) y, l[i]? = some y → ∃ us : List Value, (All2 (Im O W) (enc τ y) us ∧ R y (D i)) ∧ ∀ (j : Nat) v, us[j]? = some v → W.cell? ⟨a.block, a.off + (i * esz τ + j), none⟩ = some v := by
    have hch' := fun (i : Fin len) => hch i.1 i.2
    refine ⟨List.ofFn fun i : Fin len => Classical.choose (hch' i), by simp, fun i y hy => ?_⟩
    have hi : i < len := by have := (List.getElem?_eq_some_iff.1 hy).1; simpa using this
    rw [List.getElem?_ofFn, dif_pos hi] at hy
    injection hy with hy
    subst hy
    obtain ⟨us, h1, _, h2⟩ := Classical.choose_spec (hch' ⟨i, hi⟩)
    exact ⟨us, h1, h2⟩
  obtain ⟨l, hll, hl⟩ := ys
  refine ⟨l, _, rfl, ?_, .inr ⟨_, _, rfl, by simp [hll], fun i y d hy hd => ?_⟩⟩
  rotate_left
  · obtain ⟨us, h1, _⟩ := hl i y hy
    have hi : i < len := by rw [← hll]; exact (List.getElem?_eq_some_iff.1 hy).1
    rw [List.getElem?_map, List.getElem?_range hi] at hd
    injection hd with hd
    subst hd
    exact h1.2
  have hane : a = ⟨a.block, a.off, none⟩ := by
    obtain ⟨y, us, _, h3, h4⟩ := hch 0 (by omega)
    obtain ⟨us', h1, h2⟩ := hall 0 (by omega)
    have hpos := esz_pos τ
    rw [hc] at h1
    obtain ⟨h5, h6⟩ := cells_get h1
    have := World.cell?_spot (h6 0 (us'[0]'(by omega)) (List.getElem?_eq_getElem _))
    simp [Addr.add] at this
    obtain ⟨b, o, s⟩ := a
    simp only at this
    subst this
    rfl
  rw [hane, ← hll]
  refine .rd τ l a.block a.off cap (fun i j => (W.cell? ⟨a.block, a.off + (i * esz τ + j), none⟩).getD undef) (hO _) (by omega) hcm (fun e => h0 (by rw [← hll, e]; rfl)) (fun i y j av hy hav => ?_) (fun i y j av hy hav => ?_)
  · obtain ⟨us, h1, h2⟩ := hl i y hy
    have hj : j < us.length := by rw [← h1.1.1]; exact (List.getElem?_eq_some_iff.1 hav).1
    rw [h2 j _ (List.getElem?_eq_getElem hj)]; rfl
  · obtain ⟨us, h1, h2⟩ := hl i y hy
    have hj : j < us.length := by rw [← h1.1.1]; exact (List.getElem?_eq_some_iff.1 hav).1
    rw [h2 j _ (List.getElem?_eq_getElem hj)]
    exact h1.1.2 j av _ hav (List.getElem?_eq_getElem hj)
end
end Go.SX
end
section
namespace Go.Proofs.Ytdcdmojbkmedpaa.treeParses
set_option linter.unusedSectionVars false
set_option linter.unusedSimpArgs false
set_option linter.unusedVariables false
open Go Go.SX Go.Tk Go.Tr
open Go.ChangeShapes Go.WideShapes Go.ChangeAt Go.RowKit
set_option maxRecDepth 100000
theorem own : ownKnob Try.prog.godebug = none := by kernel_rfl
theorem laidOut : laidOutB Try.prog = true := by kernel_rfl
theorem cell_block {w : World} {g o : Nat} {k : IntKind} {n : Int} (h : w.cell? ⟨g, o, none⟩ = some (.int k n)) : ∃ cur e fz, w.heap[g]? = some (.cells cur e fz) ∧ cur[o]? = some (.int k n) := by
  unfold World.cell? at h
  split at h
  · rename_i cur e fz hh
    exact ⟨_, _, _, hh, by simpa using h⟩
  · cases h
theorem contract (H : Type) (enc : TypeId × Value → H) (W : World) (base : Nat) (args : Array Value) (ds gs : List (DataW H)) (before : List MemPlace)
    (hval : ∀ (j : Nat) t v, Try.f5.params[j]? = some t → args[j]? = some v → Value.okWide Try.prog W .any base t v)
    (hW : DataW.Whole enc Try.prog Try.f5.params.toList Rows.treeParsesSpec.vars false W args.toList ds gs before) (hsh : W.ShapedOpen Try.prog) :
    Calls Try.prog 5 args W fun e W' => ∃ v, e = .returned v ∧ Rows.treeParsesSpec.post enc Try.prog Try.f5 false true false false W args v W' := by
  have hW' := hW
  obtain ⟨p, q, hA0, hV, rfl, hfz, hnd⟩ := hW
  have hA : DataW.TrodAll enc Try.prog W 0 (fun _ => true) true Try.f5.params.toList args.toList ds p := hA0
  rw [Try.params5] at hA hval
  obtain ⟨v0, vs0, d0, ds0, p0, q0, hargs0, rfl, rfl, h0, r0⟩ := trodAll_cons hA
  obtain ⟨rfl, rfl, rfl⟩ := trodAll_nil r0
  obtain rfl : args = #[v0] := by cases args; simp_all
  obtain ⟨rfl, rfl⟩ := trodVars_none hV
  obtain ⟨s0, rfl, rfl, rfl, hmax0⟩ := Go.ChangeMaps.open_string Try.underlying9 (hval 0 9 v0 rfl rfl) h0
  have i0 : Im (fun _ => False) W (.s s0.data.toList) (.string s0) := by have := Im.s (O := fun _ => False) (w := W) s0.data.toList (by rw [Array.length_toList]; exact hmax0); simpa using this
  have hW'' := hW'
  obtain ⟨m, hm⟩ := Try.laysM143.s1_3 W hsh
  obtain ⟨cur, e0, fz, hh, hcur⟩ := cell_block hm
  let G : Globs := ⟨[(1, .cells cur e0 fz)]⟩
  have hml : @HasML G := ⟨m, cur, e0, fz, List.mem_singleton.2 rfl, hcur⟩
  have hG : @GlobOK G (fun _ => False) W := fun p hp => by
    cases List.mem_singleton.1 hp
    exact ⟨fun h => h, hh⟩
  refine ((s_law (G := G) hml s0.data.toList).2 (fun _ => False) W [.string s0] (fun _ h => h.elim) hG (All2.cons i0 (All2.nil _))).mono fun e W' ⟨v, he, hst, hv⟩ => ?_
  subst he
  cases hv
  have hb := hst.below
  have hlt : ∀ x : MemPlace, x ∈ ([] ++ []) ++ [] → x.block < W.heap.size := fun x hx => hW''.lt x hx
  have hargs' : ∀ sp : Nat → Bool, (∀ x : MemPlace, x ∈ ([] ++ []) ++ [] → sp x.block = true) → DataW.TrodAll enc Try.prog W' 0 sp true [9] [.string s0] [.lit (.string s0.data.toList)] ([] ++ []) := fun sp hsp =>
    trodAll_cons_mk (Go.ChangeMaps.shut_string Try.underlying9 hmax0) (trodAll_mk0)
  exact ⟨_, rfl, post_of_below (pa := [] ++ []) (pv := []) hW'' (fun _ _ _ => (trodAll_cons_mk (shut_bool Try.underlying4 _) trodAll_mk0)) (fun sp hsp => hargs' sp hsp) (fun _ _ => rfl) rfl
    hb (ok_one (by kernel_rfl) rfl (okWide_bool_mk Try.underlying4 _))⟩
theorem lifted (os : Os) (started : os.Started) (H : Type) (enc : TypeId × Value → H) :
    ReturnsInHanded {} Try.checked os 5 .any (Rows.treeParsesSpec.pre6 enc Try.prog Try.f5 Rows.treeParsesRow.domain false) (Rows.treeParsesSpec.post enc Try.prog Try.f5 false true false false) := by
  refine returnsInHanded_of_change_shaped (C := Try.checked) own started (by kernel_rfl) Try.func5
    (ChangeSpec.witness6 (enc := enc) (C := Try.checked) false ⟨#[], #[.string .empty], []⟩ 8 (by kernel_rfl) (by kernel_rfl) (by kernel_rfl) (by kernel_rfl)) ?_
  intro W base args ds gs before hval hW _ _ hsh _
  exact contract H enc W base args ds gs before hval hW hsh

theorem proved : Rows.TreeParsesSaid :=
  OpenClaim.holds_of_wide 5 Try.f5 rfl rfl rfl rfl rfl rfl rfl ⟨rfl, rfl, rfl, rfl, rfl⟩ rfl rfl rfl rfl rfl (by kernel_rfl) Try.func5 (by kernel_rfl)
    (of_decide_eq_true (by kernel_rfl)) (by unfold Func.isWrapper; first | (rw [if_pos (by decide +kernel)]; kernel_rfl) | (rw [if_neg (by decide +kernel)]; exact ⟨rfl, rfl⟩))
    (fun os started H enc _ => lifted os started H enc)

end Go.Proofs.Ytdcdmojbkmedpaa.treeParses
end
