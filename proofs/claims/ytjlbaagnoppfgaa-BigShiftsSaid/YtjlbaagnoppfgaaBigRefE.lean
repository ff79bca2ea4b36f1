/-
  A part of the proof of the laws of whole numbers: comparing and dividing the document's numbers, walked. No conditions.
-/
import Derived.Test.YtjlbaagnoppfgaaBigRefD
namespace Go.Proofs.Ytjlbaagnoppfgaa
set_option linter.unusedSectionVars false
set_option linter.unusedSimpArgs false
set_option linter.unusedVariables false
open Go Go.SX Go.Bg
set_option maxRecDepth 100000
set_option maxHeartbeats 0
theorem rep_get (n t : Nat) : (List.replicate n (0 : Int)).getD t 0 = 0 := by
  rw [List.getD_eq_getElem?_getD, List.getElem?_replicate]
  split <;> rfl
theorem nn_of {j : Int} (h : decide (0 ≤ j) = true) : ∃ m : Nat, j = m := ⟨j.toNat, by have := of_decide_eq_true h; omega⟩
theorem tdiv2 (m : Nat) : (m : Int).tdiv 2 = ((m / 2 : Nat) : Int) := rfl
theorem cmpN_le {a b : Nat} (h : cmpN a b ≤ 0) : a ≤ b := by
  unfold cmpN at h
  split at h
  · omega
  · split at h <;> omega
theorem cmpN_gt {a b : Nat} (h : ¬ cmpN a b ≤ 0) : b < a := by
  unfold cmpN at h
  split at h
  · omega
  · split at h <;> omega
theorem mul_dg_len {b : List Int} {n : Nat} (hb : Dg 10000 b) (hn : n < 10000) : (dg 10000 (vl 10000 b * n)).length ≤ b.length + 1 := dg_len_le b10 _ _ (by
  rw [Nat.pow_succ]
  exact Nat.mul_lt_mul'' (vl_lt hb) hn)
theorem over_next {B : Nat} {a q : List Int} {vb m x r lo : Nat} (ha : Dg B a) (hq : Dg B q) (hql : q.length = a.length) (hm : m < a.length) (hx : (a.getD m 0).toNat = x) (hb : 0 < vb)
    (hr : r = vl B (a.drop (m + 1)) % vb) (hv : vl B (q.drop (m + 1)) = vl B (a.drop (m + 1)) / vb) (h1 : vb * lo ≤ x + B * r) (h2 : x + B * r < vb * (lo + 1)) :
    x + B * r - vb * lo = vl B (a.drop m) % vb ∧ vl B ((q.set m lo).drop m) = vl B (a.drop m) / vb := by
  rw [vl_drop B a m, vl_drop B (q.set m lo) m, hx]
  generalize hA : vl B (a.drop (m + 1)) = A at *
  have e : x + B * A = vb * (lo + B * (A / vb)) + (x + B * r - vb * lo) := by
    have h3 := Nat.div_add_mod A vb
    rw [← hr] at h3
    have h4 : B * A = vb * (B * (A / vb)) + B * r := by
      conv => lhs; rw [← h3]
      rw [Nat.mul_add, ← Nat.mul_assoc, ← Nat.mul_assoc, Nat.mul_comm B vb]
    rw [Nat.mul_add]
    omega
  have hlt : x + B * r - vb * lo < vb := by
    rw [Nat.mul_add, Nat.mul_one] at h2
    omega
  refine ⟨?_, ?_⟩
  · rw [e, Nat.mul_add_mod, Nat.mod_eq_of_lt hlt]
  · rw [e, Nat.mul_add_div hb, Nat.div_eq_of_lt hlt, List.getD_eq_getElem?_getD, List.getElem?_set_self (by omega), List.drop_set_of_lt (by omega), hv]
    simp
theorem against_start {a b : List Int} {t : Nat} (h : a.length ≤ t ∧ b.length ≤ t) : a.getD t 0 = b.getD t 0 := by
  rw [List.getD_eq_getElem?_getD, List.getD_eq_getElem?_getD, List.getElem?_eq_none h.1, List.getElem?_eq_none h.2]
theorem against_next {a b : List Int} {m t : Nat} (h : ∀ t, m < t → a.getD t 0 = b.getD t 0) (ht : m ≤ t) (he : a.getD m 0 = b.getD m 0) : a.getD t 0 = b.getD t 0 := by
  rcases Nat.lt_or_ge m t with h1 | h1
  · exact h t h1
  · have : t = m := by omega
    rw [this, he]
section
variable [G : Globs]
theorem w_against (a b : List Int) (ha : Dg 10000 a) (hb : Dg 10000 b) (hla : a.length ≤ 1000000) (hlb : b.length ≤ 1000000) : vc Try.prog Γ 32 [0, 1, 4, 5, 13, 16, 24] (Try.f38.body.getD .skip) (postK Γ [.tmp 4] (fun v => v = .i .i64 (cmpN (vl 10000 a) (vl 10000 b)))) ⟨argSlots 0 [.rd .int a, .rd .int b], []⟩ := by
  intro hl0
  intro hl1
  refine And.intro (rng64 (by split <;> omega) (by split <;> omega)) ?_
  refine Exists.intro [] (Exists.intro [] (Exists.intro [] (Exists.intro Int (Exists.intro (fun j => -1 ≤ j ∧ j < 1000000 ∧ ∀ t : Nat, j < t → a.getD t 0 = b.getD t 0) (Exists.intro (fun j => ⟨[(0, .rd .int a), (1, .rd .int b), (5, .i .i64 j)], []⟩) (Exists.intro (fun j => (j + 1).toNat) (Exists.intro ((if (a.length : Int) < b.length then (b.length : Int) else (a.length : Int)) - 1) (And.intro ⟨by split <;> omega, by split <;> omega, fun t ht => against_start (by split at ht <;> omega)⟩ (And.intro ?_ ?_)))))))))
  · (repeat' (first | exact trivial | exact Or.inl rfl | exact Or.inr (Or.inl ⟨rfl, _, rfl⟩) | refine And.intro ?_ ?_))
  · rintro j ⟨h1, h2, h3⟩
    refine And.intro (fun hc => ?_) (fun hc => ?_)
    · obtain ⟨m, rfl⟩ := nn_of hc
      have h3 : ∀ t, m < t → a.getD t 0 = b.getD t 0 := fun t ht => h3 t (by omega)
      refine Or.inl (Exists.intro _ (And.intro (s_at a m) ?_))
      refine Or.inl (Exists.intro _ (And.intro (s_at b m) ?_))
      refine And.intro (fun hd => ?_) (fun hd => ?_)
      · have hd : a.getD m 0 < b.getD m 0 := of_decide_eq_true hd
        have := vl_cmp b10 ha hb h3 hd
        exact congrArg (AV.i .i64) (by unfold cmpN; rw [if_pos this])
      · have hd : ¬ a.getD m 0 < b.getD m 0 := of_decide_eq_false hd
        refine Or.inl (Exists.intro _ (And.intro (s_at a m) ?_))
        refine Or.inl (Exists.intro _ (And.intro (s_at b m) ?_))
        refine And.intro (fun he => ?_) (fun he => ?_)
        · have he : b.getD m 0 < a.getD m 0 := of_decide_eq_true he
          have := vl_cmp b10 hb ha (fun t ht => (h3 t ht).symm) he
          exact congrArg (AV.i .i64) (by unfold cmpN; rw [if_neg (by omega), if_pos this])
        · have he : ¬ b.getD m 0 < a.getD m 0 := of_decide_eq_false he
          (refine And.intro (rng64 (by omega) (by omega)) ?_)
          refine Exists.intro [] (Exists.intro ((m : Int) - 1) (And.intro ⟨by omega, by omega, fun t ht => against_next h3 (by omega) (by omega)⟩ (And.intro ?_ ?_)))
          · (repeat' (first | exact trivial | exact Or.inl rfl | exact Or.inr (Or.inl ⟨rfl, _, rfl⟩) | refine And.intro ?_ ?_))
          · show ((m : Int) - 1 + 1).toNat < ((m : Int) + 1).toNat
            omega
    · have hj : j = -1 := by have : ¬ 0 ≤ j := of_decide_eq_false hc
                             omega
      have := vl_ext (B := 10000) (l := a) (m := b) fun t => h3 t (by omega)
      exact congrArg (AV.i .i64) (by unfold cmpN; rw [if_neg (by omega), if_neg (by omega)])
theorem s_against (a b : List Int) (ha : Dg 10000 a) (hb : Dg 10000 b) (hla : a.length ≤ 1000000) (hlb : b.length ≤ 1000000) : PSpec Try.prog 38 [.rd .int a, .rd .int b] (.i .i64 (cmpN (vl 10000 a) (vl 10000 b))) :=
  pspec_of_vc Γ_good Try.func38 rfl Try.call38 Try.results38 Try.ntmps38 (Nat.le_of_ble_eq_true rfl) (w_against a b ha hb hla hlb)
theorem s_smallC (n : Nat) (hn : n < 9223372036854775808) : PSpec Try.prog 82 [.i .u64 (IntKind.u64.wrap (n : Int))] (.rd .int (dg 10000 n)) := by
  rw [show IntKind.u64.wrap (n : Int) = (n : Int) by rw [IntKind.wrap_u64]; omega]
  exact s_small n (by omega)
theorem w_over (a b : List Int) (ha : Dg 10000 a) (hb : Dg 10000 b) (hla : a.length ≤ 400000) (hlb : b.length ≤ 400000) (hb0 : 0 < vl 10000 b) : vc Try.prog Γ 62 [0, 1, 4, 5, 6, 7, 8, 9, 10, 11, 19, 33, 45] (Try.f36.body.getD .skip) (postK Γ [.tmp 4, .tmp 5] (fun v => v = .tup [.rd .int (dg 10000 (vl 10000 a / vl 10000 b)), .rd .int (dg 10000 (vl 10000 a % vl 10000 b))])) ⟨argSlots 0 [.rd .int a, .rd .int b], []⟩ := by
  intro hl0
  refine And.intro ⟨by omega, Int.le_refl _, by omega, by show a.length * 8 ≤ _; omega⟩ ?_
  intro _
  (refine And.intro (rng64 (by omega) (by omega)) ?_)
  refine Exists.intro [] (Exists.intro [] (Exists.intro [] (Exists.intro (Int × List Int × Nat) (Exists.intro (fun x => -1 ≤ x.1 ∧ x.1 < a.length ∧ Dg 10000 x.2.1 ∧ x.2.1.length = a.length ∧ x.2.2 = vl 10000 (a.drop (x.1 + 1).toNat) % vl 10000 b ∧ vl 10000 (x.2.1.drop (x.1 + 1).toNat) = vl 10000 (a.drop (x.1 + 1).toNat) / vl 10000 b) (Exists.intro (fun ⟨j, q, r⟩ => ⟨[(0, .rd .int a), (1, .rd .int b), (6, .vec 14 .int q), (7, .rd .int (dg 10000 r)), (8, .i .i64 j)], []⟩) (Exists.intro (fun x => (x.1 + 1).toNat) (Exists.intro ((a.length : Int) - 1, List.replicate a.length 0, 0) (And.intro ⟨by omega, by omega, Dg.replicate (by decide) _, by simp, by simp [vl], by simp [vl]⟩ (And.intro ?_ ?_)))))))))
  · (repeat' (first | exact trivial | exact Or.inl rfl | exact Or.inr (Or.inl ⟨rfl, _, rfl⟩) | refine And.intro ?_ ?_))
  · rintro ⟨j, q, r⟩ ⟨h1, h2, h3, h4, h5, h6⟩
    dsimp only at h1 h2 h3 h4 h5 h6
    refine And.intro (fun hc => ?_) (fun hc => ?_)
    · obtain ⟨m, rfl⟩ := nn_of hc
      clear hc
      rw [show ((m : Int) + 1).toNat = m + 1 by omega] at h5 h6
      obtain ⟨x, hx, hxl, hxn⟩ := getN ha m
      have hrl : r < vl 10000 b := by rw [h5]; exact Nat.mod_lt _ hb0
      have hrd : (dg 10000 r).length ≤ b.length := dg_len_le b10 _ _ (Nat.lt_trans hrl (vl_lt hb))
      have hD : Dg 10000 ((a.getD m 0) :: dg 10000 r) := Dg.cons (ha.getD (by decide) m) (dg_Dg b10 r)
      have hR : vl 10000 ((a.getD m 0) :: dg 10000 r) = x + 10000 * r := by rw [vl, vl_dg b10, hxn]
      have qc := s_cut _ hD
      rw [hR] at qc
      have hRl : x + 10000 * r < vl 10000 b * 10000 := by omega
      have hRd : (dg 10000 (x + 10000 * r)).length ≤ b.length + 1 := dg_len_le b10 _ _ (by
        rw [Nat.pow_succ]
        exact Nat.lt_of_lt_of_le hRl (Nat.mul_le_mul_right _ (Nat.le_of_lt (vl_lt hb))))
      refine And.intro ⟨by omega, by omega⟩ ?_
      refine And.intro (by show (1 + (dg 10000 r).length) * 8 ≤ _; omega) ?_
      refine Or.inl (Exists.intro _ (And.intro (qc) ?_))
      generalize hRe : x + 10000 * r = R at hRl hRd
      refine Exists.intro [] (Exists.intro [] (Exists.intro [] (Exists.intro (Nat × Nat) (Exists.intro (fun y => y.1 < y.2 ∧ y.2 ≤ 10000 ∧ vl 10000 b * y.1 ≤ R ∧ R < vl 10000 b * y.2) (Exists.intro (fun ⟨lo, hi⟩ => ⟨[(0, .rd .int a), (1, .rd .int b), (6, .vec 14 .int q), (7, .rd .int (dg 10000 R)), (8, .i .i64 m), (9, .i .i64 lo), (10, .i .i64 hi)], []⟩) (Exists.intro (fun y => y.2 - y.1) (Exists.intro (0, 10000) (And.intro ⟨by decide, by decide, by simp, hRl⟩ (And.intro ?_ ?_)))))))))
      · (repeat' (first | exact trivial | exact Or.inl rfl | exact Or.inr (Or.inl ⟨rfl, _, rfl⟩) | refine And.intro ?_ ?_))
      · rintro ⟨lo, hi⟩ ⟨g1, g2, g3, g4⟩
        dsimp only at g1 g2 g3 g4
        (refine And.intro (rng64 (by omega) (by omega)) ?_)
        refine And.intro (fun hd => ?_) (fun hd => ?_)
        · have hd : 1 < (hi : Int) - lo := of_decide_eq_true hd
          (refine And.intro (rng64 (by omega) (by omega)) ?_)
          refine And.intro (by decide) ?_
          refine And.intro (rng64 (by rw [show (lo : Int) + (hi : Int) = ((lo + hi : Nat) : Int) from rfl, tdiv2]; omega) (by rw [show (lo : Int) + (hi : Int) = ((lo + hi : Nat) : Int) from rfl, tdiv2]; omega)) ?_
          have hmid : (lo + hi) / 2 < 10000 := by omega
          have hml : (dg 10000 ((lo + hi) / 2)).length ≤ 1 := dg_len_le b10 _ _ (by omega)
          refine Or.inl (Exists.intro _ (And.intro (s_smallC ((lo + hi) / 2) (by omega)) ?_))
          have qb := s_By b (dg 10000 ((lo + hi) / 2)) hb (dg_Dg b10 _) (by omega) (by omega)
          rw [vl_dg b10] at qb
          refine Or.inl (Exists.intro _ (And.intro (qb) ?_))
          have qg := s_against (dg 10000 (vl 10000 b * ((lo + hi) / 2))) (dg 10000 R) (dg_Dg b10 _) (dg_Dg b10 _) (by have := mul_dg_len hb hmid; omega) (by omega)
          rw [vl_dg b10, vl_dg b10] at qg
          refine Or.inl (Exists.intro _ (And.intro (qg) ?_))
          refine And.intro (fun he => ?_) (fun he => ?_)
          · have he := cmpN_le (of_decide_eq_true he)
            refine Exists.intro [] (Exists.intro ((lo + hi) / 2, hi) (And.intro ⟨by omega, g2, he, g4⟩ (And.intro ?_ ?_)))
            · (repeat' (first | exact trivial | exact Or.inl rfl | exact Or.inr (Or.inl ⟨rfl, _, rfl⟩) | refine And.intro ?_ ?_))
            · show hi - (lo + hi) / 2 < hi - lo
              omega
          · have he := cmpN_gt (of_decide_eq_false he)
            refine Exists.intro [] (Exists.intro (lo, (lo + hi) / 2) (And.intro ⟨by omega, by omega, g3, he⟩ (And.intro ?_ ?_)))
            · (repeat' (first | exact trivial | exact Or.inl rfl | exact Or.inr (Or.inl ⟨rfl, _, rfl⟩) | refine And.intro ?_ ?_))
            · show (lo + hi) / 2 - lo < hi - lo
              omega
        · have hd : hi = lo + 1 := by have : ¬ 1 < (hi : Int) - lo := of_decide_eq_false hd
                                      omega
          subst hd
          have hl1 : (dg 10000 lo).length ≤ 1 := dg_len_le b10 _ _ (by omega)
          refine And.intro ⟨by omega, by omega⟩ ?_
          refine Or.inl (Exists.intro _ (And.intro (s_smallC lo (by omega)) ?_))
          have qb := s_By b (dg 10000 lo) hb (dg_Dg b10 _) (by omega) (by omega)
          rw [vl_dg b10] at qb
          refine Or.inl (Exists.intro _ (And.intro (qb) ?_))
          have qm := s_minus (dg 10000 R) (dg 10000 (vl 10000 b * lo)) (dg_Dg b10 _) (dg_Dg b10 _) (by omega) (by rw [vl_dg b10, vl_dg b10]; exact g3)
          rw [vl_dg b10, vl_dg b10] at qm
          refine Or.inl (Exists.intro _ (And.intro (qm) ?_))
          (refine And.intro (rng64 (by omega) (by omega)) ?_)
          have nx := over_next ha h3 h4 (by omega) hxn hb0 h5 h6 (lo := lo) (by rw [hRe]; exact g3) (by rw [hRe]; exact g4)
          refine Exists.intro [] (Exists.intro ((m : Int) - 1, q.set m lo, R - vl 10000 b * lo) (And.intro ⟨by omega, by omega, h3.set m ⟨by omega, by omega⟩, by simp [h4], by rw [show ((m : Int) - 1 + 1).toNat = m by omega, ← hRe]; exact nx.1, by rw [show ((m : Int) - 1 + 1).toNat = m by omega]; exact nx.2⟩ (And.intro ?_ ?_)))
          · (repeat' (first | exact trivial | exact Or.inl rfl | exact Or.inr (Or.inl ⟨rfl, _, rfl⟩) | refine And.intro ?_ ?_))
          · show ((m : Int) - 1 + 1).toNat < ((m : Int) + 1).toNat
            omega
    · have hj : j = -1 := by have : ¬ 0 ≤ j := of_decide_eq_false hc
                             omega
      subst hj
      rw [show ((-1 : Int) + 1).toNat = 0 from rfl, List.drop_zero] at h5 h6
      rw [List.drop_zero] at h6
      have qc := s_cut q h3
      rw [h6] at qc
      refine Or.inl (Exists.intro _ (And.intro (qc) ?_))
      rw [h5]
      rfl
theorem s_over (a b : List Int) (ha : Dg 10000 a) (hb : Dg 10000 b) (hla : a.length ≤ 400000) (hlb : b.length ≤ 400000) (hb0 : 0 < vl 10000 b) : PSpec Try.prog 36 [.rd .int a, .rd .int b] (.tup [.rd .int (dg 10000 (vl 10000 a / vl 10000 b)), .rd .int (dg 10000 (vl 10000 a % vl 10000 b))]) :=
  pspec_of_vc Γ_good Try.func36 rfl Try.call36 Try.results36 Try.ntmps36 (Nat.le_of_ble_eq_true rfl) (w_over a b ha hb hla hlb hb0)
end
end Go.Proofs.Ytjlbaagnoppfgaa
