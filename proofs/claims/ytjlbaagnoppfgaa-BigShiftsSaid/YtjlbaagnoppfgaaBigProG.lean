/-
  A part of the proof of the laws of whole numbers: the program's numbers in decimal digits, walked. No conditions.
-/
import Derived.Test.YtjlbaagnoppfgaaBigProF
namespace Go.Proofs.Ytjlbaagnoppfgaa
set_option linter.unusedSectionVars false
set_option linter.unusedSimpArgs false
set_option linter.unusedVariables false
open Go Go.SX Go.Bg
set_option maxRecDepth 100000
set_option maxHeartbeats 0
/-- a digit's byte, as the program makes it -/
theorem dig_u32 {r : Nat} (hr : r < 4294967296) : IntKind.u8.wrap (IntKind.u32.wrap (48 + Int.tmod (r : Int) 10)) = ((48 + r % 10 : Nat) : Int) := by
  rw [tmod10, IntKind.wrap_u32', IntKind.wrap_u8]
  omega
/-- the digits as bytes -/
def d48 (l : List Int) : List Int := l.map fun d => 48 + d
theorem dec_len {m k : Nat} (h : (dg 4294967296 m).length ≤ k) : (dg 10 m).length ≤ 10 * k := dg_len_le (by decide) _ _ (by
  rw [Nat.pow_mul]
  exact Nat.lt_of_lt_of_le (Nat.lt_of_lt_of_le (dg_lt_pow b32 m) (Nat.pow_le_pow_right (by decide) h)) (Nat.pow_le_pow_left (by decide) k))
theorem text_len {m : Nat} (h : (dg 4294967296 m).length ≤ 100000) : (dg 10 m).length ≤ 1000000 := dec_len h
theorem text_next {k r N : Nat} (hk : k < 9) (hr : r < 10 ^ (9 - k)) (h0 : 0 < N ∨ 0 < r) :
    dg 10 (r + 10 ^ (9 - k) * N) = ((r % 10 : Nat) : Int) :: dg 10 (r / 10 + 10 ^ (9 - (k + 1)) * N) ∧ r / 10 < 10 ^ (9 - (k + 1)) := by
  have e : 9 - k = (9 - (k + 1)) + 1 := by omega
  have hp : 10 ^ (9 - k) = 10 * 10 ^ (9 - (k + 1)) := by rw [e, Nat.pow_succ, Nat.mul_comm]
  rw [hp] at hr ⊢
  have hpos : 0 < r + 10 * 10 ^ (9 - (k + 1)) * N := by
    rcases h0 with h | h
    · have : 0 < 10 * 10 ^ (9 - (k + 1)) * N := Nat.mul_pos (Nat.mul_pos (by decide) (Nat.pow_pos (by decide))) h
      omega
    · omega
  rw [dg_pos (by decide) hpos, Nat.mul_assoc, Nat.add_mul_mod_self_left, Nat.add_mul_div_left _ _ (by decide)]
  exact ⟨rfl, by omega⟩
/-- the first i and the last i changed places -/
def swp (l : List Int) (i : Nat) : List Int := (List.range l.length).map fun t => if t < i ∨ l.length ≤ t + i then l.getD (l.length - 1 - t) 0 else l.getD t 0
theorem swp_len (l : List Int) (i : Nat) : (swp l i).length = l.length := by simp [swp]
theorem swp_get {l : List Int} {i t : Nat} (h : t < l.length) : (swp l i).getD t 0 = if t < i ∨ l.length ≤ t + i then l.getD (l.length - 1 - t) 0 else l.getD t 0 := by
  rw [swp, List.getD_eq_getElem?_getD, List.getElem?_map, List.getElem?_range h]
  rfl
theorem swp_zero (l : List Int) : swp l 0 = l := by
  refine List.ext_getElem (by simp [swp]) fun t h1 h2 => ?_
  have := swp_get (l := l) (i := 0) h2
  rw [if_neg (by omega), List.getD_eq_getElem?_getD, List.getD_eq_getElem?_getD, List.getElem?_eq_getElem h1, List.getElem?_eq_getElem h2] at this
  exact this
theorem swp_end {l : List Int} {i : Nat} (h : l.length ≤ 2 * i + 1) : swp l i = l.reverse := by
  refine List.ext_getElem (by simp [swp]) fun t h1 h2 => ?_
  have ht : t < l.length := by rw [swp_len] at h1; exact h1
  have := swp_get (l := l) (i := i) ht
  rw [List.getD_eq_getElem?_getD, List.getElem?_eq_getElem h1] at this
  rw [List.getElem_reverse]
  by_cases hc : t < i ∨ l.length ≤ t + i
  · rw [if_pos hc, List.getD_eq_getElem?_getD, List.getElem?_eq_getElem (by omega)] at this
    exact this
  · rw [if_neg hc, List.getD_eq_getElem?_getD, List.getElem?_eq_getElem ht] at this
    have e : l.length - 1 - t = t := by omega
    simp only [e]
    exact this
theorem swp_next {l : List Int} {i j : Nat} (hj : i + j + 1 = l.length) (h : i < j) : ((swp l i).set i ((swp l i).getD j 0)).set j ((swp l i).getD i 0) = swp l (i + 1) := by
  refine List.ext_getElem (by simp [swp]) fun t h1 h2 => ?_
  have ht : t < l.length := by rw [swp_len] at h2; exact h2
  have e := swp_get (l := l) (i := i + 1) ht
  rw [List.getD_eq_getElem?_getD, List.getElem?_eq_getElem h2] at e
  simp only [Option.getD_some] at e
  rw [e, List.getElem_set]
  by_cases hjt : j = t
  · subst hjt
    rw [if_pos rfl, if_pos (by omega), swp_get (by omega), if_neg (by omega)]
    congr 1
    omega
  · rw [if_neg hjt, List.getElem_set]
    by_cases hit : i = t
    · subst hit
      rw [if_pos rfl, if_pos (by omega), swp_get (by omega), if_neg (by omega)]
      congr 1
      omega
    · rw [if_neg hit]
      have e3 := swp_get (l := l) (i := i) ht
      rw [List.getD_eq_getElem?_getD, List.getElem?_eq_getElem (by rw [swp_len]; exact ht)] at e3
      simp only [Option.getD_some] at e3
      rw [e3]
      by_cases hc : t < i ∨ l.length ≤ t + i
      · rw [if_pos hc, if_pos (by omega)]
      · rw [if_neg hc, if_neg (by omega)]
theorem d48_snoc (q : List Int) (r : Nat) : d48 (q ++ [((r % 10 : Nat) : Int)]) = d48 q ++ [((48 + r % 10 : Nat) : Int)] := by simp [d48]
theorem d48_str {l : List Int} (h : Dg 10 l) : (d48 l).reverse.map ofB = dstr l := by
  rw [d48, dstr, ← List.map_reverse, List.map_map]
  refine List.map_congr_left fun d hd => ?_
  have := h d (List.mem_reverse.1 hd)
  simp only [Function.comp_apply, ofB, dch]
  congr 1
  omega
section
variable [G : Globs]
theorem w_text (a : List Int) (ha : Dg 4294967296 a) (hla : a.length ≤ 100000) : vc Try.prog Γ 69 [0, 2, 3, 4, 5, 6, 7, 12, 15, 31, 48] (Try.f40.body.getD .skip) (postK Γ [.tmp 2] (fun v => v = .s (decS (vl 4294967296 a)))) ⟨argSlots 0 [.rd .u32 a], []⟩ := by
  refine Or.inl (Exists.intro _ (And.intro (s_trimmed a ha) ?_))
  have hml : (dg 4294967296 (vl 4294967296 a)).length ≤ 100000 := Nat.le_trans (dg_len_le b32 _ _ (vl_lt ha)) hla
  generalize vl 4294967296 a = m at hml
  intro _
  refine And.intro (fun h2 => ?_) (fun h2 => ?_)
  · have h2 : m = 0 := by
      have := eq_of_beq h2
      rcases Nat.eq_zero_or_pos m with h | h
      · exact h
      · have := dg_len_pos b32 h
        omega
    subst h2
    rfl
  · have hm : 0 < m := by
      have := ne_of_beq_false h2
      rcases Nat.eq_zero_or_pos m with h | h
      · subst h; exact absurd rfl this
      · exact h
    refine Exists.intro [(3, 3, .u8)] (Exists.intro [] (Exists.intro [] (Exists.intro (Nat × List Int) (Exists.intro (fun x => x.1 ≤ m ∧ x.2 ++ dg 10 x.1 = dg 10 m) (Exists.intro (fun ⟨n, o⟩ => ⟨[(0, .rd .u32 (dg 4294967296 n)), (3, .vec 3 .u8 (d48 o))], []⟩) (Exists.intro (fun x => x.1) (Exists.intro (m, []) (And.intro ⟨Nat.le_refl _, rfl⟩ (And.intro ?_ ?_)))))))))
    · (repeat' (first | exact trivial | exact Or.inl rfl | exact Or.inr (Or.inl ⟨rfl, _, rfl⟩) | refine And.intro ?_ ?_))
    · rintro ⟨n, o⟩ ⟨g3, g4⟩
      dsimp only at g3 g4
      have hnl := Nat.le_trans (dg_len_mono b32 g3) hml
      intro _
      refine And.intro (fun hc => ?_) (fun hc => ?_)
      · have hn : 0 < n := by
          have : (0 : Int) < ((dg 4294967296 n).length : Int) := of_decide_eq_true hc
          rcases Nat.eq_zero_or_pos n with h | h
          · subst h; simp at this
          · exact h
        have qw := s_byWord (dg 4294967296 n) 1000000000 (dg_Dg b32 n) (by omega) (by decide) (by decide)
        rw [vl_dg b32] at qw
        refine Or.inl (Exists.intro _ (And.intro (qw) ?_))
        have htl := text_len hml
        have hrl : n % 1000000000 < 1000000000 := Nat.mod_lt _ (by decide)
        have hNl : (dg 4294967296 (n / 1000000000)).length ≤ 100000 := Nat.le_trans (dg_len_mono b32 (Nat.div_le_self n 1000000000)) hnl
        have hnd : n = n % 1000000000 + 10 ^ 9 * (n / 1000000000) := by omega
        have hNn : n / 1000000000 < n := by omega
        generalize n / 1000000000 = N at hNl hnd hNn
        refine Exists.intro [] (Exists.intro [] (Exists.intro [] (Exists.intro (Nat × Nat × List Int) (Exists.intro (fun x => x.1 ≤ 9 ∧ x.2.1 < 10 ^ (9 - x.1) ∧ x.2.2 ++ dg 10 (x.2.1 + 10 ^ (9 - x.1) * N) = dg 10 m) (Exists.intro (fun ⟨k, r, o⟩ => ⟨[(0, .rd .u32 (dg 4294967296 N)), (3, .vec 3 .u8 (d48 o)), (4, .i .u32 r), (5, .i .i64 k)], []⟩) (Exists.intro (fun x => 9 - x.1) (Exists.intro (0, n % 1000000000, o) (And.intro ⟨by simp, by exact hrl, by dsimp only; rw [← g4]; exact congrArg (fun z => o ++ dg 10 z) hnd.symm⟩ (And.intro ?_ ?_)))))))))
        · (repeat' (first | exact trivial | exact Or.inl rfl | exact Or.inr (Or.inl ⟨rfl, _, rfl⟩) | refine And.intro ?_ ?_))
        · rintro ⟨k, r, q⟩ ⟨f1, f2, f3⟩
          dsimp only at f1 f2 f3
          have hN0 : (dg 4294967296 N).length = 0 ∨ 0 < N := by
            rcases Nat.eq_zero_or_pos N with h | h
            · subst h; exact .inl rfl
            · exact .inr h
          have hN1 : 0 < N → 0 < (dg 4294967296 N).length := dg_len_pos b32
          have hrW : r < 4294967296 := Nat.lt_of_lt_of_le f2 (Nat.le_trans (Nat.pow_le_pow_right (i := 9 - k) (j := 9) (by decide) (by omega)) (by decide))
          repeat' (first | (refine And.intro (fun h => ?_) (fun h => ?_) <;> (try simp [-List.getD_eq_getElem?_getD, -Int.pred_toNat] at h)) | intro _)
          all_goals (try simp only [dg_nil_iff b32, List.length_pos_iff, ne_eq] at *)
          all_goals first | (exfalso; omega) | skip
          all_goals first
            | (have hT : r + 10 ^ (9 - k) * N = N := by
                 have h9 : k = 9 ∨ (r = 0 ∧ N = 0) := by omega
                 rcases h9 with rfl | ⟨rfl, rfl⟩
                 · rw [Nat.sub_self, Nat.pow_zero] at f2 ⊢; omega
                 · simp
               rw [hT] at f3
               refine Exists.intro [] (Exists.intro (N, q) (And.intro ⟨by dsimp only; omega, f3⟩ (And.intro ?_ ?_)))
               · (repeat' (first | exact trivial | exact Or.inl rfl | exact Or.inr (Or.inl ⟨rfl, _, rfl⟩) | refine And.intro ?_ ?_))
               · exact hNn)
            | skip
          all_goals
            have hk : k < 9 := by omega
            have nx := text_next (N := N) hk f2 (by omega)
            rw [nx.1] at f3
            have hql : q.length < 1000000 := by
              have := congrArg List.length f3
              rw [List.length_append, List.length_cons] at this
              omega
            have hl48 : (d48 q).length = q.length := by simp [d48]
            refine And.intro (by decide) ?_
            refine And.intro (by show ((d48 q).length + 1) * 1 ≤ _; omega) ?_
            refine And.intro (by decide) ?_
            refine And.intro ⟨by rw [tdiv10]; omega, by rw [tdiv10]; omega⟩ ?_
            (refine And.intro (rng64 (by omega) (by omega)) ?_)
            have e48 := dig_u32 hrW
            refine Exists.intro [(40, 3)] (Exists.intro (k + 1, r / 10, q ++ [((r % 10 : Nat) : Int)]) (And.intro ⟨hk, nx.2, by dsimp only; rw [← f3, List.append_assoc]; rfl⟩ (And.intro ?_ ?_)))
            · (repeat' (first | exact trivial | exact Or.inl rfl | exact Or.inl (((congrArg (fun x : Int => AV.vec 3 .u8 (d48 q ++ [x])) e48).trans (congrArg (AV.vec 3 .u8) (d48_snoc q r).symm))) | refine And.intro ?_ ?_))
            · show 9 - (k + 1) < 9 - k
              omega
      · have hn : n = 0 := by
          have : ¬ (0 : Int) < ((dg 4294967296 n).length : Int) := of_decide_eq_false hc
          rcases Nat.eq_zero_or_pos n with h | h
          · exact h
          · have := dg_len_pos b32 h
            omega
        subst hn
        rw [dg_zero, List.append_nil] at g4
        subst g4
        intro _
        have hL : (d48 (dg 10 m)).length = (dg 10 m).length := by simp [d48]
        have hLl := text_len hml
        have hLp := dg_len_pos (B := 10) (by decide) hm
        have hD := dg_Dg (B := 10) (by decide) m
        have hfin : AV.s (((d48 (dg 10 m)).reverse).map ofB) = AV.s (decS m) := by
          rw [d48_str hD, decS, if_neg (by omega)]
        generalize d48 (dg 10 m) = l at hL hfin
        (refine And.intro (rng64 (by omega) (by omega)) ?_)
        refine Exists.intro [] (Exists.intro [] (Exists.intro [] (Exists.intro Nat (Exists.intro (fun i => 2 * i ≤ l.length + 1) (Exists.intro (fun i => ⟨[(3, .vec 3 .u8 (swp l i)), (6, .i .i64 i), (7, .i .i64 ((l.length : Int) - 1 - i))], []⟩) (Exists.intro (fun i => l.length + 1 - i) (Exists.intro 0 (And.intro (by simp) (And.intro ?_ ?_)))))))))
        · (repeat' (first | exact trivial | exact Or.inl rfl | exact Or.inl ((by first | rw [swp_zero] | simp)) | refine And.intro ?_ ?_))
        · rintro i hi
          refine And.intro (fun hd => ?_) (fun hd => ?_)
          · have hd : (i : Int) < (l.length : Int) - 1 - i := of_decide_eq_true hd
            obtain ⟨j, hj⟩ : ∃ j : Nat, (l.length : Int) - 1 - i = j := ⟨((l.length : Int) - 1 - i).toNat, by omega⟩
            rw [hj]
            have hsl := swp_len l i
            have hsl2 : ((swp l i).set i ((swp l i).getD j 0)).length = l.length := by rw [List.length_set, hsl]
            refine Exists.intro [.take 0, .take 1, .take 2, .take 3, .blk [4, 5, 6, 7, 8, 9, 10, 11, 12], .one 13, .take 14, .one 15] (And.intro (by kernel_rfl) ?_)
            refine And.intro ⟨by omega, by omega⟩ ?_
            refine And.intro ⟨by omega, by omega⟩ ?_
            refine And.intro ⟨by omega, by omega⟩ ?_
            refine And.intro ⟨by omega, by show (j : Int) < (((swp l i).set i ((swp l i).getD j 0)).length : Int); omega⟩ ?_
            (refine And.intro (rng64 (by omega) (by omega)) ?_)
            (refine And.intro (rng64 (by omega) (by omega)) ?_)
            refine Exists.intro [] (Exists.intro (i + 1) (And.intro (by dsimp only; omega) (And.intro ?_ ?_)))
            · (repeat' (first | exact trivial | exact Or.inl rfl | exact Or.inl ((by first | exact congrArg (AV.vec 3 .u8) (swp_next (by omega) (by omega)) | exact congrArg (AV.i .i64) (by omega))) | refine And.intro ?_ ?_))
            · show l.length + 1 - (i + 1) < l.length + 1 - i
              omega
          · have hd : ¬ (i : Int) < (l.length : Int) - 1 - i := of_decide_eq_false hd
            rw [← hfin, ← swp_end (l := l) (i := i) (by omega)]
            rfl
theorem s_text (a : List Int) (ha : Dg 4294967296 a) (hla : a.length ≤ 100000) : PSpec Try.prog 40 [.rd .u32 a] (.s (decS (vl 4294967296 a))) :=
  pspec_of_vc Γ_good Try.func40 rfl Try.call40 Try.results40 Try.ntmps40 (Nat.le_of_ble_eq_true rfl) (w_text a ha hla)
end
end Go.Proofs.Ytjlbaagnoppfgaa
