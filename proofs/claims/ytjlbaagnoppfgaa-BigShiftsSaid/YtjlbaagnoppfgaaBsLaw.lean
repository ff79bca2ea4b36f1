/-
  A part of the proof that 'typecaselaw.BigShifts' returns true: the law, walked. No conditions.
-/
import Derived.Test.YtjlbaagnoppfgaaBigProH
import Derived.Test.YtjlbaagnoppfgaaSxCut
namespace Go.Proofs.Ytjlbaagnoppfgaa
set_option linter.unusedSectionVars false
set_option linter.unusedSimpArgs false
set_option linter.unusedVariables false
open Go Go.SX Go.Bg
set_option maxRecDepth 100000
set_option maxHeartbeats 0
def ShiftOK (m : Nat) (n : Int) (u : AV) (e : Int) : Prop :=
  (4000 < n ∧ u = .nl ∧ e = 2) ∨ (∃ p : Nat, n = p ∧ p ≤ 4000 ∧ AVle u (.rd .u32 (dg 4294967296 (m * 2 ^ p))) ∧ e = 0) ∨ (∃ p : Nat, n = -(p : Int) ∧ 0 < p ∧ AVle u (.rd .u32 (dg 4294967296 (m / 2 ^ p))) ∧ e = 0)
theorem shift_ok (m : Nat) (n : Int) : ∃ u e, shiftR m n = .tup [u, .i .i64 e] ∧ ShiftOK m n u e := by
  unfold shiftR
  by_cases h1 : 4000 < n
  · exact ⟨_, _, by rw [if_pos h1], .inl ⟨h1, rfl, rfl⟩⟩
  · by_cases h2 : 0 ≤ n
    · refine ⟨_, _, by rw [if_neg h1, if_pos h2], .inr (.inl ⟨n.toNat, by omega, by omega, ?_, rfl⟩)⟩
      rw [Nat.mul_comm]
      exact wnil_le _
    · by_cases h3 : m = 0 ∨ n ≤ -32 * ((dg 4294967296 m).length : Int)
      · refine ⟨_, _, by rw [if_neg h1, if_neg h2, if_pos h3], .inr (.inr ⟨(-n).toNat, by omega, by omega, ?_, rfl⟩)⟩
        have : m / 2 ^ (-n).toNat = 0 := by
          rcases h3 with h3 | h3
          · subst h3; exact Nat.zero_div _
          · exact shift_small (by omega)
        rw [this]
        exact .inr ⟨rfl, _, rfl⟩
      · exact ⟨_, _, by rw [if_neg h1, if_neg h2, if_neg h3], .inr (.inr ⟨(-n).toNat, by omega, by omega, .inl rfl, rfl⟩)⟩
def PowOK (b : Nat) (n : Int) (u : AV) (e : Int) : Prop :=
  (n < 0 ∧ u = .nl ∧ e = 1) ∨ (1000 < n ∧ u = .nl ∧ e = 2) ∨ (∃ p : Nat, n = p ∧ p ≤ 1000 ∧ u = .rd .u32 (dg 4294967296 (b ^ p)) ∧ e = 0)
theorem pow_ok (b : Nat) (n : Int) : ∃ u e, powR b n = .tup [u, .i .i64 e] ∧ PowOK b n u e := by
  unfold powR
  by_cases h1 : n < 0
  · exact ⟨_, _, by rw [if_pos h1], .inl ⟨h1, rfl, rfl⟩⟩
  · by_cases h2 : 1000 < n
    · exact ⟨_, _, by rw [if_neg h1, if_pos h2], .inr (.inl ⟨h2, rfl, rfl⟩)⟩
    · exact ⟨_, _, by rw [if_neg h1, if_neg h2], .inr (.inr ⟨n.toNat, by omega, by omega, rfl, rfl⟩)⟩
open Classical in
noncomputable def wantN (s : Str) : Int := if 1000 < s.length then 2 else if badN s then 4 else 0
open Classical in
noncomputable def wantK (s : Str) (k : Nat) : Int := if (s = [] ∨ (s.getD 0 0 = 48 ∧ 1 < s.length)) ∨ ∃ c ∈ s.take k, ¬ isd c then 4 else 0
theorem wantK_zero {s : Str} (h : s = [] ∨ (s.getD 0 0 = 48 ∧ 1 < s.length)) : wantK s 0 = 4 := by rw [wantK, if_pos (.inl h)]
theorem wantK_zero' {s : Str} (h : ¬ (s = [] ∨ (s.getD 0 0 = 48 ∧ 1 < s.length))) : wantK s 0 = 0 := by
  rw [wantK, if_neg]
  rintro (h1 | ⟨c, hc, _⟩)
  · exact h h1
  · simp at hc
theorem wantK_bad {s : Str} {k : Nat} (hk : k < s.length) (h : ¬ isd (s.getD k 0)) : wantK s (k + 1) = 4 := by
  rw [wantK, if_pos]
  refine .inr ⟨s.getD k 0, ?_, h⟩
  rw [List.take_add_one, List.getElem?_eq_getElem hk, List.getD_eq_getElem?_getD, List.getElem?_eq_getElem hk]
  exact List.mem_append_right _ (by simp)
theorem wantK_good {s : Str} {k : Nat} (hk : k < s.length) (h : isd (s.getD k 0)) : wantK s (k + 1) = wantK s k := by
  unfold wantK
  have : (∃ c ∈ s.take (k + 1), ¬ isd c) ↔ ∃ c ∈ s.take k, ¬ isd c := by
    rw [List.take_add_one, List.getElem?_eq_getElem hk]
    rw [List.getD_eq_getElem?_getD, List.getElem?_eq_getElem hk] at h
    constructor
    · rintro ⟨c, hc, hn⟩
      rcases List.mem_append.1 hc with hc | hc
      · exact ⟨c, hc, hn⟩
      · have : c = s[k] := by simpa using hc
        subst this
        exact absurd h hn
    · rintro ⟨c, hc, hn⟩
      exact ⟨c, List.mem_append_left _ hc, hn⟩
  simp only [this]
theorem wantK_end {s : Str} (h : ¬ 1000 < s.length) : wantK s s.length = wantN s := by
  unfold wantK wantN
  rw [if_neg h, List.take_length]
  by_cases h9 : badN s
  · rw [if_pos h9, if_pos]
    rcases h9 with h | h | h
    · exact .inl (.inl h)
    · exact .inl (.inr h)
    · exact .inr h
  · rw [if_neg h9, if_neg]
    rintro ((h | h) | h)
    · exact h9 (.inl h)
    · exact h9 (.inr (.inl h))
    · exact h9 (.inr (.inr h))
def ReadOK (s : Str) (u : AV) (e : Int) : Prop := e = wantN s ∧ ((e ≠ 0 ∧ u = .nl) ∨ (e = 0 ∧ s.length ≤ 1000 ∧ ¬ badN s ∧ u = .rd .u32 (dg 4294967296 (dv s))))
theorem read_ok (s : Str) : ∃ u e, readR s = .tup [u, .i .i64 e] ∧ ReadOK s u e := by
  unfold readR ReadOK wantN
  by_cases h1 : 1000 < s.length
  · exact ⟨_, _, by rw [if_pos h1], by rw [if_pos h1], .inl ⟨by decide, rfl⟩⟩
  · by_cases h2 : badN s
    · exact ⟨_, _, by rw [if_neg h1, if_pos h2], by rw [if_neg h1, if_pos h2], .inl ⟨by decide, rfl⟩⟩
    · exact ⟨_, _, by rw [if_neg h1, if_neg h2], by rw [if_neg h1, if_neg h2], .inr ⟨rfl, by omega, h2, rfl⟩⟩
section
variable [G : Globs]
theorem s_eqW (x y : Nat) (u v : AV) (hu : AVle u (.rd .u32 (dg 4294967296 x))) (hv : AVle v (.rd .u32 (dg 4294967296 y))) : PSpec Try.prog 32 [u, v] (.b (decide (x = y))) := by
  have h := s_equal32 (dg 4294967296 x) (dg 4294967296 y)
  rw [show decide (dg 4294967296 x = dg 4294967296 y) = decide (x = y) from decide_eq_decide.2 (dg_inj b32)] at h
  exact pspec_le h ⟨hu, hv, trivial⟩
theorem pow2_lt (k : Nat) : 2 ^ k < 4294967296 ^ (k + 1) := Nat.lt_of_lt_of_le (Nat.pow_lt_pow_right (by decide) (Nat.lt_succ_self k)) (Nat.pow_le_pow_left (by decide) _)
theorem pow2_len {k : Nat} (h : k ≤ 4000) : (dg 10000 (2 ^ k)).length ≤ 400000 := by
  have := words_len (pow2_lt k)
  omega
theorem w_bigShifts (a : List Int) (n : Int) (b : Nat) (s : Str) (ha : Dg 4294967296 a) (hn : -9223372036854775808 ≤ n) (hb : b < 4294967296) : VCs Try.prog Γ 185 [0, 1, 2, 3, 8, 9, 10, 11, 12, 13, 15, 16, 17, 18, 19, 20, 23, 33, 51, 52, 61, 62, 76, 108, 109, 118, 119, 128, 136, 148, 150, 151, 152, 163, 174, 176] (Try.f8.body.getD .skip) (postK Γ [.tmp 8] (fun v => v = .b true)) ⟨argSlots 0 [.rd .u32 a, .i .i64 n, .i .u32 b, .s s], []⟩ := by
  refine VCs.seq Γ_good ?_
  refine VCs.seq Γ_good ?_
  intro _
  refine And.intro (fun h => rfl) (fun h => ?_)
  have hla : a.length ≤ 40 := by have : ¬ (40 : Int) < (a.length : Int) := of_decide_eq_false h
                                 omega
  clear h
  have hm : vl 4294967296 a < 4294967296 ^ 40 := Nat.lt_of_lt_of_le (vl_lt ha) (Nat.pow_le_pow_right (by decide) hla)
  have qw := s_ofWords a ha (by omega)
  have qs := s_shift a n ha (by omega) hn
  have qt := s_text a ha (by omega)
  generalize vl 4294967296 a = m at hm qw qs qt
  refine VCs.seq Γ_good ?_
  refine Or.inl (Exists.intro _ (And.intro (qw) ?_))
  refine VCs.cut Γ_good (AV × Int) (fun x => ShiftOK m n x.1 x.2) (fun ⟨u, e⟩ => ⟨[(0, .rd .u32 a), (1, .i .i64 n), (2, .i .u32 b), (3, .s s), (8, .b false), (9, .rd .int (dg 10000 m)), (10, u), (11, .i .i64 e)], []⟩) ?_ ?_
  · obtain ⟨u, e, hR, hOK⟩ := shift_ok m n
    rw [hR] at qs
    refine Or.inl (Exists.intro _ (And.intro (qs) ?_))
    refine Exists.intro (u, e) (And.intro hOK ?_)
    (repeat' (first | exact trivial | exact Or.inl rfl | exact Or.inr (Or.inl ⟨rfl, _, rfl⟩) | refine And.intro ?_ ?_))
  rintro ⟨u, e⟩ hOK
  refine VCs.cut Γ_good Unit (fun _ => True) (fun _ => ⟨[(0, .rd .u32 a), (1, .i .i64 n), (2, .i .u32 b), (3, .s s), (8, .b false), (9, .rd .int (dg 10000 m))], []⟩) ?_ ?_
  · rcases hOK with ⟨h1, h2, h3⟩ | ⟨p, rfl, h2, h3, h4⟩ | ⟨p, rfl, h2, h3, h4⟩
    · dsimp only at h2 h3
      subst h2 h3
      refine And.intro (fun _ => ?_) (fun h9 => absurd h1 (of_decide_eq_false h9))
      refine And.intro (fun _ => ?_) (fun h9 => absurd h9 (by decide))
      refine And.intro (fun h9 => absurd h9 (by decide)) (fun _ => ?_)
      refine Exists.intro () (And.intro trivial ?_)
      (repeat' (first | exact trivial | exact Or.inl rfl | exact Or.inr (Or.inl ⟨rfl, _, rfl⟩) | refine And.intro ?_ ?_))
    · dsimp only at h3 h4
      subst h4
      have hmp : m * 2 ^ p < 4294967296 ^ (40 + (p + 1)) := by
        rw [Nat.pow_add]
        exact Nat.mul_lt_mul'' hm (pow2_lt p)
      have qp := s_power 2 p (by decide) (by omega) (fun k hk => pow2_len (by omega))
      have qb := s_By (dg 10000 m) (dg 10000 (2 ^ p)) (dg_Dg b10 _) (dg_Dg b10 _) (by have := words_len hm; omega) (Nat.le_trans (pow2_len h2) (by decide))
      rw [vl_dg b10, vl_dg b10] at qb
      have qo := s_words (m * 2 ^ p) _ (by omega) hmp
      have qe := s_eqW (m * 2 ^ p) (m * 2 ^ p) u (.rd .u32 (dg 4294967296 (m * 2 ^ p))) h3 (.inl rfl)
      rw [decide_eq_true rfl] at qe
      refine And.intro (fun h9 => by have := of_decide_eq_true h9; omega) (fun _ => ?_)
      refine And.intro (fun _ => ?_) (fun h9 => by have := of_decide_eq_false h9; omega)
      refine And.intro (fun _ => ?_) (fun h9 => absurd h9 (by decide))
      refine Or.inl (Exists.intro _ (And.intro (qp) ?_))
      refine Or.inl (Exists.intro _ (And.intro (qb) ?_))
      refine Or.inl (Exists.intro _ (And.intro (qo) ?_))
      rcases h3 with rfl | ⟨rfl, _⟩
      all_goals
        refine Or.inl (Exists.intro _ (And.intro (qe) ?_))
        refine And.intro (fun h9 => absurd h9 (by decide)) (fun _ => ?_)
        refine Exists.intro () (And.intro trivial ?_)
        (repeat' (first | exact trivial | exact Or.inl rfl | exact Or.inr (Or.inl ⟨rfl, _, rfl⟩) | refine And.intro ?_ ?_))
    · dsimp only at h3 h4
      subst h4
      refine And.intro (fun h9 => by have := of_decide_eq_true h9; omega) (fun _ => ?_)
      refine And.intro (fun h9 => by have := of_decide_eq_true h9; omega) (fun _ => ?_)
      refine And.intro (fun h8 => ?_) (fun h8 => ?_)
      · have h8 : -1300 < -(p : Int) := of_decide_eq_true h8
        have hneg : (0 : Int) - -(p : Int) = (p : Int) := by omega
        have qp := s_power 2 p (by decide) (by omega) (fun k hk => pow2_len (by omega))
        have qb := s_over (dg 10000 m) (dg 10000 (2 ^ p)) (dg_Dg b10 _) (dg_Dg b10 _) (by have := words_len hm; omega) (Nat.le_trans (pow2_len (by omega)) (by decide)) (by rw [vl_dg b10]; exact Nat.pow_pos (by decide))
        rw [vl_dg b10, vl_dg b10] at qb
        have qo := s_words (m / 2 ^ p) 40 (by decide) (Nat.lt_of_le_of_lt (Nat.div_le_self _ _) hm)
        have qe := s_eqW (m / 2 ^ p) (m / 2 ^ p) u (.rd .u32 (dg 4294967296 (m / 2 ^ p))) h3 (.inl rfl)
        rw [decide_eq_true rfl] at qe
        rw [← hneg] at qp
        refine And.intro (rng64 (by omega) (by omega)) ?_
        refine Or.inl (Exists.intro _ (And.intro (qp) ?_))
        refine Or.inl (Exists.intro _ (And.intro (qb) ?_))
        refine Or.inl (Exists.intro _ (And.intro (qo) ?_))
        refine And.intro (fun _ => ?_) (fun h9 => absurd h9 (by decide))
        rcases h3 with rfl | ⟨rfl, _⟩
        all_goals
          refine Or.inl (Exists.intro _ (And.intro (qe) ?_))
          refine And.intro (fun h9 => absurd h9 (by decide)) (fun _ => ?_)
          refine Exists.intro () (And.intro trivial ?_)
          (repeat' (first | exact trivial | exact Or.inl rfl | exact Or.inr (Or.inl ⟨rfl, _, rfl⟩) | refine And.intro ?_ ?_))
      · have h8 : ¬ -1300 < -(p : Int) := of_decide_eq_false h8
        have hz : m / 2 ^ p = 0 := shift_small (by have := dg_len_le b32 40 m hm; omega)
        rw [hz] at h3
        have qe := s_eqW 0 0 u .nl h3 (.inr ⟨rfl, _, rfl⟩)
        rw [decide_eq_true rfl] at qe
        refine And.intro (fun _ => ?_) (fun h9 => absurd h9 (by decide))
        rcases h3 with rfl | ⟨rfl, _⟩
        all_goals
          refine Or.inl (Exists.intro _ (And.intro (qe) ?_))
          refine And.intro (fun h9 => absurd h9 (by decide)) (fun _ => ?_)
          refine Exists.intro () (And.intro trivial ?_)
          (repeat' (first | exact trivial | exact Or.inl rfl | exact Or.inr (Or.inl ⟨rfl, _, rfl⟩) | refine And.intro ?_ ?_))
  rintro ⟨⟩ _
  clear hOK
  refine VCs.cut Γ_good (AV × Int) (fun x => PowOK b n x.1 x.2) (fun ⟨u, e⟩ => ⟨[(0, .rd .u32 a), (1, .i .i64 n), (2, .i .u32 b), (3, .s s), (8, .b false), (9, .rd .int (dg 10000 m)), (15, u), (16, .i .i64 e)], []⟩) ?_ ?_
  · obtain ⟨u, e, hR, hOK⟩ := pow_ok b n
    have qp := s_pow b n hb
    rw [hR] at qp
    refine Or.inl (Exists.intro _ (And.intro (qp) ?_))
    refine Exists.intro (u, e) (And.intro hOK ?_)
    (repeat' (first | exact trivial | exact Or.inl rfl | exact Or.inr (Or.inl ⟨rfl, _, rfl⟩) | refine And.intro ?_ ?_))
  rintro ⟨u, e⟩ hOK
  refine VCs.cut Γ_good Unit (fun _ => True) (fun _ => ⟨[(0, .rd .u32 a), (3, .s s), (8, .b false), (9, .rd .int (dg 10000 m))], []⟩) ?_ ?_
  · rcases hOK with ⟨h1, h2, h3⟩ | ⟨h1, h2, h3⟩ | ⟨p, rfl, h2, h3, h4⟩
    · dsimp only at h2 h3
      subst h2 h3
      refine And.intro (fun _ => ?_) (fun h9 => absurd h1 (of_decide_eq_false h9))
      refine And.intro (fun _ => ?_) (fun h9 => absurd h9 (by decide))
      refine And.intro (fun h9 => absurd h9 (by decide)) (fun _ => ?_)
      refine Exists.intro () (And.intro trivial ?_)
      (repeat' (first | exact trivial | exact Or.inl rfl | exact Or.inr (Or.inl ⟨rfl, _, rfl⟩) | refine And.intro ?_ ?_))
    · dsimp only at h2 h3
      subst h2 h3
      refine And.intro (fun h9 => by have := of_decide_eq_true h9; omega) (fun _ => ?_)
      refine And.intro (fun _ => ?_) (fun h9 => absurd h1 (of_decide_eq_false h9))
      refine And.intro (fun _ => ?_) (fun h9 => absurd h9 (by decide))
      refine And.intro (fun h9 => absurd h9 (by decide)) (fun _ => ?_)
      refine Exists.intro () (And.intro trivial ?_)
      (repeat' (first | exact trivial | exact Or.inl rfl | exact Or.inr (Or.inl ⟨rfl, _, rfl⟩) | refine And.intro ?_ ?_))
    · dsimp only at h3 h4
      subst h3 h4
      have hl := pow_len (k := p) hb
      have hD := dg_Dg b32 (b ^ p)
      have hlt := Nat.lt_of_lt_of_le (dg_lt_pow b32 (b ^ p)) (Nat.pow_le_pow_right (show 0 < 4294967296 by decide) hl)
      have qw2 := s_ofWords (dg 4294967296 (b ^ p)) hD (by omega)
      rw [vl_dg b32] at qw2
      have qp := s_power b p (by omega) (by omega) (fun k hk => by
        have h5 := Nat.lt_of_lt_of_le (dg_lt_pow b32 (b ^ k)) (Nat.pow_le_pow_right (show 0 < 4294967296 by decide) (pow_len (k := k) hb))
        have := words_len h5
        omega)
      have hdl := words_len hlt
      have qg := s_against (dg 10000 (b ^ p)) (dg 10000 (b ^ p)) (dg_Dg b10 _) (dg_Dg b10 _) (by omega) (by omega)
      have hlast := dg_last_ne b32 (b ^ p)
      generalize dg 4294967296 (b ^ p) = L at hl hD qw2 hlast
      refine And.intro (fun h9 => by have := of_decide_eq_true h9; omega) (fun _ => ?_)
      refine And.intro (fun h9 => by have := of_decide_eq_true h9; omega) (fun _ => ?_)
      have qg : PSpec Try.prog 38 [.rd .int (dg 10000 (b ^ p)), .rd .int (dg 10000 (b ^ p))] (.i .i64 0) := by
        rw [show cmpN (vl 10000 (dg 10000 (b ^ p))) (vl 10000 (dg 10000 (b ^ p))) = 0 by unfold cmpN; rw [if_neg (by omega), if_neg (by omega)]] at qg
        exact qg
      have ewb : IntKind.u64.wrap (b : Int) = (b : Int) := by rw [IntKind.wrap_u64]; omega
      rw [← ewb] at qp
      refine And.intro (fun _ => ?_) (fun h9 => absurd h9 (by decide))
      intro _
      by_cases hL : L.length = 0
      · refine And.intro (fun h9 => by have := of_decide_eq_true h9; omega) (fun _ => ?_)
        refine And.intro (fun _ => ?_) (fun h9 => absurd h9 (by decide))
        refine Or.inl (Exists.intro _ (And.intro (qw2) ?_))
        refine Or.inl (Exists.intro _ (And.intro (qp) ?_))
        refine Or.inl (Exists.intro _ (And.intro (qg) ?_))
        refine And.intro (fun h9 => absurd h9 (by decide)) (fun _ => ?_)
        refine Exists.intro () (And.intro trivial ?_)
        (repeat' (first | exact trivial | exact Or.inl rfl | exact Or.inr (Or.inl ⟨rfl, _, rfl⟩) | refine And.intro ?_ ?_))
      · refine And.intro (fun _ => ?_) (fun h9 => by have := of_decide_eq_false h9; omega)
        intro _
        (refine And.intro (rng64 (by omega) (by omega)) ?_)
        refine And.intro ⟨by omega, by omega⟩ ?_
        have hne : (L.getD (Int.toNat ((L.length : Int) - 1)) (dflt .u32) == 0) = false := by
          refine beq_false_of_ne fun e => hlast ?_
          rw [List.getLast?_eq_getElem?, ← e]
          have : Int.toNat ((L.length : Int) - 1) = L.length - 1 := by omega
          rw [this, List.getD_eq_getElem?_getD, List.getElem?_eq_getElem (by omega)]
          rfl
        (conv => whnf)
        rw [hne]
        refine And.intro (fun _ => ?_) (fun h9 => absurd h9 (by decide))
        refine Or.inl (Exists.intro _ (And.intro (qw2) ?_))
        refine Or.inl (Exists.intro _ (And.intro (qp) ?_))
        refine Or.inl (Exists.intro _ (And.intro (qg) ?_))
        refine And.intro (fun h9 => absurd h9 (by decide)) (fun _ => ?_)
        refine Exists.intro () (And.intro trivial ?_)
        (repeat' (first | exact trivial | exact Or.inl rfl | exact Or.inr (Or.inl ⟨rfl, _, rfl⟩) | refine And.intro ?_ ?_))
  rintro ⟨⟩ _
  clear hOK
  refine VCs.cut Γ_good (AV × Int) (fun x => ReadOK s x.1 x.2) (fun ⟨u, e⟩ => ⟨[(0, .rd .u32 a), (3, .s s), (8, .b false), (9, .rd .int (dg 10000 m)), (17, u), (18, .i .i64 e)], []⟩) ?_ ?_
  · obtain ⟨u, e, hR, hOK⟩ := read_ok s
    have qp := s_read s
    rw [hR] at qp
    refine Or.inl (Exists.intro _ (And.intro (qp) ?_))
    refine Exists.intro (u, e) (And.intro hOK ?_)
    (repeat' (first | exact trivial | exact Or.inl rfl | exact Or.inr (Or.inl ⟨rfl, _, rfl⟩) | refine And.intro ?_ ?_))
  rintro ⟨u, e⟩ hOK
  dsimp only at hOK
  refine VCs.seq Γ_good ?_
  refine VCs.cut Γ_good Unit (fun _ => True) (fun _ => ⟨[(0, .rd .u32 a), (3, .s s), (8, .b false), (9, .rd .int (dg 10000 m)), (17, u), (18, .i .i64 e), (19, .i .i64 (wantN s))], []⟩) ?_ ?_
  · intro hlen
    refine And.intro (fun h1 => ?_) (fun h1 => ?_)
    · refine Exists.intro () (And.intro trivial ?_)
      have h1 : (1000 : Int) < (s.length : Int) := of_decide_eq_true h1
      (repeat' (first | exact trivial | exact Or.inl rfl | exact Or.inl ((congrArg (AV.i .i64) (by rw [wantN, if_pos (by omega)]))) | refine And.intro ?_ ?_))
    · have h1 : ¬ 1000 < s.length := by have : ¬ (1000 : Int) < (s.length : Int) := of_decide_eq_false h1
                                        omega
      by_cases hs : s = []
      · refine And.intro (fun h9 => absurd h9 (by rw [hs]; decide)) (fun _ => ?_)
        refine And.intro (fun _ => ?_) (fun h9 => absurd h9 (by decide))
        have hw : (4 : Int) = wantK s 0 := (wantK_zero (.inl hs)).symm
        intro _
        refine Exists.intro [] (Exists.intro [] (Exists.intro [] (Exists.intro Nat (Exists.intro (fun k => k ≤ s.length) (Exists.intro (fun k => ⟨[(0, .rd .u32 a), (3, .s s), (8, .b false), (9, .rd .int (dg 10000 m)), (17, u), (18, .i .i64 e), (19, .i .i64 (wantK s k)), (150, .i .i64 s.length), (151, .i .i64 k)], []⟩) (Exists.intro (fun k => s.length - k) (Exists.intro 0 (And.intro (Nat.zero_le _) (And.intro ?_ ?_)))))))))
        · (repeat' (first | exact trivial | exact Or.inl rfl | exact Or.inl ((congrArg (AV.i .i64) hw)) | refine And.intro ?_ ?_))
        · intro k hk
          refine And.intro (fun hc => ?_) (fun hc => ?_)
          · have hkl : k < s.length := by have : (k : Int) < (s.length : Int) := of_decide_eq_true hc
                                          omega
            refine And.intro ⟨by omega, by omega⟩ ?_
            have ec : s.getD (Int.toNat (k : Int)) 0 = s.getD k 0 := rfl
            refine And.intro (fun hlo => ?_) (fun hlo => ?_)
            · have hlo : ¬ ((s.getD k 0).toNat : Int) < 48 := of_decide_eq_false hlo
              refine And.intro ⟨by omega, by omega⟩ ?_
              refine And.intro (fun hhi => ?_) (fun hhi => ?_)
              · have hhi : (57 : Int) < ((s.getD k 0).toNat : Int) := of_decide_eq_true hhi
                (refine And.intro (rng64 (by omega) (by omega)) ?_)
                refine Exists.intro [] (Exists.intro (k + 1) (And.intro hkl (And.intro ?_ ?_)))
                · (repeat' (first | exact trivial | exact Or.inl rfl | exact Or.inl ((congrArg (AV.i .i64) (wantK_bad hkl (by unfold isd; omega)).symm)) | refine And.intro ?_ ?_))
                · show s.length - (k + 1) < s.length - k
                  omega
              · have hhi : ¬ (57 : Int) < ((s.getD k 0).toNat : Int) := of_decide_eq_false hhi
                (refine And.intro (rng64 (by omega) (by omega)) ?_)
                refine Exists.intro [] (Exists.intro (k + 1) (And.intro hkl (And.intro ?_ ?_)))
                · (repeat' (first | exact trivial | exact Or.inl rfl | exact Or.inl ((congrArg (AV.i .i64) (wantK_good hkl (by unfold isd; omega)).symm)) | refine And.intro ?_ ?_))
                · show s.length - (k + 1) < s.length - k
                  omega
            · have hlo : ((s.getD k 0).toNat : Int) < 48 := of_decide_eq_true hlo
              refine And.intro (fun _ => ?_) (fun h9 => absurd h9 (by decide))
              (refine And.intro (rng64 (by omega) (by omega)) ?_)
              refine Exists.intro [] (Exists.intro (k + 1) (And.intro hkl (And.intro ?_ ?_)))
              · (repeat' (first | exact trivial | exact Or.inl rfl | exact Or.inl ((congrArg (AV.i .i64) (wantK_bad hkl (by unfold isd; omega)).symm)) | refine And.intro ?_ ?_))
              · show s.length - (k + 1) < s.length - k
                omega
          · have hkl : k = s.length := by have : ¬ (k : Int) < (s.length : Int) := of_decide_eq_false hc
                                          omega
            subst hkl
            refine Exists.intro () (And.intro trivial ?_)
            (repeat' (first | exact trivial | exact Or.inl rfl | exact Or.inl ((congrArg (AV.i .i64) (wantK_end h1))) | refine And.intro ?_ ?_))
      have hl0 : 0 < s.length := List.length_pos_iff.2 hs
      refine And.intro (fun _ => ?_) (fun h9 => absurd (by simpa using h9) hs)
      refine And.intro ⟨by omega, by omega⟩ ?_
      refine And.intro (fun h8 => ?_) (fun h8 => ?_)
      · have h8 : s.getD 0 0 = 48 := by
          have h9 := eq_of_beq h8
          exact UInt8.toNat_inj.1 (by show (s.getD 0 0).toNat = 48; have h9 : ((s.getD 0 0).toNat : Int) = 48 := h9; omega)
        intro _
        refine And.intro (fun h9 => ?_) (fun h9 => ?_)
        · have h9 : (1 : Int) < (s.length : Int) := of_decide_eq_true h9
          have hw : (4 : Int) = wantK s 0 := (wantK_zero (.inr ⟨h8, by omega⟩)).symm
          intro _
          refine Exists.intro [] (Exists.intro [] (Exists.intro [] (Exists.intro Nat (Exists.intro (fun k => k ≤ s.length) (Exists.intro (fun k => ⟨[(0, .rd .u32 a), (3, .s s), (8, .b false), (9, .rd .int (dg 10000 m)), (17, u), (18, .i .i64 e), (19, .i .i64 (wantK s k)), (150, .i .i64 s.length), (151, .i .i64 k)], []⟩) (Exists.intro (fun k => s.length - k) (Exists.intro 0 (And.intro (Nat.zero_le _) (And.intro ?_ ?_)))))))))
          · (repeat' (first | exact trivial | exact Or.inl rfl | exact Or.inl ((congrArg (AV.i .i64) hw)) | refine And.intro ?_ ?_))
          · intro k hk
            refine And.intro (fun hc => ?_) (fun hc => ?_)
            · have hkl : k < s.length := by have : (k : Int) < (s.length : Int) := of_decide_eq_true hc
                                            omega
              refine And.intro ⟨by omega, by omega⟩ ?_
              have ec : s.getD (Int.toNat (k : Int)) 0 = s.getD k 0 := rfl
              refine And.intro (fun hlo => ?_) (fun hlo => ?_)
              · have hlo : ¬ ((s.getD k 0).toNat : Int) < 48 := of_decide_eq_false hlo
                refine And.intro ⟨by omega, by omega⟩ ?_
                refine And.intro (fun hhi => ?_) (fun hhi => ?_)
                · have hhi : (57 : Int) < ((s.getD k 0).toNat : Int) := of_decide_eq_true hhi
                  (refine And.intro (rng64 (by omega) (by omega)) ?_)
                  refine Exists.intro [] (Exists.intro (k + 1) (And.intro hkl (And.intro ?_ ?_)))
                  · (repeat' (first | exact trivial | exact Or.inl rfl | exact Or.inl ((congrArg (AV.i .i64) (wantK_bad hkl (by unfold isd; omega)).symm)) | refine And.intro ?_ ?_))
                  · show s.length - (k + 1) < s.length - k
                    omega
                · have hhi : ¬ (57 : Int) < ((s.getD k 0).toNat : Int) := of_decide_eq_false hhi
                  (refine And.intro (rng64 (by omega) (by omega)) ?_)
                  refine Exists.intro [] (Exists.intro (k + 1) (And.intro hkl (And.intro ?_ ?_)))
                  · (repeat' (first | exact trivial | exact Or.inl rfl | exact Or.inl ((congrArg (AV.i .i64) (wantK_good hkl (by unfold isd; omega)).symm)) | refine And.intro ?_ ?_))
                  · show s.length - (k + 1) < s.length - k
                    omega
              · have hlo : ((s.getD k 0).toNat : Int) < 48 := of_decide_eq_true hlo
                refine And.intro (fun _ => ?_) (fun h9 => absurd h9 (by decide))
                (refine And.intro (rng64 (by omega) (by omega)) ?_)
                refine Exists.intro [] (Exists.intro (k + 1) (And.intro hkl (And.intro ?_ ?_)))
                · (repeat' (first | exact trivial | exact Or.inl rfl | exact Or.inl ((congrArg (AV.i .i64) (wantK_bad hkl (by unfold isd; omega)).symm)) | refine And.intro ?_ ?_))
                · show s.length - (k + 1) < s.length - k
                  omega
            · have hkl : k = s.length := by have : ¬ (k : Int) < (s.length : Int) := of_decide_eq_false hc
                                            omega
              subst hkl
              refine Exists.intro () (And.intro trivial ?_)
              (repeat' (first | exact trivial | exact Or.inl rfl | exact Or.inl ((congrArg (AV.i .i64) (wantK_end h1))) | refine And.intro ?_ ?_))
        · have h9 : ¬ (1 : Int) < (s.length : Int) := of_decide_eq_false h9
          have hw : (0 : Int) = wantK s 0 := (wantK_zero' (fun h => by rcases h with h | h; exact hs h; omega)).symm
          intro _
          refine Exists.intro [] (Exists.intro [] (Exists.intro [] (Exists.intro Nat (Exists.intro (fun k => k ≤ s.length) (Exists.intro (fun k => ⟨[(0, .rd .u32 a), (3, .s s), (8, .b false), (9, .rd .int (dg 10000 m)), (17, u), (18, .i .i64 e), (19, .i .i64 (wantK s k)), (150, .i .i64 s.length), (151, .i .i64 k)], []⟩) (Exists.intro (fun k => s.length - k) (Exists.intro 0 (And.intro (Nat.zero_le _) (And.intro ?_ ?_)))))))))
          · (repeat' (first | exact trivial | exact Or.inl rfl | exact Or.inl ((congrArg (AV.i .i64) hw)) | refine And.intro ?_ ?_))
          · intro k hk
            refine And.intro (fun hc => ?_) (fun hc => ?_)
            · have hkl : k < s.length := by have : (k : Int) < (s.length : Int) := of_decide_eq_true hc
                                            omega
              refine And.intro ⟨by omega, by omega⟩ ?_
              have ec : s.getD (Int.toNat (k : Int)) 0 = s.getD k 0 := rfl
              refine And.intro (fun hlo => ?_) (fun hlo => ?_)
              · have hlo : ¬ ((s.getD k 0).toNat : Int) < 48 := of_decide_eq_false hlo
                refine And.intro ⟨by omega, by omega⟩ ?_
                refine And.intro (fun hhi => ?_) (fun hhi => ?_)
                · have hhi : (57 : Int) < ((s.getD k 0).toNat : Int) := of_decide_eq_true hhi
                  (refine And.intro (rng64 (by omega) (by omega)) ?_)
                  refine Exists.intro [] (Exists.intro (k + 1) (And.intro hkl (And.intro ?_ ?_)))
                  · (repeat' (first | exact trivial | exact Or.inl rfl | exact Or.inl ((congrArg (AV.i .i64) (wantK_bad hkl (by unfold isd; omega)).symm)) | refine And.intro ?_ ?_))
                  · show s.length - (k + 1) < s.length - k
                    omega
                · have hhi : ¬ (57 : Int) < ((s.getD k 0).toNat : Int) := of_decide_eq_false hhi
                  (refine And.intro (rng64 (by omega) (by omega)) ?_)
                  refine Exists.intro [] (Exists.intro (k + 1) (And.intro hkl (And.intro ?_ ?_)))
                  · (repeat' (first | exact trivial | exact Or.inl rfl | exact Or.inl ((congrArg (AV.i .i64) (wantK_good hkl (by unfold isd; omega)).symm)) | refine And.intro ?_ ?_))
                  · show s.length - (k + 1) < s.length - k
                    omega
              · have hlo : ((s.getD k 0).toNat : Int) < 48 := of_decide_eq_true hlo
                refine And.intro (fun _ => ?_) (fun h9 => absurd h9 (by decide))
                (refine And.intro (rng64 (by omega) (by omega)) ?_)
                refine Exists.intro [] (Exists.intro (k + 1) (And.intro hkl (And.intro ?_ ?_)))
                · (repeat' (first | exact trivial | exact Or.inl rfl | exact Or.inl ((congrArg (AV.i .i64) (wantK_bad hkl (by unfold isd; omega)).symm)) | refine And.intro ?_ ?_))
                · show s.length - (k + 1) < s.length - k
                  omega
            · have hkl : k = s.length := by have : ¬ (k : Int) < (s.length : Int) := of_decide_eq_false hc
                                            omega
              subst hkl
              refine Exists.intro () (And.intro trivial ?_)
              (repeat' (first | exact trivial | exact Or.inl rfl | exact Or.inl ((congrArg (AV.i .i64) (wantK_end h1))) | refine And.intro ?_ ?_))
      · have h8 : s.getD 0 0 ≠ 48 := fun e => by
          have h9 := ne_of_beq_false h8
          exact h9 (by show ((s.getD 0 0).toNat : Int) = 48; rw [e]; rfl)
        refine And.intro (fun h9 => absurd h9 (by decide)) (fun _ => ?_)
        have hw : (0 : Int) = wantK s 0 := (wantK_zero' (fun h => by rcases h with h | h; exact hs h; exact h8 h.1)).symm
        intro _
        refine Exists.intro [] (Exists.intro [] (Exists.intro [] (Exists.intro Nat (Exists.intro (fun k => k ≤ s.length) (Exists.intro (fun k => ⟨[(0, .rd .u32 a), (3, .s s), (8, .b false), (9, .rd .int (dg 10000 m)), (17, u), (18, .i .i64 e), (19, .i .i64 (wantK s k)), (150, .i .i64 s.length), (151, .i .i64 k)], []⟩) (Exists.intro (fun k => s.length - k) (Exists.intro 0 (And.intro (Nat.zero_le _) (And.intro ?_ ?_)))))))))
        · (repeat' (first | exact trivial | exact Or.inl rfl | exact Or.inl ((congrArg (AV.i .i64) hw)) | refine And.intro ?_ ?_))
        · intro k hk
          refine And.intro (fun hc => ?_) (fun hc => ?_)
          · have hkl : k < s.length := by have : (k : Int) < (s.length : Int) := of_decide_eq_true hc
                                          omega
            refine And.intro ⟨by omega, by omega⟩ ?_
            have ec : s.getD (Int.toNat (k : Int)) 0 = s.getD k 0 := rfl
            refine And.intro (fun hlo => ?_) (fun hlo => ?_)
            · have hlo : ¬ ((s.getD k 0).toNat : Int) < 48 := of_decide_eq_false hlo
              refine And.intro ⟨by omega, by omega⟩ ?_
              refine And.intro (fun hhi => ?_) (fun hhi => ?_)
              · have hhi : (57 : Int) < ((s.getD k 0).toNat : Int) := of_decide_eq_true hhi
                (refine And.intro (rng64 (by omega) (by omega)) ?_)
                refine Exists.intro [] (Exists.intro (k + 1) (And.intro hkl (And.intro ?_ ?_)))
                · (repeat' (first | exact trivial | exact Or.inl rfl | exact Or.inl ((congrArg (AV.i .i64) (wantK_bad hkl (by unfold isd; omega)).symm)) | refine And.intro ?_ ?_))
                · show s.length - (k + 1) < s.length - k
                  omega
              · have hhi : ¬ (57 : Int) < ((s.getD k 0).toNat : Int) := of_decide_eq_false hhi
                (refine And.intro (rng64 (by omega) (by omega)) ?_)
                refine Exists.intro [] (Exists.intro (k + 1) (And.intro hkl (And.intro ?_ ?_)))
                · (repeat' (first | exact trivial | exact Or.inl rfl | exact Or.inl ((congrArg (AV.i .i64) (wantK_good hkl (by unfold isd; omega)).symm)) | refine And.intro ?_ ?_))
                · show s.length - (k + 1) < s.length - k
                  omega
            · have hlo : ((s.getD k 0).toNat : Int) < 48 := of_decide_eq_true hlo
              refine And.intro (fun _ => ?_) (fun h9 => absurd h9 (by decide))
              (refine And.intro (rng64 (by omega) (by omega)) ?_)
              refine Exists.intro [] (Exists.intro (k + 1) (And.intro hkl (And.intro ?_ ?_)))
              · (repeat' (first | exact trivial | exact Or.inl rfl | exact Or.inl ((congrArg (AV.i .i64) (wantK_bad hkl (by unfold isd; omega)).symm)) | refine And.intro ?_ ?_))
              · show s.length - (k + 1) < s.length - k
                omega
          · have hkl : k = s.length := by have : ¬ (k : Int) < (s.length : Int) := of_decide_eq_false hc
                                          omega
            subst hkl
            refine Exists.intro () (And.intro trivial ?_)
            (repeat' (first | exact trivial | exact Or.inl rfl | exact Or.inl ((congrArg (AV.i .i64) (wantK_end h1))) | refine And.intro ?_ ?_))
  rintro ⟨⟩ _
  have qd := s_digits (dg 10000 m) (dg_Dg b10 m) (by have := words_len hm; omega)
  rw [vl_dg b10] at qd
  obtain ⟨he, hOK⟩ := hOK
  refine VCs.of_vc Γ_good ?_
  refine Or.inl (Exists.intro _ (And.intro (qt) ?_))
  refine Or.inl (Exists.intro _ (And.intro (qd) ?_))
  refine And.intro (fun _ => ?_) (fun h9 => absurd h9 (by rw [beq_self_eq_true]; decide))
  rw [← he]
  refine And.intro (fun h9 => absurd h9 (by show ¬ (e != e) = true; simp)) (fun _ => ?_)
  rcases hOK with ⟨h0, rfl⟩ | ⟨rfl, hl, hbad, rfl⟩
  · refine And.intro (fun _ => rfl) (fun h9 => absurd (by simpa using h9) h0)
  · refine And.intro (fun h9 => absurd h9 (by decide)) (fun _ => ?_)
    have hds : ∀ c ∈ s, isd c := fun c hc => Classical.byContradiction fun h => hbad (.inr (.inr ⟨c, hc, h⟩))
    have hlt : dv s < 4294967296 ^ s.length := Nat.lt_of_lt_of_le (dv_lt hds) (Nat.pow_le_pow_left (by decide) _)
    refine Or.inl (Exists.intro _ (And.intro (s_ofDigits s hds (by omega)) ?_))
    refine Or.inl (Exists.intro _ (And.intro (s_words (dv s) s.length (by omega) hlt) ?_))
    have qe := s_eqW (dv s) (dv s) (.rd .u32 (dg 4294967296 (dv s))) (.rd .u32 (dg 4294967296 (dv s))) (.inl rfl) (.inl rfl)
    rw [decide_eq_true rfl] at qe
    refine Or.inl (Exists.intro _ (And.intro (qe) ?_))
    rfl
theorem s_bigShifts (a : List Int) (n : Int) (b : Nat) (s : Str) (ha : Dg 4294967296 a) (hn : -9223372036854775808 ≤ n) (hb : b < 4294967296) : PSpec Try.prog 8 [.rd .u32 a, .i .i64 n, .i .u32 b, .s s] (.b true) :=
  pspec_of_VCs Γ_good Try.func8 rfl Try.call8 Try.results8 Try.ntmps8 (Nat.le_of_ble_eq_true rfl) (w_bigShifts a n b s ha hn hb) Γ_good
theorem bigShifts_spec (a : List Int) (n b : Int) (s : Str) (ha : ∀ x ∈ a, 0 ≤ x ∧ x ≤ 4294967295) (hn : -9223372036854775808 ≤ n ∧ n ≤ 9223372036854775807) (hb : 0 ≤ b ∧ b ≤ 4294967295) :
    PSpec Try.prog 8 [.rd .u32 a, .i .i64 n, .i .u32 b, .s s] (.b true) := by
  obtain ⟨k, rfl⟩ : ∃ k : Nat, b = k := ⟨b.toNat, by omega⟩
  exact s_bigShifts a n k s (fun x hx => ⟨(ha x hx).1, by have := (ha x hx).2; omega⟩) hn.1 (by omega)
end
end Go.Proofs.Ytjlbaagnoppfgaa
