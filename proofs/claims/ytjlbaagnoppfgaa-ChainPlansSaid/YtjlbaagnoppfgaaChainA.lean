/-
  A part of the proof that 'typecaselaw.ChainPlans' returns true: the document's way, walked. No conditions.
-/
import Derived.Test.YtjlbaagnoppfgaaWkBase
import Derived.Test.YtjlbaagnoppfgaaChainLaw
namespace Go.Proofs.Ytjlbaagnoppfgaa
set_option linter.unusedSectionVars false
set_option linter.unusedSimpArgs false
set_option linter.unusedVariables false
open Go Go.SX Go.Ch
set_option maxRecDepth 100000
set_option maxHeartbeats 0
theorem has_next {l : List Int} {n : Int} {k : Nat} (hc : k < l.length) (hn : n ∉ l.take k) (hq : l[k] ≠ n) : n ∉ l.take (k + 1) := fun hm => by
  rw [List.take_add_one, List.getElem?_eq_getElem hc] at hm
  rcases List.mem_append.1 hm with hm | hm
  · exact hn hm
  · have : n = l[k] := by simpa using hm
    exact hq this.symm
section
variable [G : Globs]
theorem w_has (l : List Int) (n : Int) : vc Try.prog Γ 17 [0, 1, 4, 6, 7, 8, 9, 10, 15] (Try.f113.body.getD .skip) (postK Γ [.tmp 4] (fun v => v = .b (decide (n ∈ l)))) ⟨argSlots 0 [.rd .int l, .i .i64 n], []⟩ := by
  intro hl; replace hl := len_le hl
  refine Exists.intro [] (Exists.intro [] (Exists.intro [] (Exists.intro Nat (Exists.intro (fun k => k ≤ l.length ∧ n ∉ l.take k) (Exists.intro (fun k => ⟨[(1, .i .i64 n), (7, .rd .int l), (8, .i .i64 l.length), (9, .i .i64 k)], []⟩) (Exists.intro (fun k => l.length - k) (Exists.intro 0 (And.intro ⟨Nat.zero_le _, by simp⟩ (And.intro ?_ ?_)))))))))
  · (repeat' (first | exact trivial | exact Or.inl rfl | exact Or.inr (Or.inl ⟨rfl, _, rfl⟩) | exact Or.inr (Or.inr (Or.inr ⟨_, _, _, rfl, rfl⟩)) | refine And.intro ?_ ?_))
  · rintro k ⟨hk, hn⟩
    refine And.intro (fun hc => ?_) (fun hc => ?_)
    · have hc : k < l.length := by have : (k : Int) < (l.length : Int) := of_decide_eq_true hc
                                   omega
      have hg : l.getD (Int.toNat (k : Int)) (dflt .int) = l[k] := by rw [Int.toNat_natCast, List.getD_eq_getElem?_getD, List.getElem?_eq_getElem hc]; rfl
      refine And.intro ⟨by omega, by omega⟩ ?_
      refine And.intro (fun hq => ?_) (fun hq => ?_)
      · have hq : l[k] = n := by rw [hg] at hq; exact eq_of_beq hq
        refine congrArg AV.b ?_
        rw [decide_eq_true]
        rw [← hq]
        exact List.getElem_mem hc
      · have hq : l[k] ≠ n := by rw [hg] at hq; exact ne_of_beq_false hq
        (refine And.intro (rng64 (by omega) (by omega)) ?_)
        refine Exists.intro [] (Exists.intro (k + 1) (And.intro ⟨hc, has_next hc hn hq⟩ (And.intro ?_ ?_)))
        · (repeat' (first | exact trivial | exact Or.inl rfl | exact Or.inr (Or.inl ⟨rfl, _, rfl⟩) | exact Or.inr (Or.inr (Or.inr ⟨_, _, _, rfl, rfl⟩)) | refine And.intro ?_ ?_))
        · show l.length - (k + 1) < l.length - k
          omega
    · have hc : k = l.length := by have : ¬ (k : Int) < (l.length : Int) := of_decide_eq_false hc
                                   omega
      rw [hc, List.take_length] at hn
      exact congrArg AV.b (decide_eq_false hn).symm
theorem s_has (l : List Int) (n : Int) : PSpec Try.prog 113 [.rd .int l, .i .i64 n] (.b (decide (n ∈ l))) :=
  pspec_of_vc Γ_good Try.func113 rfl Try.call113 Try.results113 Try.ntmps113 (Nat.le_of_ble_eq_true rfl) (w_has l n)
/-- the levels up to d -/
def Lev (l : List Link) (t : Int) (L : List (List Int)) (d : Nat) : Prop := L.length = d + 1 ∧ ∀ (k : Nat) m, L[k]? = some m → ∀ n, n ∈ m ↔ Rb l t k n = true
theorem Lev.get {l : List Link} {t : Int} {L : List (List Int)} {d k : Nat} (h : Lev l t L d) (hk : k ≤ d) (n : Int) : n ∈ L.getD k [] ↔ Rb l t k n = true := by
  have hlt : k < L.length := by rw [h.1]; omega
  rw [List.getD_eq_getElem?_getD, List.getElem?_eq_getElem hlt]
  exact h.2 k _ (List.getElem?_eq_getElem hlt) n
theorem has_dec {l : List Link} {t : Int} {L : List (List Int)} {d k : Nat} (h : Lev l t L d) (hk : k ≤ d) (n : Int) : decide (n ∈ L.getD k []) = Rb l t k n := by
  rw [Bool.eq_iff_iff, decide_eq_true_eq]
  exact h.get hk n
theorem below_next {l : List Link} {t f : Int} {d : Nat} (h : ∀ k, k < d → Rb l t k f = false) (hc : Rb l t d f = false) : ∀ k, k < d + 1 → Rb l t k f = false := fun k hk => by
  rcases Nat.lt_or_ge k d with h1 | h1
  · exact h k h1
  · have : k = d := by omega
    rw [this]; exact hc
theorem idx_eq {l : List Link} {t n : Int} {e i I : Nat} (hi : i < l.length) (hI : l.findIdx (fun x => decide (x.fr = n) && Rb l t e x.to) = I) (hle : i ≤ I) (ha : l[i].fr = n) (hb : Rb l t e l[i].to = true) : i = I := by
  rcases Nat.lt_or_ge i I with h | h
  · have := List.not_of_lt_findIdx (p := fun x => decide (x.fr = n) && Rb l t e x.to) (xs := l) (i := i) (by rw [hI]; exact h)
    simp [ha, hb] at this
  · omega
theorem idx_ne {l : List Link} {t n : Int} {e i I : Nat} (hi : i < l.length) (hI : l.findIdx (fun x => decide (x.fr = n) && Rb l t e x.to) = I) (h : ¬ (l[i].fr = n ∧ Rb l t e l[i].to = true)) : i ≠ I := by
  rintro rfl
  have := List.findIdx_getElem (p := fun x => decide (x.fr = n) && Rb l t e x.to) (xs := l) (w := by rw [hI]; exact hi)
  simp only [hI, Bool.and_eq_true, decide_eq_true_eq] at this
  exact h this
theorem lev_add {l : List Link} {t : Int} {d i : Nat} {q : List Int} (hi : i < l.length) (h : ∀ n, n ∈ q ↔ ∃ y ∈ l.take i, y.fr = n ∧ Rb l t d y.to = true) (hr : Rb l t d l[i].to = true) :
    ∀ n, n ∈ q ++ [l[i].fr] ↔ ∃ y ∈ l.take (i + 1), y.fr = n ∧ Rb l t d y.to = true := fun n => by
  rw [List.mem_append, h, List.take_add_one, List.getElem?_eq_getElem hi]
  constructor
  · rintro (⟨y, hy, h1⟩ | h1)
    · exact ⟨y, List.mem_append_left _ hy, h1⟩
    · exact ⟨l[i], List.mem_append_right _ (by simp), by simpa using (List.mem_singleton.1 h1).symm, hr⟩
  · rintro ⟨y, hy, h1, h2⟩
    rcases List.mem_append.1 hy with hy | hy
    · exact .inl ⟨y, hy, h1, h2⟩
    · have : y = l[i] := by simpa using hy
      subst this
      exact .inr (by simp [h1])
theorem lev_same {l : List Link} {t : Int} {d i : Nat} {q : List Int} (hi : i < l.length) (h : ∀ n, n ∈ q ↔ ∃ y ∈ l.take i, y.fr = n ∧ Rb l t d y.to = true) (hr : Rb l t d l[i].to = true → l[i].fr ∈ q) :
    ∀ n, n ∈ q ↔ ∃ y ∈ l.take (i + 1), y.fr = n ∧ Rb l t d y.to = true := fun n => by
  rw [List.take_add_one, List.getElem?_eq_getElem hi]
  constructor
  · intro hn
    obtain ⟨y, hy, h1⟩ := (h n).1 hn
    exact ⟨y, List.mem_append_left _ hy, h1⟩
  · rintro ⟨y, hy, h1, h2⟩
    rcases List.mem_append.1 hy with hy | hy
    · exact (h n).2 ⟨y, hy, h1, h2⟩
    · have : y = l[i] := by simpa using hy
      subst this
      rw [← h1]
      exact hr h2
theorem lev_next {l : List Link} {t : Int} {d : Nat} {L : List (List Int)} {q : List Int} (h : Lev l t L d) (hq : ∀ n, n ∈ q ↔ ∃ y ∈ l, y.fr = n ∧ Rb l t d y.to = true) : Lev l t (L ++ [q]) (d + 1) := by
  refine ⟨by simp [h.1], fun k m hm n => ?_⟩
  rcases Nat.lt_or_ge k L.length with hk | hk
  · rw [List.getElem?_append_left hk] at hm
    exact h.2 k m hm n
  · rw [List.getElem?_append_right hk] at hm
    have hk0 : k - L.length = 0 := by
      rcases Nat.eq_zero_or_pos (k - L.length) with h0 | h0
      · exact h0
      · rw [List.getElem?_eq_none (by simp; omega)] at hm; cases hm
    rw [hk0] at hm
    have : q = m := by simpa using hm
    subst this
    have : k = d + 1 := by have := h.1; omega
    subst this
    rw [hq, Rb_succ]
/-- what 'WayOf' answers -/
noncomputable def wayR (l : List Link) (t from_ : Int) : AV := open Classical in
  if h : ∃ d, Dist l t from_ d then .tup [.rd .int (wayF l t (Classical.choose h) from_), .b true] else .tup [.nl, .b false]
theorem wayR_pos {l : List Link} {t n : Int} {d : Nat} (h : Dist l t n d) : wayR l t n = .tup [.rd .int (wayF l t d n), .b true] := by
  have hex : ∃ d, Dist l t n d := ⟨d, h⟩
  unfold wayR
  rw [dif_pos hex]
  have := (Classical.choose_spec hex).uniq h
  rw [this]
theorem wayR_neg {l : List Link} {t n : Int} (h : ¬ ∃ d, Dist l t n d) : wayR l t n = .tup [.nl, .b false] := by
  unfold wayR
  rw [dif_neg h]
theorem lev_zero (l : List Link) (t : Int) : Lev l t [[t]] 0 := ⟨rfl, fun k m hm n => by
  match k, hm with
  | 0, hm => simp at hm; subst hm; simp [Rb]⟩
theorem w_wayOf (l : List Link) (f t : Int) (hl : l.length ≤ 100) : vc Try.prog Γ 104 [0, 1, 2, 6, 7, 8, 9, 10, 11, 13, 14, 15, 16, 17, 28, 34, 35, 36, 37, 38, 56, 71, 74, 75, 76, 77, 95] (Try.f64.body.getD .skip) (postK Γ [.tmp 6, .tmp 7] (fun v => v = wayR l t f)) ⟨argSlots 0 [.rd .link l, .i .i64 f, .i .i64 t], []⟩ := by
  refine Exists.intro [] (Exists.intro [] (Exists.intro [] (Exists.intro (Nat × List (List Int)) (Exists.intro (fun x => Lev l t x.2 x.1 ∧ x.1 ≤ l.length + 1 ∧ ∀ k, k < x.1 → Rb l t k f = false) (Exists.intro (fun ⟨d, L⟩ => ⟨[(0, .rd .link l), (1, .i .i64 f), (8, .vec 20 .ints L), (9, .fn 113 []), (10, .i .i64 d)], []⟩) (Exists.intro (fun x => l.length + 2 - x.1) (Exists.intro (0, [[t]]) (And.intro ⟨lev_zero l t, by simp, fun k hk => by simp at hk⟩ (And.intro ?_ ?_)))))))))
  · (repeat' (first | exact trivial | exact Or.inl rfl | exact Or.inr (Or.inl ⟨rfl, _, rfl⟩) | exact Or.inr (Or.inr (Or.inr ⟨_, _, _, rfl, rfl⟩)) | refine And.intro ?_ ?_))
  · rintro ⟨d, L⟩ ⟨h1, h2, h3⟩
    dsimp only at h1 h2 h3
    refine And.intro ⟨by omega, by have := h1.1; omega⟩ ?_
    have qh := s_has (L.getD d []) f
    rw [has_dec h1 (Nat.le_refl d)] at qh
    refine Or.inl (Exists.intro _ (And.intro (qh) ?_))
    refine And.intro (fun hc => ?_) (fun hc => ?_)
    · have hc : Rb l t d f = false := by simpa using hc
      intro _
      refine And.intro (fun hd => ?_) (fun hd => ?_)
      · have hd : l.length < d := by have : (l.length : Int) < d := of_decide_eq_true hd
                                     omega
        rw [wayR_neg (fun ⟨k, hk⟩ => by
          have h5 := hk.le
          have := h3 k (by omega)
          rw [hk.1] at this
          cases this)]
        rfl
      · have hd : d ≤ l.length := by have : ¬ (l.length : Int) < d := of_decide_eq_false hd
                                     omega
        intro _
        refine Exists.intro [(11, 11, .int)] (Exists.intro [] (Exists.intro [] (Exists.intro (Nat × List Int) (Exists.intro (fun x => x.1 ≤ l.length ∧ x.2.length ≤ x.1 ∧ ∀ n, n ∈ x.2 ↔ ∃ y ∈ l.take x.1, y.fr = n ∧ Rb l t d y.to = true) (Exists.intro (fun ⟨i, q⟩ => ⟨[(0, .rd .link l), (1, .i .i64 f), (8, .vec 20 .ints L), (9, .fn 113 []), (10, .i .i64 d), (11, .vec 11 .int q), (35, .rd .link l), (36, .i .i64 l.length), (37, .i .i64 i)], []⟩) (Exists.intro (fun x => l.length - x.1) (Exists.intro (0, []) (And.intro ⟨Nat.zero_le _, by simp, by simp⟩ (And.intro ?_ ?_)))))))))
        · (repeat' (first | exact trivial | exact Or.inl rfl | exact Or.inr (Or.inl ⟨rfl, _, rfl⟩) | exact Or.inr (Or.inr (Or.inr ⟨_, _, _, rfl, rfl⟩)) | refine And.intro ?_ ?_))
        · rintro ⟨i, q⟩ ⟨g1, g2, g3⟩
          dsimp only at g1 g2 g3
          refine And.intro (fun he => ?_) (fun he => ?_)
          · have hi : i < l.length := by have : (i : Int) < (l.length : Int) := of_decide_eq_true he
                                         omega
            refine And.intro ⟨by omega, by omega⟩ ?_
            have hx : l.getD (Int.toNat (i : Int)) (dflt .link) = l[i] := by rw [Int.toNat_natCast, List.getD_eq_getElem?_getD, List.getElem?_eq_getElem hi]; rfl
            have qt := s_has (L.getD d []) l[i].to
            rw [has_dec h1 (Nat.le_refl d), ← hx] at qt
            have qf := s_has q l[i].fr
            rw [← hx] at qf
            refine Exists.intro [.blk [0, 1, 2, 3, 4, 5, 6, 7, 8, 9, 10, 11, 12, 13, 14, 15]] (And.intro (by kernel_rfl) ?_)
            refine And.intro ⟨by omega, by have := h1.1; omega⟩ ?_
            refine Exists.intro _ (And.intro (qt) ?_)
            refine And.intro (fun ha => ?_) (fun ha => ?_)
            · refine Exists.intro _ (And.intro (qf) ?_)
              rw [hx] at ha
              refine And.intro (fun hb => ?_) (fun hb => ?_)
              · have hb : l[i].fr ∉ q := by rw [hx] at hb; simpa using hb
                refine And.intro (by show (q.length + 1) * 8 ≤ _; omega) ?_
                (refine And.intro (rng64 (by omega) (by omega)) ?_)
                refine Exists.intro [(61, 11)] (Exists.intro (i + 1, q ++ [l[i].fr]) (And.intro ⟨hi, by simp; omega, lev_add hi g3 ha⟩ (And.intro ?_ ?_)))
                · (repeat' (first | exact trivial | exact Or.inl rfl | exact Or.inl ((by rw [hx])) | refine And.intro ?_ ?_))
                · show l.length - (i + 1) < l.length - i
                  omega
              · have hb : l[i].fr ∈ q := by rw [hx] at hb; simpa using hb
                (refine And.intro (rng64 (by omega) (by omega)) ?_)
                refine Exists.intro [] (Exists.intro (i + 1, q) (And.intro ⟨hi, by dsimp only; omega, lev_same hi g3 (fun _ => hb)⟩ (And.intro ?_ ?_)))
                · (repeat' (first | exact trivial | exact Or.inl rfl | exact Or.inr (Or.inl ⟨rfl, _, rfl⟩) | exact Or.inr (Or.inr (Or.inr ⟨_, _, _, rfl, rfl⟩)) | refine And.intro ?_ ?_))
                · show l.length - (i + 1) < l.length - i
                  omega
            · refine And.intro (fun h9 => absurd h9 (by decide)) (fun _ => ?_)
              have ha : Rb l t d l[i].to = false := by rw [hx] at ha; exact ha
              (refine And.intro (rng64 (by omega) (by omega)) ?_)
              refine Exists.intro [] (Exists.intro (i + 1, q) (And.intro ⟨hi, by dsimp only; omega, lev_same hi g3 (fun h9 => by rw [ha] at h9; cases h9)⟩ (And.intro ?_ ?_)))
              · (repeat' (first | exact trivial | exact Or.inl rfl | exact Or.inr (Or.inl ⟨rfl, _, rfl⟩) | exact Or.inr (Or.inr (Or.inr ⟨_, _, _, rfl, rfl⟩)) | refine And.intro ?_ ?_))
              · show l.length - (i + 1) < l.length - i
                omega
          · have hi : i = l.length := by have : ¬ (i : Int) < (l.length : Int) := of_decide_eq_false he
                                         omega
            subst hi
            rw [List.take_length] at g3
            refine And.intro (by show (L.length + 1) * 24 ≤ _; have := h1.1; omega) ?_
            (refine And.intro (rng64 (by omega) (by omega)) ?_)
            refine Exists.intro [(66, 20)] (Exists.intro (d + 1, L ++ [q]) (And.intro ⟨lev_next h1 g3, by dsimp only; omega, below_next h3 hc⟩ (And.intro ?_ ?_)))
            · (repeat' (first | exact trivial | exact Or.inl rfl | exact Or.inr (Or.inl ⟨rfl, _, rfl⟩) | exact Or.inr (Or.inr (Or.inr ⟨_, _, _, rfl, rfl⟩)) | refine And.intro ?_ ?_))
            · show l.length + 2 - (d + 1) < l.length + 2 - d
              omega
    · have hc : Rb l t d f = true := by simpa using hc
      have hD : Dist l t f d := ⟨hc, h3⟩
      rw [wayR_pos hD]
      have hdl := hD.le
      have hLl := h1.1
      intro _
      (refine And.intro (rng64 (by omega) (by omega)) ?_)
      refine Exists.intro [(14, 14, .int)] (Exists.intro [] (Exists.intro [] (Exists.intro (Nat × Int × List Int) (Exists.intro (fun x => x.1 ≤ d ∧ Dist l t x.2.1 x.1 ∧ x.2.2 ++ wayF l t x.1 x.2.1 = wayF l t d f) (Exists.intro (fun ⟨e, n, o⟩ => ⟨[(0, .rd .link l), (1, .i .i64 n), (8, .vec 20 .ints L), (9, .fn 113 []), (14, .vec 14 .int o), (15, .i .i64 e)], []⟩) (Exists.intro (fun x => x.1) (Exists.intro (d, f, []) (And.intro ⟨Nat.le_refl _, hD, rfl⟩ (And.intro ?_ ?_)))))))))
      · (repeat' (first | exact trivial | exact Or.inl rfl | exact Or.inl ((congrArg (AV.i .i64) (by have := h1.1; omega))) | refine And.intro ?_ ?_))
      · rintro ⟨e, n, o⟩ ⟨g1, g2, g3⟩
        dsimp only at g1 g2 g3
        refine And.intro (fun he => ?_) (fun he => ?_)
        · obtain ⟨e, rfl⟩ : ∃ k, e = k + 1 := ⟨e - 1, by have h9 : (0 : Int) < (e : Int) := of_decide_eq_true he; omega⟩
          clear he
          have hidx := way_idx g2
          have hto := way_to g2
          rw [wayF] at g3
          have hol : o.length ≤ 100 := by
            have := congrArg List.length g3
            rw [List.length_append, way_len] at this
            omega
          generalize hI : l.findIdx (fun x => decide (x.fr = n) && Rb l t e x.to) = I at hidx hto g3
          intro _
          refine Exists.intro [] (Exists.intro [] (Exists.intro [] (Exists.intro Nat (Exists.intro (fun i => i ≤ I) (Exists.intro (fun i => ⟨[(0, .rd .link l), (1, .i .i64 n), (8, .vec 20 .ints L), (9, .fn 113 []), (14, .vec 14 .int o), (15, .i .i64 ((e + 1 : Nat) : Int)), (74, .rd .link l), (75, .i .i64 l.length), (76, .i .i64 i)], []⟩) (Exists.intro (fun i => l.length - i) (Exists.intro 0 (And.intro (Nat.zero_le _) (And.intro ?_ ?_)))))))))
          · (repeat' (first | exact trivial | exact Or.inl rfl | exact Or.inr (Or.inl ⟨rfl, _, rfl⟩) | exact Or.inr (Or.inr (Or.inr ⟨_, _, _, rfl, rfl⟩)) | refine And.intro ?_ ?_))
          · intro i hiI
            refine And.intro (fun he => ?_) (fun he => ?_)
            · have hi : i < l.length := by omega
              clear he
              refine And.intro ⟨by omega, by omega⟩ ?_
              have hx : l.getD (Int.toNat (i : Int)) (dflt .link) = l[i] := by rw [Int.toNat_natCast, List.getD_eq_getElem?_getD, List.getElem?_eq_getElem hi]; rfl
              have hgd : l.getD i default = l[i] := by rw [List.getD_eq_getElem?_getD, List.getElem?_eq_getElem hi]; rfl
              refine Exists.intro [.blk [0, 1, 2, 3, 4, 5, 6, 7, 8, 9, 10, 11, 12, 13, 14]] (And.intro (by kernel_rfl) ?_)
              refine And.intro (fun ha => ?_) (fun ha => ?_)
              · have ha : l[i].fr = n := by rw [hx] at ha; exact eq_of_beq ha
                (refine And.intro (rng64 (by omega) (by omega)) ?_)
                refine And.intro ⟨by omega, by have := h1.1; omega⟩ ?_
                have qt := s_has (L.getD (Int.toNat (((e + 1 : Nat) : Int) - 1)) []) l[i].to
                have hee : Int.toNat (((e + 1 : Nat) : Int) - 1) = e := by omega
                rw [show decide (l[i].to ∈ L.getD (Int.toNat (((e + 1 : Nat) : Int) - 1)) []) = Rb l t e l[i].to by rw [hee]; exact has_dec h1 (by omega) _, ← hx] at qt
                refine Exists.intro _ (And.intro (qt) ?_)
                refine And.intro (fun hb => ?_) (fun hb => ?_)
                · have hb : Rb l t e l[i].to = true := by rw [hx] at hb; exact hb
                  obtain rfl : i = I := idx_eq hi hI (by omega) ha hb
                  rw [hgd] at hto g3
                  refine And.intro (by show (o.length + 1) * 8 ≤ _; omega) ?_
                  (refine And.intro (rng64 (by omega) (by omega)) ?_)
                  refine Exists.intro [(99, 14)] (Exists.intro (e, l[i].to, o ++ [(i : Int)]) (And.intro ⟨by dsimp only; omega, hto, by rw [← g3, List.append_assoc]; rfl⟩ (And.intro ?_ ?_)))
                  · (repeat' (first | exact trivial | exact Or.inl rfl | exact Or.inl ((by first | rw [hx] | exact congrArg (AV.i .i64) (by omega))) | refine And.intro ?_ ?_))
                  · exact Nat.lt_succ_self e
                · have hb : Rb l t e l[i].to = false := by rw [hx] at hb; exact hb
                  have hne : i ≠ I := idx_ne hi hI (fun h9 => by rw [hb] at h9; exact Bool.noConfusion h9.2)
                  (refine And.intro (rng64 (by omega) (by omega)) ?_)
                  refine Exists.intro [] (Exists.intro (i + 1) (And.intro (by omega) (And.intro ?_ ?_)))
                  · (repeat' (first | exact trivial | exact Or.inl rfl | exact Or.inr (Or.inl ⟨rfl, _, rfl⟩) | exact Or.inr (Or.inr (Or.inr ⟨_, _, _, rfl, rfl⟩)) | refine And.intro ?_ ?_))
                  · show l.length - (i + 1) < l.length - i
                    omega
              · have ha : l[i].fr ≠ n := by rw [hx] at ha; exact ne_of_beq_false ha
                refine And.intro (fun h9 => absurd h9 (by decide)) (fun _ => ?_)
                have hne : i ≠ I := idx_ne hi hI (fun h9 => ha h9.1)
                (refine And.intro (rng64 (by omega) (by omega)) ?_)
                refine Exists.intro [] (Exists.intro (i + 1) (And.intro (by omega) (And.intro ?_ ?_)))
                · (repeat' (first | exact trivial | exact Or.inl rfl | exact Or.inr (Or.inl ⟨rfl, _, rfl⟩) | exact Or.inr (Or.inr (Or.inr ⟨_, _, _, rfl, rfl⟩)) | refine And.intro ?_ ?_))
                · show l.length - (i + 1) < l.length - i
                  omega
            · exfalso
              have : ¬ (i : Int) < (l.length : Int) := of_decide_eq_false he
              omega
        · have he : e = 0 := by have : ¬ (0 : Int) < (e : Int) := of_decide_eq_false he
                                omega
          subst he
          rw [wayF, List.append_nil] at g3
          rw [← g3]
          rfl
theorem s_wayOf (l : List Link) (f t : Int) (hl : l.length ≤ 100) : PSpec Try.prog 64 [.rd .link l, .i .i64 f, .i .i64 t] (wayR l t f) :=
  pspec_of_vc Γ_good Try.func64 rfl Try.call64 Try.results64 Try.ntmps64 (Nat.le_of_ble_eq_true rfl) (w_wayOf l f t hl)
end
end Go.Proofs.Ytjlbaagnoppfgaa
