/-
  A part of the proof that 'typecaselaw.ValCompares' returns true: entries, walked. No conditions.
-/
import Derived.Test.YtjlbaagnoppfgaaValB
namespace Go.Proofs.Ytjlbaagnoppfgaa
set_option linter.unusedSectionVars false
set_option linter.unusedSimpArgs false
set_option linter.unusedVariables false
open Go Go.SX Go.Vl
set_option maxRecDepth 100000
set_option maxHeartbeats 0
theorem val_eta (v : Val) : (⟨v.kind, v.n, v.f, v.s, v.l, v.e⟩ : Val) = v := by cases v; rfl
abbrev Ent := Str × Val
def keyIs (k : Str) (p : Ent) : Bool := p.1 == k
def keyGt (k : Str) (p : Ent) : Bool := !(Op.bytesLess p.1 k || p.1 == k)
/-- the place of the first, or -1 -/
def ixI (l : List Ent) (q : Ent → Bool) : Int := if l.findIdx q < l.length then (l.findIdx q : Nat) else -1
def withoutE (l : List Ent) (k : Str) : List Ent := l.filter fun p => !keyIs k p
theorem ix_hit {l : List Ent} {q : Ent → Bool} {i : Nat} (hi : i < l.length) (hf : i ≤ l.findIdx q) (h : q l[i] = true) : ixI l q = i := by
  have : l.findIdx q = i := by
    rcases Nat.lt_or_ge i (l.findIdx q) with h1 | h1
    · have := List.not_of_lt_findIdx h1
      rw [h] at this
      cases this
    · omega
  rw [ixI, this, if_pos hi]
theorem ix_miss {l : List Ent} {q : Ent → Bool} {i : Nat} (hi : i < l.length) (hf : i ≤ l.findIdx q) (h : q l[i] = false) : i + 1 ≤ l.findIdx q := by
  rcases Nat.lt_or_ge i (l.findIdx q) with h1 | h1
  · exact h1
  · have e : l.findIdx q = i := by omega
    have := List.findIdx_getElem (w := by rw [e]; exact hi) (xs := l) (p := q)
    simp only [e] at this
    rw [h] at this
    cases this
theorem ix_none {l : List Ent} {q : Ent → Bool} (hf : l.length ≤ l.findIdx q) : ixI l q = -1 := by
  rw [ixI, if_neg (by omega)]
section
variable [G : Globs]
theorem w_same (a b : Val) (ha : VB a) (hb : VB b) : vc Try.prog Γ 9 [2, 3, 4] (Try.f108.body.getD .skip) (postK Γ [.tmp 4] (fun v => v = .b (decide (cmpV a b = 0)))) ⟨argSlots 0 [.agg (encVal a), .agg (encVal b)], []⟩ := by
  refine Or.inl (Exists.intro _ (And.intro (s_Beside a b ha hb) ?_))
  rfl
theorem s_same (a b : Val) (ha : VB a) (hb : VB b) : PSpec Try.prog 108 [.agg (encVal a), .agg (encVal b)] (.b (decide (cmpV a b = 0))) :=
  pspec_of_vc Γ_good Try.func108 rfl Try.call108 Try.results108 Try.ntmps108 (Nat.le_of_ble_eq_true rfl) (w_same a b ha hb)
theorem w_fnd1 (p : Ent) (k : Str) : vc Try.prog Γ 8 [1, 2, 3] (Try.f107.body.getD .skip) (postK Γ [.tmp 3] (fun v => v = .b (keyIs k p))) ⟨argSlots 0 [.agg (enc .ent p), .rp [.s k]], []⟩ := by
  rfl
theorem s_fnd1 (p : Ent) (k : Str) : PSpec Try.prog 107 [.agg (enc .ent p), .rp [.s k]] (.b (keyIs k p)) :=
  pspec_of_vc Γ_good Try.func107 rfl Try.call107 Try.results107 Try.ntmps107 (Nat.le_of_ble_eq_true rfl) (w_fnd1 p k)
theorem w_put1 (p : Ent) (k : Str) : vc Try.prog Γ 8 [1, 2, 3] (Try.f109.body.getD .skip) (postK Γ [.tmp 3] (fun v => v = .b (keyGt k p))) ⟨argSlots 0 [.agg (enc .ent p), .rp [.s k]], []⟩ := by
  rfl
theorem s_put1 (p : Ent) (k : Str) : PSpec Try.prog 109 [.agg (enc .ent p), .rp [.s k]] (.b (keyGt k p)) :=
  pspec_of_vc Γ_good Try.func109 rfl Try.call109 Try.results109 Try.ntmps109 (Nat.le_of_ble_eq_true rfl) (w_put1 p k)
theorem w_ixE (l : List Ent) (k : Str) (q : Ent → Bool) (f : Nat) (hq : ∀ x ∈ l, PSpec Try.prog f [.agg (enc .ent x), .rp [.s k]] (.b (q x))) : vc Try.prog Γ 19 [0, 1, 4, 5, 7, 8, 9, 16] (Try.f106.body.getD .skip) (postK Γ [.tmp 4] (fun v => v = .i .i64 (ixI l q))) ⟨argSlots 0 [.rd .ent l, .fn f [.rp [.s k]]], []⟩ := by
  intro hl
  refine Exists.intro [] (Exists.intro [] (Exists.intro [] (Exists.intro Nat (Exists.intro (fun i => i ≤ l.length ∧ i ≤ l.findIdx q) (Exists.intro (fun i => ⟨[(0, .rd .ent l), (1, .fn f [.rp [.s k]]), (7, .i .i64 l.length), (8, .i .i64 i)], []⟩) (Exists.intro (fun i => l.length - i) (Exists.intro 0 (And.intro ⟨Nat.zero_le _, Nat.zero_le _⟩ (And.intro ?_ ?_)))))))))
  · (repeat' (first | exact trivial | exact Or.inl rfl | exact Or.inr (Or.inl ⟨rfl, _, rfl⟩) | exact Or.inr (Or.inr (Or.inr ⟨_, _, _, rfl, rfl⟩)) | refine And.intro ?_ ?_))
  · rintro i ⟨hi, hf⟩
    refine And.intro (fun he => ?_) (fun he => ?_)
    · have hi : i < l.length := by have : (i : Int) < (l.length : Int) := of_decide_eq_true he
                                   omega
      have hg : l.getD (Int.toNat (i : Int)) (dflt .ent) = l[i] := by rw [Int.toNat_natCast, List.getD_eq_getElem?_getD, List.getElem?_eq_getElem hi]; rfl
      refine And.intro ⟨by omega, by omega⟩ ?_
      have hs := hq l[i] (List.getElem_mem hi)
      rw [← hg] at hs
      refine Or.inl (Exists.intro _ (And.intro (hs) ?_))
      rw [hg]
      refine And.intro (fun hz => ?_) (fun hz => ?_)
      · have hz : q l[i] = true := hz
        rw [ix_hit hi hf hz]
        rfl
      · have hz : q l[i] = false := hz
        have := len_le hl
        (refine And.intro (rng64 (by omega) (by omega)) ?_)
        refine Exists.intro [] (Exists.intro (i + 1) (And.intro ⟨hi, ix_miss hi hf hz⟩ (And.intro ?_ ?_)))
        · (repeat' (first | exact trivial | exact Or.inl rfl | exact Or.inr (Or.inl ⟨rfl, _, rfl⟩) | exact Or.inr (Or.inr (Or.inr ⟨_, _, _, rfl, rfl⟩)) | refine And.intro ?_ ?_))
        · show l.length - (i + 1) < l.length - i
          omega
    · have hi : i = l.length := by have : ¬ (i : Int) < (l.length : Int) := of_decide_eq_false he
                                   omega
      rw [ix_none (by omega)]
      rfl
theorem s_ixE (l : List Ent) (k : Str) (q : Ent → Bool) (f : Nat) (hq : ∀ x ∈ l, PSpec Try.prog f [.agg (enc .ent x), .rp [.s k]] (.b (q x))) : PSpec Try.prog 106 [.rd .ent l, .fn f [.rp [.s k]]] (.i .i64 (ixI l q)) :=
  pspec_of_vc Γ_good Try.func106 rfl Try.call106 Try.results106 Try.ntmps106 (Nat.le_of_ble_eq_true rfl) (w_ixE l k q f hq)
theorem w_find (l : List Ent) (k : Str) : vc Try.prog Γ 8 [0, 3, 4] (Try.f52.body.getD .skip) (postK Γ [.tmp 4] (fun v => v = .i .i64 (ixI l (keyIs k)))) ⟨argSlots 0 [.rd .ent l, .s k], []⟩ := by
  refine Or.inr (Or.inr (Exists.intro _ (And.intro (s_ixE l k (keyIs k) 107 (fun x _ => s_fnd1 x k)) ?_)))
  rfl
theorem s_find (l : List Ent) (k : Str) : PSpec Try.prog 52 [.rd .ent l, .s k] (.i .i64 (ixI l (keyIs k))) :=
  pspec_of_vc Γ_good Try.func52 rfl Try.call52 Try.results52 Try.ntmps52 (Nat.le_of_ble_eq_true rfl) (w_find l k)
theorem w_entAt (l : List Ent) (k : Str) : vc Try.prog Γ 20 [0, 1, 4, 5, 6, 7, 8, 9, 10, 17] (Try.f53.body.getD .skip) (postK Γ [.tmp 4] (fun v => v = .i .i64 (ixI l (keyIs k)))) ⟨argSlots 0 [.rd .ent l, .s k], []⟩ := by
  intro hl
  refine Exists.intro [] (Exists.intro [] (Exists.intro [] (Exists.intro Nat (Exists.intro (fun i => i ≤ l.length ∧ i ≤ l.findIdx (keyIs k)) (Exists.intro (fun i => ⟨[(1, .s k), (7, .rd .ent l), (8, .i .i64 l.length), (9, .i .i64 i)], []⟩) (Exists.intro (fun i => l.length - i) (Exists.intro 0 (And.intro ⟨Nat.zero_le _, Nat.zero_le _⟩ (And.intro ?_ ?_)))))))))
  · (repeat' (first | exact trivial | exact Or.inl rfl | exact Or.inr (Or.inl ⟨rfl, _, rfl⟩) | exact Or.inr (Or.inr (Or.inr ⟨_, _, _, rfl, rfl⟩)) | refine And.intro ?_ ?_))
  · rintro i ⟨hi, hf⟩
    refine And.intro (fun he => ?_) (fun he => ?_)
    · have hi : i < l.length := by have : (i : Int) < (l.length : Int) := of_decide_eq_true he
                                   omega
      have hg : l.getD (Int.toNat (i : Int)) (dflt .ent) = l[i] := by rw [Int.toNat_natCast, List.getD_eq_getElem?_getD, List.getElem?_eq_getElem hi]; rfl
      refine And.intro ⟨by omega, by omega⟩ ?_
      refine And.intro (fun hz => ?_) (fun hz => ?_)
      · have hz : keyIs k l[i] = true := by rw [← hg]; exact hz
        rw [ix_hit hi hf hz]
        rfl
      · have hz : keyIs k l[i] = false := by rw [← hg]; exact hz
        have := len_le hl
        (refine And.intro (rng64 (by omega) (by omega)) ?_)
        refine Exists.intro [] (Exists.intro (i + 1) (And.intro ⟨hi, ix_miss hi hf hz⟩ (And.intro ?_ ?_)))
        · (repeat' (first | exact trivial | exact Or.inl rfl | exact Or.inr (Or.inl ⟨rfl, _, rfl⟩) | exact Or.inr (Or.inr (Or.inr ⟨_, _, _, rfl, rfl⟩)) | refine And.intro ?_ ?_))
        · show l.length - (i + 1) < l.length - i
          omega
    · have hi : i = l.length := by have : ¬ (i : Int) < (l.length : Int) := of_decide_eq_false he
                                   omega
      rw [ix_none (by omega)]
      rfl
theorem s_entAt (l : List Ent) (k : Str) : PSpec Try.prog 53 [.rd .ent l, .s k] (.i .i64 (ixI l (keyIs k))) :=
  pspec_of_vc Γ_good Try.func53 rfl Try.call53 Try.results53 Try.ntmps53 (Nat.le_of_ble_eq_true rfl) (w_entAt l k)
theorem filter_next {l : List Ent} {k : Str} {i : Nat} (hi : i < l.length) (h : keyIs k l[i] = false) : withoutE (l.take (i + 1)) k = withoutE (l.take i) k ++ [l[i]] := by
  rw [List.take_add_one, List.getElem?_eq_getElem hi, withoutE, withoutE, List.filter_append]
  simp [h]
theorem filter_skip {l : List Ent} {k : Str} {i : Nat} (hi : i < l.length) (h : keyIs k l[i] = true) : withoutE (l.take (i + 1)) k = withoutE (l.take i) k := by
  rw [List.take_add_one, List.getElem?_eq_getElem hi, withoutE, withoutE, List.filter_append]
  simp [h]
theorem filter_len {l : List Ent} {k : Str} {i : Nat} : (withoutE (l.take i) k).length ≤ l.length := by
  refine Nat.le_trans (List.length_filter_le _ _) ?_
  rw [List.length_take]
  omega
theorem w_wout (l : List Ent) (k : Str) (hl1 : l.length ≤ 100000000) : vc Try.prog Γ 24 [0, 1, 4, 5, 7, 8, 9, 10, 11, 17] (Try.f58.body.getD .skip) (postK Γ [.tmp 4] (fun v => v = .rd .ent (withoutE l k))) ⟨argSlots 0 [.rd .ent l, .s k], []⟩ := by
  intro hl
  refine Exists.intro [(5, 5, .ent)] (Exists.intro [] (Exists.intro [] (Exists.intro Nat (Exists.intro (fun i => i ≤ l.length) (Exists.intro (fun i => ⟨[(1, .s k), (5, .vec 5 .ent (withoutE (l.take i) k)), (8, .rd .ent l), (9, .i .i64 l.length), (10, .i .i64 i)], []⟩) (Exists.intro (fun i => l.length - i) (Exists.intro 0 (And.intro (Nat.zero_le _) (And.intro ?_ ?_)))))))))
  · (repeat' (first | exact trivial | exact Or.inl rfl | exact Or.inr (Or.inl ⟨rfl, _, rfl⟩) | exact Or.inr (Or.inr (Or.inr ⟨_, _, _, rfl, rfl⟩)) | refine And.intro ?_ ?_))
  · rintro i hi
    refine And.intro (fun he => ?_) (fun he => ?_)
    · have hi : i < l.length := by have : (i : Int) < (l.length : Int) := of_decide_eq_true he
                                   omega
      have hg : l.getD (Int.toNat (i : Int)) (dflt .ent) = l[i] := by rw [Int.toNat_natCast, List.getD_eq_getElem?_getD, List.getElem?_eq_getElem hi]; rfl
      refine And.intro ⟨by omega, by omega⟩ ?_
      refine And.intro (fun hz => ?_) (fun hz => ?_)
      · have hz : keyIs k l[i] = false := by rw [← hg]; simpa [keyIs] using hz
        rw [hg]
        have hfl := filter_len (l := l) (k := k) (i := i)
        refine And.intro (show ((withoutE (l.take i) k).length + 1) * 104 ≤ 140737488355328 by omega) ?_
        (refine And.intro (rng64 (by omega) (by omega)) ?_)
        refine Exists.intro [(21, 5)] (Exists.intro (i + 1) (And.intro hi (And.intro ?_ ?_)))
        · have e : withoutE (l.take i) k ++ [(l[i].1, (⟨l[i].2.kind, l[i].2.n, l[i].2.f, l[i].2.s, l[i].2.l, l[i].2.e⟩ : Val))] = withoutE (l.take (i + 1)) k := by rw [val_eta]; exact (filter_next hi hz).symm
          (repeat' (first | exact trivial | exact Or.inl rfl | exact Or.inl ((congrArg (AV.vec 5 .ent) e)) | refine And.intro ?_ ?_))
        · show l.length - (i + 1) < l.length - i
          omega
      · have hz : keyIs k l[i] = true := by rw [← hg]; simpa [keyIs] using hz
        (refine And.intro (rng64 (by omega) (by omega)) ?_)
        refine Exists.intro [] (Exists.intro (i + 1) (And.intro hi (And.intro ?_ ?_)))
        · (repeat' (first | exact trivial | exact Or.inl rfl | exact Or.inl ((congrArg (AV.vec 5 .ent) (filter_skip hi hz).symm)) | refine And.intro ?_ ?_))
        · show l.length - (i + 1) < l.length - i
          omega
    · have hi : i = l.length := by have : ¬ (i : Int) < (l.length : Int) := of_decide_eq_false he
                                   omega
      subst hi
      rw [List.take_length]
      rfl
theorem s_wout (l : List Ent) (k : Str) (hl1 : l.length ≤ 100000000) : PSpec Try.prog 58 [.rd .ent l, .s k] (.rd .ent (withoutE l k)) :=
  pspec_of_vc Γ_good Try.func58 rfl Try.call58 Try.results58 Try.ntmps58 (Nat.le_of_ble_eq_true rfl) (w_wout l k hl1)
end
end Go.Proofs.Ytjlbaagnoppfgaa
