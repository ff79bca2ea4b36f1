/-
  A part of the proof that 'typecaselaw.TokCuts' returns true: the program's notes, texts and tokens. No conditions.
-/
import Derived.Test.YtjlbaagnoppfgaaTokB
namespace Go.Proofs.Ytjlbaagnoppfgaa
set_option linter.unusedSectionVars false
set_option linter.unusedSimpArgs false
set_option linter.unusedVariables false
open Go Go.SX Go.Tk
set_option maxRecDepth 100000
set_option maxHeartbeats 0
/-- what is said of internal/bytealg.MaxLen: it holds some number -/
def HasML [G : Globs] : Prop := ∃ (m : Int) (cur : Array Value) (e : TypeId) (fz : Nat × Nat), (1, Obj.cells cur e fz) ∈ G.gl ∧ cur[0]? = some (.int .i64 m)
theorem index_sc (s : Str) : Lib.index s [42, 47] = match findSC s with | none => -1 | some n => (n : Int) := by
  induction s with
  | nil => rfl
  | cons c r ih =>
    unfold Lib.index
    cases r with
    | nil =>
      have h1 : List.isPrefixOf [(42 : UInt8), 47] [c] = false := by simp [List.isPrefixOf]
      rw [h1]
      rfl
    | cons d r =>
      have h1 : List.isPrefixOf [(42 : UInt8), 47] (c :: d :: r) = (c == 42 && d == 47) := by
        simp only [List.isPrefixOf, Bool.and_true]
        rw [BEq.comm (a := (42 : UInt8)), BEq.comm (a := (47 : UInt8))]
      rw [h1, ih]
      simp only [findSC]
      by_cases hc : c = 42 ∧ d = 47
      · rw [if_pos (by simp [hc]), if_pos hc]
        rfl
      · rw [if_neg (by simpa using hc), if_neg hc]
        cases hf : findSC (d :: r) with
        | none => simp
        | some n =>
          simp only [Option.map_some]
          have h2 : ((n : Int) == -1) = false := beq_false_of_ne (by omega)
          rw [h2]
          rfl
theorem front_line (s : Str) : (frontN (fun n => decide (n ≠ 10)) s : Int) = if Lib.indexByte s 10 < 0 then (s.length : Int) else Lib.indexByte s 10 := by
  induction s with
  | nil => rfl
  | cons c r ih =>
    have hge := Lib.indexByte_ge r 10
    unfold Lib.indexByte
    simp only [frontN]
    by_cases hc : c = 10
    · subst hc
      rfl
    · have h1 : decide (by8 c ≠ 10) = true := by
        refine decide_eq_true ?_
        unfold by8
        intro e
        refine hc ?_
        have : c.toNat = 10 := by omega
        exact UInt8.toNat_inj.1 (by rw [this]; rfl)
      have h2 : (c == 10) = false := beq_false_of_ne hc
      rw [if_pos h1, h2]
      simp only [Bool.false_eq_true, if_false, List.length_cons]
      by_cases hi : Lib.indexByte r 10 = -1
      · rw [hi] at ih ⊢
        simp at ih ⊢
        omega
      · have h3 : (Lib.indexByte r 10 == -1) = false := beq_false_of_ne hi
        rw [h3]
        simp only [Bool.false_eq_true, if_false]
        rw [if_neg (by omega)] at ih ⊢
        omega
section
variable [G : Globs]
theorem s_Index (hml : HasML) (s t : Str) (hs : s.length < 4294967281) : PSpec Try.prog 139 [.s s, .s t] (.i .i64 (Lib.index s t)) := by
  refine ⟨Try.call139, fun O w vs hO hG hargs => ?_⟩
  obtain ⟨v0, vs0, rfl, h0, h⟩ := hargs.cons_inv
  obtain ⟨v1, vs1, rfl, h1, h⟩ := h.cons_inv
  obtain rfl := h.nil_inv
  cases h0
  cases h1
  obtain ⟨m, cur, e, fz, hmem, hm⟩ := hml
  have hh := (hG _ hmem).2
  refine (Try.strings_Index ⟨s.toArray⟩ ⟨t.toArray⟩ m w (by simpa [ByteArray.size] using hs) (by simp [World.cell?, hh, hm])).mono fun e w' ⟨he, hw⟩ => ?_
  subst he hw
  exact ⟨_, rfl, Stp.refl _ _, .i _ _⟩
theorem w_hasPre0 (s t : Str) : vc Try.prog Γ 18 [0, 1, 4] (Try.f145.body.getD .skip) (postK Γ [.tmp 4] (fun v => v = .b (decide (t.length ≤ s.length ∧ s.take t.length = t)))) ⟨argSlots 0 [.s s, .s t], []⟩ := by
  intro _ _
  refine And.intro (fun h => ?_) (fun h => ?_)
  · have h : t.length ≤ s.length := by have : (t.length : Int) ≤ s.length := of_decide_eq_true h; omega
    intro _
    refine And.intro ⟨Int.le_refl _, by omega, by omega⟩ ?_
    show AV.b ((s.take (Int.toNat (t.length : Int))).drop (Int.toNat 0) == t) = _
    refine congrArg AV.b ?_
    rw [Int.toNat_natCast, show Int.toNat 0 = 0 from rfl, List.drop_zero, Bool.eq_iff_iff, beq_iff_eq, decide_eq_true_eq]
    exact ⟨fun h9 => ⟨h, h9⟩, fun h9 => h9.2⟩
  · have h : ¬ t.length ≤ s.length := by have : ¬ (t.length : Int) ≤ s.length := of_decide_eq_false h; omega
    exact congrArg AV.b (decide_eq_false fun h9 => h h9.1).symm
theorem s_hasPre0 (s t : Str) : PSpec Try.prog 145 [.s s, .s t] (.b (decide (t.length ≤ s.length ∧ s.take t.length = t))) :=
  pspec_of_vc Γ_good Try.func145 rfl Try.call145 Try.results145 Try.ntmps145 (Nat.le_of_ble_eq_true rfl) (w_hasPre0 s t)
theorem w_hasPre (s t : Str) : vc Try.prog Γ 8 [0, 1, 4] (Try.f138.body.getD .skip) (postK Γ [.tmp 4] (fun v => v = .b (decide (t.length ≤ s.length ∧ s.take t.length = t)))) ⟨argSlots 0 [.s s, .s t], []⟩ := by
  refine Or.inl (Exists.intro _ (And.intro (s_hasPre0 s t) ?_))
  show _ = _
  rfl
theorem s_hasPre (s t : Str) : PSpec Try.prog 138 [.s s, .s t] (.b (decide (t.length ≤ s.length ∧ s.take t.length = t))) :=
  pspec_of_vc Γ_good Try.func138 rfl Try.call138 Try.results138 Try.ntmps138 (Nat.le_of_ble_eq_true rfl) (w_hasPre s t)
theorem pre_note (s : Str) (h : s ≠ []) : (([47, 42] : Str).length ≤ s.length ∧ s.take ([47, 42] : Str).length = [47, 42]) ↔ (s.getD 0 0 = 47 ∧ s.getD 1 0 = 42 ∧ 2 ≤ s.length) := by
  match s with
  | [] => exact absurd rfl h
  | [c] => simp
  | c :: d :: r => simp
theorem w_note (hml : HasML) (s : Str) (h0 : s ≠ []) (hs : s.length ≤ 1000000) : vc Try.prog Γ 28 [0, 2, 3, 6, 9, 20, 25] (Try.f132.body.getD .skip) (postK Γ [.tmp 2] (fun v => v = .i .i64 (note s))) ⟨argSlots 0 [.s s], []⟩ := by
  have hl : 1 ≤ s.length := by cases s with
    | nil => exact absurd rfl h0
    | cons c r => simp
  refine And.intro ⟨by omega, by omega⟩ ?_
  have hfl := front_line s
  have hge := Lib.indexByte_ge s 10
  have hfn := frontN_le (fun n => decide (n ≠ 10)) s
  refine And.intro (fun hq => ?_) (fun hq => ?_)
  · have hq : by8 (s.getD 0 0) = 35 := eq_of_beq hq
    have hq : s.getD 0 0 = 35 := by
      unfold by8 at hq
      exact UInt8.toNat_inj.1 (by show (s.getD 0 0).toNat = 35; omega)
    have hn : note s = frontN (fun n => decide (n ≠ 10)) s := by unfold note; rw [if_pos hq]
    have qc := lift (G := G) (spec94 s (by omega))
    by_cases hi : Lib.indexByte s 10 < 0
    · rw [cutRes, if_pos hi] at qc
      rw [if_pos hi] at hfl
      refine Or.inl (Exists.intro _ (And.intro (qc) ?_))
      intro _
      refine congrArg (AV.i .i64) ?_
      omega
    · rw [cutRes, if_neg hi] at qc
      rw [if_neg hi] at hfl
      refine Or.inl (Exists.intro _ (And.intro (qc) ?_))
      intro _
      refine congrArg (AV.i .i64) ?_
      rw [List.length_take]
      omega
  · have hq : ¬ by8 (s.getD 0 0) = 35 := ne_of_beq_false hq
    have hq : ¬ s.getD 0 0 = 35 := fun e => hq (by rw [e]; rfl)
    refine Or.inl (Exists.intro _ (And.intro (s_hasPre s [47, 42]) ?_))
    have hpn := pre_note s h0
    refine And.intro (fun hp => ?_) (fun hp => ?_)
    · have hp := of_decide_eq_false (Bool.not_eq_true' _ ▸ hp)
      rw [hpn] at hp
      refine congrArg (AV.i .i64) ?_
      unfold note
      rw [if_neg hq, if_neg hp]
      rfl
    · have hp : decide (([47, 42] : Str).length ≤ s.length ∧ s.take ([47, 42] : Str).length = [47, 42]) = true := by simpa using hp
      have hp := of_decide_eq_true hp
      rw [hpn] at hp
      refine And.intro ⟨by omega, by have := hp.2.2; omega, Int.le_refl _⟩ ?_
      have ht : (s.take (Int.toNat (s.length : Int))).drop (Int.toNat 2) = s.drop 2 := by rw [Int.toNat_natCast, List.take_length]; rfl
      have qi := s_Index hml (s.drop 2) [42, 47] (by rw [List.length_drop]; omega)
      rw [index_sc] at qi
      rw [ht]
      cases hf : findSC (s.drop 2) with
      | none =>
        rw [hf] at qi
        have hn : note s = 0 := by unfold note; rw [if_neg hq, if_pos hp, hf]
        refine Or.inl (Exists.intro _ (And.intro (qi) ?_))
        refine And.intro (fun _ => ?_) (fun h9 => absurd h9 (by decide))
        rw [hn]
        rfl
      | some n =>
        rw [hf] at qi
        have hn : note s = n + 4 := by unfold note; rw [if_neg hq, if_pos hp, hf]
        have hb := findSC_le _ _ hf
        rw [List.length_drop] at hb
        refine Or.inl (Exists.intro _ (And.intro (qi) ?_))
        refine And.intro (fun h9 => absurd (of_decide_eq_true h9) (by simp only; omega)) (fun _ => ?_)
        refine And.intro ⟨by simp only; omega, by simp only; omega⟩ ?_
        rw [hn]
        rfl
theorem s_note (hml : HasML) (s : Str) (h0 : s ≠ []) (hs : s.length ≤ 1000000) : PSpec Try.prog 132 [.s s] (.i .i64 (note s)) :=
  pspec_of_vc Γ_good Try.func132 rfl Try.call132 Try.results132 Try.ntmps132 (Nat.le_of_ble_eq_true rfl) (w_note hml s h0 hs)
theorem w_text (s : Str) (hs : s.length ≤ 1000000) : vc Try.prog Γ 29 [0, 2, 3, 4, 8, 15, 20, 22] (Try.f133.body.getD .skip) (postK Γ [.tmp 2] (fun v => v = .i .i64 (text s))) ⟨argSlots 0 [.s s], []⟩ := by
  refine Exists.intro [] (Exists.intro [] (Exists.intro [] (Exists.intro (Bool × Nat) (Exists.intro (fun x => 1 ≤ x.2 ∧ text s = upn x.2 (txt x.1 (s.drop x.2))) (Exists.intro (fun ⟨p, k⟩ => ⟨[(0, .s s), (3, .b p), (4, .i .i64 k)], []⟩) (Exists.intro (fun x => s.length - x.2) (Exists.intro (false, 1) (And.intro ⟨Nat.le_refl _, rfl⟩ (And.intro ?_ ?_)))))))))
  · (repeat' (first | exact trivial | exact Or.inl rfl | refine And.intro ?_ ?_))
  · rintro ⟨p, k⟩ ⟨hk1, heq⟩
    simp only at hk1 heq
    intro _
    refine And.intro (fun hc => ?_) (fun hc => ?_)
    · have hk : k < s.length := by have : (k : Int) < s.length := of_decide_eq_true hc; omega
      rw [txt_step hk] at heq
      refine And.intro ⟨by omega, by omega⟩ ?_
      refine And.intro (fun hq => ?_) (fun hq => ?_)
      · have hq : by8 (s.getD k 0) = 10 := eq_of_beq hq
        rw [if_pos hq] at heq
        rw [heq]
        rfl
      · have hq : ¬ by8 (s.getD k 0) = 10 := ne_of_beq_false hq
        rw [if_neg hq] at heq
        refine And.intro (fun hp => ?_) (fun hp => ?_)
        · rw [if_pos hp, upn_map] at heq
          refine And.intro ⟨by omega, by omega⟩ ?_
          refine Exists.intro [] (Exists.intro (false, k + 1) (And.intro ⟨by show 1 ≤ k + 1; omega, heq⟩ (And.intro ?_ ?_)))
          · (repeat' (first | exact trivial | exact Or.inl rfl | refine And.intro ?_ ?_))
          · show s.length - (k + 1) < s.length - k
            omega
        · rw [if_neg (by rw [hp]; decide)] at heq
          refine And.intro ⟨by omega, by omega⟩ ?_
          refine And.intro (fun hq2 => ?_) (fun hq2 => ?_)
          · have hq2 : by8 (s.getD k 0) = 34 := eq_of_beq hq2
            rw [if_pos hq2] at heq
            refine And.intro ⟨by omega, by omega⟩ ?_
            rw [heq]
            rfl
          · have hq2 : ¬ by8 (s.getD k 0) = 34 := ne_of_beq_false hq2
            rw [if_neg hq2, upn_map] at heq
            refine And.intro ⟨by omega, by omega⟩ ?_
            refine And.intro ⟨by omega, by omega⟩ ?_
            refine Exists.intro [] (Exists.intro (decide (by8 (s.getD k 0) = 92), k + 1) (And.intro ⟨by show 1 ≤ k + 1; omega, heq⟩ (And.intro ?_ ?_)))
            · (repeat' (first | exact trivial | exact Or.inl rfl | refine And.intro ?_ ?_))
            · show s.length - (k + 1) < s.length - k
              omega
    · have hk : s.length ≤ k := by have : ¬ (k : Int) < s.length := of_decide_eq_false hc; omega
      rw [txt_end hk] at heq
      rw [heq]
      rfl
theorem s_text (s : Str) (hs : s.length ≤ 1000000) : PSpec Try.prog 133 [.s s] (.i .i64 (text s)) :=
  pspec_of_vc Γ_good Try.func133 rfl Try.call133 Try.results133 Try.ntmps133 (Nat.le_of_ble_eq_true rfl) (w_text s hs)
theorem w_next (hml : HasML) (s : Str) (h0 : s ≠ []) (hs : s.length ≤ 1000000) : vc Try.prog Γ 40 [0, 2, 3, 7, 9, 23, 28, 32, 37] (Try.f112.body.getD .skip) (postK Γ [.tmp 2, .tmp 3] (fun v => v = .tup [.i .i64 (nx s).1, .i .i64 (nx s).2])) ⟨argSlots 0 [.s s], []⟩ := by
  have hl : 1 ≤ s.length := by cases s with
    | nil => exact absurd rfl h0
    | cons c r => simp
  refine And.intro ⟨by omega, by omega⟩ ?_
  have hb := by8_rng (s.getD 0 0)
  have qk : PSpec Try.prog 131 [.i .u8 (by8 (s.getD 0 0))] (.i .i64 (kindL s)) := s_cls (by8 (s.getD 0 0)) hb.1 hb.2
  refine Or.inl (Exists.intro _ (And.intro (qk) ?_))
  have hnl := note_le s
  have htl := text_le s
  by_cases h14 : kindL s = 1 ∨ kindL s = 4
  · have hnx : nx s = (kindL s, 1 + frontN (fun n => decide (cls n = kindL s)) (s.drop 1)) := by unfold nx; rw [if_pos h14]
    rw [hnx]
    have hcls : ∀ x : Int, 0 ≤ x → x ≤ 255 → PSpec Try.prog 131 [.i .u8 x] (.i .i64 (cls x)) := fun x h0 h1 => s_cls x h0 h1
    generalize kindL s = K at h14
    rcases h14 with hK | hK
    (focus (refine And.intro ?_ (fun h9 => ?_); rotate_left 1; (focus (exfalso; revert h9; first | decide | (simp <;> omega) | (intro h9; simp at h9 <;> omega))); refine fun _ => ?_))
    rotate_left 1
    (focus (refine And.intro (fun h9 => ?_) ?_; (focus (exfalso; revert h9; first | decide | (simp <;> omega) | (intro h9; simp at h9 <;> omega))); refine fun _ => ?_))
    all_goals
      (focus (refine And.intro ?_ (fun h9 => ?_); rotate_left 1; (focus (exfalso; revert h9; first | decide | (simp <;> omega) | (intro h9; simp at h9 <;> omega))); refine fun _ => ?_))
      refine Exists.intro [] (Exists.intro [] (Exists.intro [] (Exists.intro Nat (Exists.intro (fun k => k ≤ s.length ∧ k + frontN (fun n => decide (cls n = K)) (s.drop k) = 1 + frontN (fun n => decide (cls n = K)) (s.drop 1)) (Exists.intro (fun k => ⟨[(0, .s s), (2, .i .i64 K), (3, .i .i64 k)], []⟩) (Exists.intro (fun k => s.length - k) (Exists.intro 1 (And.intro ⟨hl, rfl⟩ (And.intro ?_ ?_)))))))))
      · (repeat' (first | exact trivial | exact Or.inl rfl | refine And.intro ?_ ?_))
      · rintro k ⟨hk0, heq⟩
        intro _
        refine And.intro (fun hc => ?_) (fun hc => ?_)
        · have hk : k < s.length := by have : (k : Int) < s.length := of_decide_eq_true hc; omega
          rw [frontN_step hk] at heq
          refine And.intro ⟨by omega, by omega⟩ ?_
          have hb := by8_rng (s.getD k 0)
          refine Or.inl (Exists.intro _ (And.intro (hcls (by8 (s.getD k 0)) hb.1 hb.2) ?_))
          refine And.intro (fun hq => ?_) (fun hq => ?_)
          · have hq : cls (by8 (s.getD k 0)) = K := eq_of_beq (show (cls (by8 (s.getD k 0)) == K) = true from hq)
            rw [if_pos (decide_eq_true hq)] at heq
            refine And.intro ⟨by omega, by omega⟩ ?_
            refine Exists.intro [] (Exists.intro (k + 1) (And.intro ⟨hk, by omega⟩ (And.intro ?_ ?_)))
            · (repeat' (first | exact trivial | exact Or.inl rfl | refine And.intro ?_ ?_))
            · show s.length - (k + 1) < s.length - k
              omega
          · have hq : cls (by8 (s.getD k 0)) ≠ K := ne_of_beq_false (show (cls (by8 (s.getD k 0)) == K) = false from hq)
            rw [if_neg (by rw [decide_eq_false hq]; decide)] at heq
            show AV.tup [.i .i64 K, .i .i64 (k : Int)] = AV.tup [.i .i64 K, .i .i64 ((1 + frontN (fun n => decide (cls n = K)) (s.drop 1) : Nat) : Int)]
            rw [show k = 1 + frontN (fun n => decide (cls n = K)) (s.drop 1) by omega]
        · have hk : k = s.length := by have : ¬ (k : Int) < s.length := of_decide_eq_false hc; omega
          subst hk
          rw [frontN_end (Nat.le_refl _)] at heq
          (focus (refine And.intro (fun h9 => ?_) ?_; (focus (exfalso; revert h9; first | decide | (simp <;> omega) | (intro h9; simp at h9 <;> omega))); refine fun _ => ?_))
          show AV.tup [.i .i64 K, .i .i64 (s.length : Int)] = AV.tup [.i .i64 K, .i .i64 ((1 + frontN (fun n => decide (cls n = K)) (s.drop 1) : Nat) : Int)]
          rw [show s.length = 1 + frontN (fun n => decide (cls n = K)) (s.drop 1) by omega]
  · have h1 : kindL s ≠ 1 := fun e => h14 (.inl e)
    have h4 : kindL s ≠ 4 := fun e => h14 (.inr e)
    (focus (refine And.intro (fun h9 => ?_) ?_; (focus (exfalso; revert h9; first | decide | (simp <;> omega) | (intro h9; simp at h9 <;> omega))); refine fun _ => ?_))
    (focus (refine And.intro (fun h9 => ?_) ?_; (focus (exfalso; revert h9; first | decide | (simp <;> omega) | (intro h9; simp at h9 <;> omega))); refine fun _ => ?_))
    by_cases h3 : kindL s = 3
    · (focus (refine And.intro ?_ (fun h9 => ?_); rotate_left 1; (focus (exfalso; revert h9; first | decide | (simp <;> omega) | (intro h9; simp at h9 <;> omega))); refine fun _ => ?_))
      refine Or.inl (Exists.intro _ (And.intro (s_note hml s h0 hs) ?_))
      by_cases hn : note s = 0
      · have hnx : nx s = (7, 1) := by unfold nx; rw [if_neg h14, if_pos h3, if_pos hn]
        (focus (refine And.intro ?_ (fun h9 => ?_); rotate_left 1; (focus (exfalso; revert h9; first | decide | (simp <;> omega) | (intro h9; simp at h9 <;> omega))); refine fun _ => ?_))
        rw [hnx]
        rfl
      · have hnx : nx s = (3, note s) := by unfold nx; rw [if_neg h14, if_pos h3, if_neg hn]
        (focus (refine And.intro (fun h9 => ?_) ?_; (focus (exfalso; revert h9; first | decide | (simp <;> omega) | (intro h9; simp at h9 <;> omega))); refine fun _ => ?_))
        rw [hnx]
        show AV.tup [.i .i64 (kindL s), .i .i64 (note s : Int)] = _
        rw [h3]
    · (focus (refine And.intro (fun h9 => ?_) ?_; (focus (exfalso; revert h9; first | decide | (simp <;> omega) | (intro h9; simp at h9 <;> omega))); refine fun _ => ?_))
      by_cases h5 : kindL s = 5
      · (focus (refine And.intro ?_ (fun h9 => ?_); rotate_left 1; (focus (exfalso; revert h9; first | decide | (simp <;> omega) | (intro h9; simp at h9 <;> omega))); refine fun _ => ?_))
        refine Or.inl (Exists.intro _ (And.intro (s_text s hs) ?_))
        by_cases hn : text s = 0
        · have hnx : nx s = (7, 1) := by unfold nx; rw [if_neg h14, if_neg h3, if_pos h5, if_pos hn]
          (focus (refine And.intro ?_ (fun h9 => ?_); rotate_left 1; (focus (exfalso; revert h9; first | decide | (simp <;> omega) | (intro h9; simp at h9 <;> omega))); refine fun _ => ?_))
          rw [hnx]
          rfl
        · have hnx : nx s = (5, text s) := by unfold nx; rw [if_neg h14, if_neg h3, if_pos h5, if_neg hn]
          (focus (refine And.intro (fun h9 => ?_) ?_; (focus (exfalso; revert h9; first | decide | (simp <;> omega) | (intro h9; simp at h9 <;> omega))); refine fun _ => ?_))
          rw [hnx]
          show AV.tup [.i .i64 (kindL s), .i .i64 (text s : Int)] = _
          rw [h5]
      · (focus (refine And.intro (fun h9 => ?_) ?_; (focus (exfalso; revert h9; first | decide | (simp <;> omega) | (intro h9; simp at h9 <;> omega))); refine fun _ => ?_))
        have hnx : nx s = (kindL s, 1) := by unfold nx; rw [if_neg h14, if_neg h3, if_neg h5]
        rw [hnx]
        rfl
theorem s_next (hml : HasML) (s : Str) (h0 : s ≠ []) (hs : s.length ≤ 1000000) : PSpec Try.prog 112 [.s s] (.tup [.i .i64 (nx s).1, .i .i64 (nx s).2]) :=
  pspec_of_vc Γ_good Try.func112 rfl Try.call112 Try.results112 Try.ntmps112 (Nat.le_of_ble_eq_true rfl) (w_next hml s h0 hs)
def cutR (s : Str) : AV := if 20000 < s.length then .tup [.nl, .i .i64 2] else .tup [.rd .token (tokens s 0), .i .i64 0]
theorem w_Cut (hml : HasML) (s : Str) : vc Try.prog Γ 35 [0, 2, 3, 4, 5, 6, 7, 10, 14] (Try.f59.body.getD .skip) (postK Γ [.tmp 2, .tmp 3] (fun v => v = cutR s)) ⟨argSlots 0 [.s s], []⟩ := by
  intro _
  refine And.intro (fun hc => ?_) (fun hc => ?_)
  · have hc : (20000 : Int) < s.length := of_decide_eq_true hc
    rw [cutR, if_pos (by omega)]
    show _ = _
    rfl
  · have hc : ¬ (20000 : Int) < s.length := of_decide_eq_false hc
    rw [cutR, if_neg (by omega)]
    refine Exists.intro [(4, 40, .token)] (Exists.intro [] (Exists.intro [] (Exists.intro (List Token × Nat) (Exists.intro (fun x => x.2 ≤ s.length ∧ x.1.length ≤ x.2 ∧ x.1 ++ tokens s x.2 = tokens s 0) (Exists.intro (fun ⟨out, a⟩ => ⟨[(0, .s s), (4, .vec 40 .token out), (5, .i .i64 a)], []⟩) (Exists.intro (fun x => s.length - x.2) (Exists.intro ([], 0) (And.intro ⟨Nat.zero_le _, Nat.le_refl _, rfl⟩ (And.intro ?_ ?_)))))))))
    · (repeat' (first | exact trivial | exact Or.inl rfl | refine And.intro ?_ ?_))
    · rintro ⟨out, a⟩ ⟨ha, hol, heq⟩
      simp only at ha hol heq
      intro _
      refine And.intro (fun hc => ?_) (fun hc => ?_)
      · have hk : a < s.length := by have : (a : Int) < s.length := of_decide_eq_true hc; omega
        have ht : (s.take (Int.toNat (s.length : Int))).drop (Int.toNat a) = s.drop a := by simp only [Int.toNat_natCast, List.take_length]
        have hnb := nx_bounds (drop_ne hk)
        rw [List.length_drop] at hnb
        have qn := s_next hml (s.drop a) (drop_ne hk) (by rw [List.length_drop]; omega)
        rw [tokens_step hk, ← List.singleton_append, ← List.append_assoc] at heq
        refine And.intro ⟨by omega, by omega, Int.le_refl _⟩ ?_
        rw [ht]
        refine Or.inl (Exists.intro _ (And.intro (qn) ?_))
        refine And.intro ⟨by omega, by omega⟩ ?_
        refine And.intro (by show (out.length + 1) * 24 ≤ _; omega) ?_
        refine And.intro ⟨by omega, by omega⟩ ?_
        refine Exists.intro [(30, 40)] (Exists.intro (out ++ [⟨(nx (s.drop a)).1, a, ((a + (nx (s.drop a)).2 : Nat) : Int)⟩], a + (nx (s.drop a)).2) (And.intro ⟨by show a + (nx (s.drop a)).2 ≤ s.length; omega, by show (out ++ [_]).length ≤ _; rw [List.length_append, List.length_singleton]; show out.length + 1 ≤ a + (nx (s.drop a)).2; omega, heq⟩ (And.intro ?_ ?_)))
        · (repeat' (first | exact trivial | exact Or.inl rfl | refine And.intro ?_ ?_))
        · show s.length - (a + (nx (s.drop a)).2) < s.length - a
          omega
      · have hk : a = s.length := by have : ¬ (a : Int) < s.length := of_decide_eq_false hc; omega
        subst hk
        rw [tokens_end (Nat.le_refl _), List.append_nil] at heq
        rw [← heq]
        show _ = _
        rfl
theorem s_Cut (hml : HasML) (s : Str) : PSpec Try.prog 59 [.s s] (cutR s) :=
  pspec_of_vc Γ_good Try.func59 rfl Try.call59 Try.results59 Try.ntmps59 (Nat.le_of_ble_eq_true rfl) (w_Cut hml s)
end
end Go.Proofs.Ytjlbaagnoppfgaa
