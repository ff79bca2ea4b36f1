/-
  A part of the proof of the laws of whole numbers: the program's numbers out of decimal digits, walked. No conditions.
-/
import Derived.Test.YtjlbaagnoppfgaaBigProG
namespace Go.Proofs.Ytjlbaagnoppfgaa
set_option linter.unusedSectionVars false
set_option linter.unusedSimpArgs false
set_option linter.unusedVariables false
open Go Go.SX Go.Bg
set_option maxRecDepth 100000
set_option maxHeartbeats 0
/-- a text that is no numeral -/
def badN (s : Str) : Prop := s = [] ∨ (s.getD 0 0 = 48 ∧ 1 < s.length) ∨ ∃ c ∈ s, ¬ isd c
open Classical in
/-- what 'Read' answers -/
noncomputable def readR (s : Str) : AV := if 1000 < s.length then .tup [.nl, .i .i64 2] else if badN s then .tup [.nl, .i .i64 4] else .tup [.rd .u32 (dg 4294967296 (dv s)), .i .i64 0]
theorem read_len {s : Str} {k : Nat} (h : ∀ c ∈ s.take k, isd c) : (dg 4294967296 (dv (s.take k))).length ≤ (s.take k).length := dg_len_le b32 _ _ (Nat.lt_of_lt_of_le (dv_lt h) (Nat.pow_le_pow_left (by decide) _))
theorem read_val {x y : Nat} (hx : x < 4294967296) (hy : y ≤ 9) : IntKind.u64.wrap ((y : Int) + IntKind.u64.wrap (IntKind.u64.wrap (x : Int) * 10)) = ((y + x * 10 : Nat) : Int) := by
  rw [IntKind.wrap_u64, IntKind.wrap_u64, IntKind.wrap_u64]
  omega
theorem read_step {o q : List Int} {i x y d : Nat} (hi : i < q.length) (hD : Dg 4294967296 q) (hx : (o.getD i 0).toNat = x) (hy : y ≤ 9) (hxl : x < 4294967296) (hv : vl 4294967296 (q.take i) + 4294967296 ^ i * y = 10 * vl 4294967296 (o.take i) + d) :
    Dg 4294967296 (q.set i (((y + x * 10) % 4294967296 : Nat) : Int)) ∧ (y + x * 10) / 4294967296 ≤ 9 ∧ vl 4294967296 ((q.set i (((y + x * 10) % 4294967296 : Nat) : Int)).take (i + 1)) + 4294967296 ^ (i + 1) * ((y + x * 10) / 4294967296) = 10 * vl 4294967296 (o.take (i + 1)) + d := by
  refine ⟨hD.set i ⟨by omega, by omega⟩, by omega, ?_⟩
  rw [vl_take_set hi, vl_take_succ, hx, Int.toNat_natCast, Nat.pow_succ, Nat.mul_assoc, Nat.add_assoc, ← Nat.mul_add, Nat.mod_add_div, Nat.mul_add, Nat.mul_add]
  have : 4294967296 ^ i * (x * 10) = 10 * (4294967296 ^ i * x) := by rw [Nat.mul_comm x, ← Nat.mul_assoc, Nat.mul_comm _ 10, Nat.mul_assoc]
  omega
theorem read_more {s : Str} {k y d : Nat} {q : List Int} (hD : Dg 4294967296 q) (hl : q.length = (dg 4294967296 (dv (s.take k))).length) (hd : dv (s.take (k + 1)) = dv (s.take k) * 10 + d)
    (hv : vl 4294967296 q + 4294967296 ^ q.length * y = 10 * dv (s.take k) + d) : (0 < y → y ≤ 9 → q ++ [(y : Int)] = dg 4294967296 (dv (s.take (k + 1)))) ∧ (y = 0 → q = dg 4294967296 (dv (s.take (k + 1)))) := by
  refine ⟨fun h h9 => ?_, fun h => ?_⟩
  · have := canon b32 (l := q ++ [(y : Int)]) (hD.snoc ⟨by omega, by omega⟩) (by simp; omega)
    rw [vl_snoc, Int.toNat_natCast, hv] at this
    rw [← this, hd]
    congr 1
    omega
  · subst h
    rw [Nat.mul_zero, Nat.add_zero] at hv
    have := canonLen b32 hD (by
      rcases Nat.eq_zero_or_pos (dv (s.take k)) with h | h
      · rw [h] at hl; exact .inl (List.eq_nil_of_length_eq_zero hl)
      · have h1 := dg_ge b32 h
        rw [← hl] at h1
        exact .inr (by omega))
    rw [hv] at this
    rw [← this, hd]
    congr 1
    omega
section
variable [G : Globs]
theorem w_read (s : Str) : vc Try.prog Γ 70 [0, 2, 3, 4, 6, 7, 8, 11, 23, 25, 26, 27, 28, 36, 41, 42, 43, 62] (Try.f39.body.getD .skip) (postK Γ [.tmp 2, .tmp 3] (fun v => v = readR s)) ⟨argSlots 0 [.s s], []⟩ := by
  intro hlen
  refine And.intro (fun h1 => ?_) (fun h1 => ?_)
  · have h1 : 1000 < s.length := by have : (1000 : Int) < (s.length : Int) := of_decide_eq_true h1
                                    omega
    show _ = readR s
    rw [readR, if_pos h1]
    rfl
  · have h1 : ¬ 1000 < s.length := by have : ¬ (1000 : Int) < (s.length : Int) := of_decide_eq_false h1
                                      omega
    have bad : badN s → AV.tup [.nl, .i .i64 4] = readR s := fun h => by rw [readR, if_neg h1, if_pos h]
    have good : ¬ badN s → AV.tup [.rd .u32 (dg 4294967296 (dv s)), .i .i64 0] = readR s := fun h => by rw [readR, if_neg h1, if_neg h]
    have loop : s ≠ [] → ¬ (s.getD 0 0 = 48 ∧ 1 < s.length) → True := fun _ _ => trivial
    by_cases hs : s = []
    · subst hs
      refine And.intro (fun h9 => absurd h9 (by decide)) (fun _ => ?_)
      refine And.intro (fun _ => ?_) (fun h9 => absurd h9 (by decide))
      exact bad (.inl rfl)
    · have hl0 : 0 < s.length := List.length_pos_iff.2 hs
      refine And.intro (fun _ => ?_) (fun h9 => absurd (by simpa using h9) hs)
      refine And.intro ⟨by omega, by omega⟩ ?_
      by_cases hb : s.getD 0 0 = 48 ∧ 1 < s.length
      · refine And.intro (fun _ => ?_) (fun h9 => absurd h9 (by rw [show (s.getD (Int.toNat 0) 0) = 48 from hb.1]; decide))
        intro _
        refine And.intro (fun _ => ?_) (fun h9 => ?_)
        · exact bad (.inr (.inl hb))
        · exfalso
          have h9 : decide ((1 : Int) < (s.length : Int)) = false := by
            exact h9
          have := of_decide_eq_false h9
          omega
      · refine And.intro (fun h8 => ?_) (fun h8 => ?_)
        · have h8 : s.getD 0 0 = 48 := by
            have h9 := eq_of_beq h8
            exact UInt8.toNat_inj.1 (by show (s.getD 0 0).toNat = 48; have h9 : ((s.getD 0 0).toNat : Int) = 48 := h9; omega)
          intro _
          refine And.intro (fun h9 => ?_) (fun _ => ?_)
          · exfalso
            have h9 : decide ((1 : Int) < (s.length : Int)) = true := h9
            have := of_decide_eq_true h9
            exact hb ⟨h8, by omega⟩
          · intro _
            refine Exists.intro [(4, 4, .u32)] (Exists.intro [] (Exists.intro [] (Exists.intro Nat (Exists.intro (fun k => k ≤ s.length ∧ ∀ c ∈ s.take k, isd c) (Exists.intro (fun k => ⟨[(4, .vec 4 .u32 (dg 4294967296 (dv (s.take k)))), (25, .rd .u8 (s.map fun b => (b.toNat : Int))), (26, .i .i64 (s.map fun b => (b.toNat : Int)).length), (27, .i .i64 k)], []⟩) (Exists.intro (fun k => s.length - k) (Exists.intro 0 (And.intro ⟨Nat.zero_le _, by simp⟩ (And.intro ?_ ?_)))))))))
            · (repeat' (first | exact trivial | exact Or.inl rfl | exact Or.inr (Or.inl ⟨rfl, _, rfl⟩) | refine And.intro ?_ ?_))
            · rintro k ⟨hk, hd⟩
              refine And.intro (fun hc => ?_) (fun hc => ?_)
              · have hkl : k < s.length := by
                  have : (k : Int) < ((s.map fun b => (b.toNat : Int)).length : Int) := of_decide_eq_true hc
                  rw [List.length_map] at this
                  omega
                refine And.intro ⟨by omega, by rw [List.length_map]; omega⟩ ?_
                have hby : (s.map fun b => (b.toNat : Int)).getD (Int.toNat (k : Int)) (dflt .u8) = ((s.getD k 0).toNat : Int) := by
                  rw [Int.toNat_natCast, List.getD_eq_getElem?_getD, List.getElem?_map, List.getElem?_eq_getElem hkl, List.getD_eq_getElem?_getD, List.getElem?_eq_getElem hkl]
                  rfl
                (conv => whnf)
                rw [hby]
                have hmem : s.getD k 0 ∈ s := by rw [List.getD_eq_getElem?_getD, List.getElem?_eq_getElem hkl]; exact List.getElem_mem hkl
                have go : isd (s.getD k 0) → ∀ c ∈ s.take (k + 1), isd c := fun hi c hc => by
                  rw [List.take_add_one, List.getElem?_eq_getElem hkl] at hc
                  rcases List.mem_append.1 hc with hc | hc
                  · exact hd c hc
                  · rw [List.getD_eq_getElem?_getD, List.getElem?_eq_getElem hkl] at hi
                    have : c = s[k] := by simpa using hc
                    rw [this]; exact hi
                refine And.intro (fun hlo => ?_) (fun hlo => ?_)
                · have hlo : ¬ ((s.getD k 0).toNat : Int) < 48 := of_decide_eq_false hlo
                  refine And.intro (fun hhi => ?_) (fun hhi => ?_)
                  · have hhi : (57 : Int) < ((s.getD k 0).toNat : Int) := of_decide_eq_true hhi
                    exact bad (.inr (.inr ⟨_, hmem, by unfold isd; omega⟩))
                  · have hhi : ¬ (57 : Int) < ((s.getD k 0).toNat : Int) := of_decide_eq_false hhi
                    have hi : isd (s.getD k 0) := by unfold isd; omega
                    have go := go hi
                    have hdv := dv_take_succ s hkl
                    have hol := read_len hd
                    have hvl : vl 4294967296 (dg 4294967296 (dv (s.take k))) = dv (s.take k) := vl_dg b32 _
                    have hoD := dg_Dg b32 (dv (s.take k))
                    have more := fun (y : Nat) (q : List Int) hD hl hv => read_more (s := s) (k := k) (y := y) (q := q) hD hl hdv hv
                    have hdl : (s.getD k 0).toNat - 48 ≤ 9 := by omega
                    have ed : IntKind.u64.wrap (IntKind.u8.wrap (((s.getD k 0).toNat : Int) - 48)) = (((s.getD k 0).toNat - 48 : Nat) : Int) := by
                      rw [IntKind.wrap_u8, IntKind.wrap_u64]; omega
                    rw [List.length_take] at hol
                    generalize dg 4294967296 (dv (s.take k)) = o at hvl hoD more hol
                    generalize (s.getD k 0).toNat - 48 = d at hdl ed more hdv
                    intro _
                    refine Exists.intro [] (Exists.intro [] (Exists.intro [] (Exists.intro (Nat × Nat × List Int) (Exists.intro (fun x => x.1 ≤ o.length ∧ x.2.2.length = o.length ∧ Dg 4294967296 x.2.2 ∧ x.2.1 ≤ 9 ∧ vl 4294967296 (x.2.2.take x.1) + 4294967296 ^ x.1 * x.2.1 = 10 * vl 4294967296 (o.take x.1) + d ∧ ∀ t, x.1 ≤ t → x.2.2.getD t 0 = o.getD t 0) (Exists.intro (fun ⟨i, y, q⟩ => ⟨[(4, .vec 4 .u32 q), (7, .i .u64 y), (25, .rd .u8 (s.map fun b => (b.toNat : Int))), (26, .i .i64 (s.map fun b => (b.toNat : Int)).length), (27, .i .i64 k), (41, .i .i64 o.length), (42, .i .i64 i)], []⟩) (Exists.intro (fun x => o.length - x.1) (Exists.intro (0, d, o) (And.intro ⟨Nat.zero_le _, rfl, hoD, hdl, by simp [vl], fun _ _ => rfl⟩ (And.intro ?_ ?_)))))))))
                    · (repeat' (first | exact trivial | exact Or.inl rfl | exact Or.inl ((congrArg (AV.i .u64) ed)) | refine And.intro ?_ ?_))
                    · rintro ⟨i, y, q⟩ ⟨f1, f2, f3, f4, f5, f6⟩
                      dsimp only at f1 f2 f3 f4 f5 f6
                      refine And.intro (fun hx => ?_) (fun hx => ?_)
                      · have hil : i < o.length := by have : (i : Int) < (o.length : Int) := of_decide_eq_true hx
                                                      omega
                        obtain ⟨x, hx, hxl, hxn⟩ := get32 hoD i
                        have st := read_step (o := o) (by omega) f3 hxn f4 hxl f5
                        have ev := read_val hxl f4
                        rw [← hx, ← f6 i (Nat.le_refl _)] at ev
                        have ev : IntKind.u64.wrap ((y : Int) + IntKind.u64.wrap (IntKind.u64.wrap (q.getD (Int.toNat (i : Int)) (dflt .u32)) * 10)) = ((y + x * 10 : Nat) : Int) := ev
                        refine And.intro ⟨by omega, by omega⟩ ?_
                        (conv => whnf)
                        rw [ev]
                        generalize hT : y + x * 10 = T at st
                        have e7 : IntKind.u32.wrap (T : Int) = ((T % 4294967296 : Nat) : Int) := by rw [IntKind.wrap_u32']; rfl
                        refine And.intro ⟨by omega, by omega⟩ ?_
                        refine And.intro (by decide) ?_
                        (refine And.intro (rng64 (by omega) (by omega)) ?_)
                        refine Exists.intro [] (Exists.intro (i + 1, T / 4294967296, q.set i ((T % 4294967296 : Nat) : Int)) (And.intro ⟨hil, by simp [f2], st.1, st.2.1, st.2.2, fun t ht => by rw [getD_set_ne (by dsimp only at ht; omega)]; exact f6 t (by dsimp only at ht; omega)⟩ (And.intro ?_ ?_)))
                        · (repeat' (first | exact trivial | exact Or.inl rfl | exact Or.inl ((by first | exact congrArg (fun v => AV.vec 4 .u32 (q.set i v)) e7 | exact congrArg (AV.i .u64) (shr32 T))) | refine And.intro ?_ ?_))
                        · show o.length - (i + 1) < o.length - i
                          omega
                      · have hil : i = o.length := by have : ¬ (i : Int) < (o.length : Int) := of_decide_eq_false hx
                                                      omega
                        subst hil
                        rw [List.take_of_length_le (l := q) (by omega), List.take_length, hvl] at f5
                        have mo := more y q f3 f2 (by rw [f2]; exact f5)
                        have hlen : ((s.map fun b => (b.toNat : Int)).length : Int) = s.length := by rw [List.length_map]
                        refine And.intro (fun hy => ?_) (fun hy => ?_)
                        · have hy : 0 < y := by have : (0 : Int) < (y : Int) := of_decide_eq_true hy
                                                omega
                          refine And.intro (by show (q.length + 1) * 4 ≤ _; omega) ?_
                          (refine And.intro (rng64 (by omega) (by omega)) ?_)
                          refine Exists.intro [(67, 4)] (Exists.intro (k + 1) (And.intro ⟨hkl, go⟩ (And.intro ?_ ?_)))
                          · (repeat' (first | exact trivial | exact Or.inl rfl | exact Or.inl ((by rw [← mo.1 hy f4]; exact congrArg (fun v : Int => AV.vec 4 .u32 (q ++ [v])) (wrap32 (by omega)))) | refine And.intro ?_ ?_))
                          · show s.length - (k + 1) < s.length - k
                            omega
                        · have hy : y = 0 := by have : ¬ (0 : Int) < (y : Int) := of_decide_eq_false hy
                                                omega
                          (refine And.intro (rng64 (by omega) (by omega)) ?_)
                          refine Exists.intro [] (Exists.intro (k + 1) (And.intro ⟨hkl, go⟩ (And.intro ?_ ?_)))
                          · (repeat' (first | exact trivial | exact Or.inl rfl | exact Or.inl ((congrArg (AV.vec 4 .u32) (mo.2 hy))) | refine And.intro ?_ ?_))
                          · show s.length - (k + 1) < s.length - k
                            omega
                · have hlo : ((s.getD k 0).toNat : Int) < 48 := of_decide_eq_true hlo
                  refine And.intro (fun _ => ?_) (fun h9 => absurd h9 (by decide))
                  exact bad (.inr (.inr ⟨_, hmem, by unfold isd; omega⟩))
              · have hkl : k = s.length := by
                  have : ¬ (k : Int) < ((s.map fun b => (b.toNat : Int)).length : Int) := of_decide_eq_false hc
                  rw [List.length_map] at this
                  omega
                subst hkl
                rw [List.take_length] at hd
                refine Eq.trans ?_ (good fun h => ?_)
                · rw [List.take_length]; rfl
                · rcases h with h | h | ⟨c, hc, hn⟩
                  · exact hs h
                  · exact hb h
                  · exact hn (hd c hc)
        · refine And.intro (fun h9 => ?_) (fun _ => ?_)
          · exfalso
            have h9 : (bif false then true else bif ((((s.getD (Int.toNat 0) 0).toNat : Int) == 48) : Bool) then false else false) = true := by
              cases h7 : ((((s.getD (Int.toNat 0) 0).toNat : Int) == 48) : Bool) <;> simp_all
            cases h7 : ((((s.getD (Int.toNat 0) 0).toNat : Int) == 48) : Bool) <;> simp_all
          · intro _
            refine Exists.intro [(4, 4, .u32)] (Exists.intro [] (Exists.intro [] (Exists.intro Nat (Exists.intro (fun k => k ≤ s.length ∧ ∀ c ∈ s.take k, isd c) (Exists.intro (fun k => ⟨[(4, .vec 4 .u32 (dg 4294967296 (dv (s.take k)))), (25, .rd .u8 (s.map fun b => (b.toNat : Int))), (26, .i .i64 (s.map fun b => (b.toNat : Int)).length), (27, .i .i64 k)], []⟩) (Exists.intro (fun k => s.length - k) (Exists.intro 0 (And.intro ⟨Nat.zero_le _, by simp⟩ (And.intro ?_ ?_)))))))))
            · (repeat' (first | exact trivial | exact Or.inl rfl | exact Or.inr (Or.inl ⟨rfl, _, rfl⟩) | refine And.intro ?_ ?_))
            · rintro k ⟨hk, hd⟩
              refine And.intro (fun hc => ?_) (fun hc => ?_)
              · have hkl : k < s.length := by
                  have : (k : Int) < ((s.map fun b => (b.toNat : Int)).length : Int) := of_decide_eq_true hc
                  rw [List.length_map] at this
                  omega
                refine And.intro ⟨by omega, by rw [List.length_map]; omega⟩ ?_
                have hby : (s.map fun b => (b.toNat : Int)).getD (Int.toNat (k : Int)) (dflt .u8) = ((s.getD k 0).toNat : Int) := by
                  rw [Int.toNat_natCast, List.getD_eq_getElem?_getD, List.getElem?_map, List.getElem?_eq_getElem hkl, List.getD_eq_getElem?_getD, List.getElem?_eq_getElem hkl]
                  rfl
                (conv => whnf)
                rw [hby]
                have hmem : s.getD k 0 ∈ s := by rw [List.getD_eq_getElem?_getD, List.getElem?_eq_getElem hkl]; exact List.getElem_mem hkl
                have go : isd (s.getD k 0) → ∀ c ∈ s.take (k + 1), isd c := fun hi c hc => by
                  rw [List.take_add_one, List.getElem?_eq_getElem hkl] at hc
                  rcases List.mem_append.1 hc with hc | hc
                  · exact hd c hc
                  · rw [List.getD_eq_getElem?_getD, List.getElem?_eq_getElem hkl] at hi
                    have : c = s[k] := by simpa using hc
                    rw [this]; exact hi
                refine And.intro (fun hlo => ?_) (fun hlo => ?_)
                · have hlo : ¬ ((s.getD k 0).toNat : Int) < 48 := of_decide_eq_false hlo
                  refine And.intro (fun hhi => ?_) (fun hhi => ?_)
                  · have hhi : (57 : Int) < ((s.getD k 0).toNat : Int) := of_decide_eq_true hhi
                    exact bad (.inr (.inr ⟨_, hmem, by unfold isd; omega⟩))
                  · have hhi : ¬ (57 : Int) < ((s.getD k 0).toNat : Int) := of_decide_eq_false hhi
                    have hi : isd (s.getD k 0) := by unfold isd; omega
                    have go := go hi
                    have hdv := dv_take_succ s hkl
                    have hol := read_len hd
                    have hvl : vl 4294967296 (dg 4294967296 (dv (s.take k))) = dv (s.take k) := vl_dg b32 _
                    have hoD := dg_Dg b32 (dv (s.take k))
                    have more := fun (y : Nat) (q : List Int) hD hl hv => read_more (s := s) (k := k) (y := y) (q := q) hD hl hdv hv
                    have hdl : (s.getD k 0).toNat - 48 ≤ 9 := by omega
                    have ed : IntKind.u64.wrap (IntKind.u8.wrap (((s.getD k 0).toNat : Int) - 48)) = (((s.getD k 0).toNat - 48 : Nat) : Int) := by
                      rw [IntKind.wrap_u8, IntKind.wrap_u64]; omega
                    rw [List.length_take] at hol
                    generalize dg 4294967296 (dv (s.take k)) = o at hvl hoD more hol
                    generalize (s.getD k 0).toNat - 48 = d at hdl ed more hdv
                    intro _
                    refine Exists.intro [] (Exists.intro [] (Exists.intro [] (Exists.intro (Nat × Nat × List Int) (Exists.intro (fun x => x.1 ≤ o.length ∧ x.2.2.length = o.length ∧ Dg 4294967296 x.2.2 ∧ x.2.1 ≤ 9 ∧ vl 4294967296 (x.2.2.take x.1) + 4294967296 ^ x.1 * x.2.1 = 10 * vl 4294967296 (o.take x.1) + d ∧ ∀ t, x.1 ≤ t → x.2.2.getD t 0 = o.getD t 0) (Exists.intro (fun ⟨i, y, q⟩ => ⟨[(4, .vec 4 .u32 q), (7, .i .u64 y), (25, .rd .u8 (s.map fun b => (b.toNat : Int))), (26, .i .i64 (s.map fun b => (b.toNat : Int)).length), (27, .i .i64 k), (41, .i .i64 o.length), (42, .i .i64 i)], []⟩) (Exists.intro (fun x => o.length - x.1) (Exists.intro (0, d, o) (And.intro ⟨Nat.zero_le _, rfl, hoD, hdl, by simp [vl], fun _ _ => rfl⟩ (And.intro ?_ ?_)))))))))
                    · (repeat' (first | exact trivial | exact Or.inl rfl | exact Or.inl ((congrArg (AV.i .u64) ed)) | refine And.intro ?_ ?_))
                    · rintro ⟨i, y, q⟩ ⟨f1, f2, f3, f4, f5, f6⟩
                      dsimp only at f1 f2 f3 f4 f5 f6
                      refine And.intro (fun hx => ?_) (fun hx => ?_)
                      · have hil : i < o.length := by have : (i : Int) < (o.length : Int) := of_decide_eq_true hx
                                                      omega
                        obtain ⟨x, hx, hxl, hxn⟩ := get32 hoD i
                        have st := read_step (o := o) (by omega) f3 hxn f4 hxl f5
                        have ev := read_val hxl f4
                        rw [← hx, ← f6 i (Nat.le_refl _)] at ev
                        have ev : IntKind.u64.wrap ((y : Int) + IntKind.u64.wrap (IntKind.u64.wrap (q.getD (Int.toNat (i : Int)) (dflt .u32)) * 10)) = ((y + x * 10 : Nat) : Int) := ev
                        refine And.intro ⟨by omega, by omega⟩ ?_
                        (conv => whnf)
                        rw [ev]
                        generalize hT : y + x * 10 = T at st
                        have e7 : IntKind.u32.wrap (T : Int) = ((T % 4294967296 : Nat) : Int) := by rw [IntKind.wrap_u32']; rfl
                        refine And.intro ⟨by omega, by omega⟩ ?_
                        refine And.intro (by decide) ?_
                        (refine And.intro (rng64 (by omega) (by omega)) ?_)
                        refine Exists.intro [] (Exists.intro (i + 1, T / 4294967296, q.set i ((T % 4294967296 : Nat) : Int)) (And.intro ⟨hil, by simp [f2], st.1, st.2.1, st.2.2, fun t ht => by rw [getD_set_ne (by dsimp only at ht; omega)]; exact f6 t (by dsimp only at ht; omega)⟩ (And.intro ?_ ?_)))
                        · (repeat' (first | exact trivial | exact Or.inl rfl | exact Or.inl ((by first | exact congrArg (fun v => AV.vec 4 .u32 (q.set i v)) e7 | exact congrArg (AV.i .u64) (shr32 T))) | refine And.intro ?_ ?_))
                        · show o.length - (i + 1) < o.length - i
                          omega
                      · have hil : i = o.length := by have : ¬ (i : Int) < (o.length : Int) := of_decide_eq_false hx
                                                      omega
                        subst hil
                        rw [List.take_of_length_le (l := q) (by omega), List.take_length, hvl] at f5
                        have mo := more y q f3 f2 (by rw [f2]; exact f5)
                        have hlen : ((s.map fun b => (b.toNat : Int)).length : Int) = s.length := by rw [List.length_map]
                        refine And.intro (fun hy => ?_) (fun hy => ?_)
                        · have hy : 0 < y := by have : (0 : Int) < (y : Int) := of_decide_eq_true hy
                                                omega
                          refine And.intro (by show (q.length + 1) * 4 ≤ _; omega) ?_
                          (refine And.intro (rng64 (by omega) (by omega)) ?_)
                          refine Exists.intro [(67, 4)] (Exists.intro (k + 1) (And.intro ⟨hkl, go⟩ (And.intro ?_ ?_)))
                          · (repeat' (first | exact trivial | exact Or.inl rfl | exact Or.inl ((by rw [← mo.1 hy f4]; exact congrArg (fun v : Int => AV.vec 4 .u32 (q ++ [v])) (wrap32 (by omega)))) | refine And.intro ?_ ?_))
                          · show s.length - (k + 1) < s.length - k
                            omega
                        · have hy : y = 0 := by have : ¬ (0 : Int) < (y : Int) := of_decide_eq_false hy
                                                omega
                          (refine And.intro (rng64 (by omega) (by omega)) ?_)
                          refine Exists.intro [] (Exists.intro (k + 1) (And.intro ⟨hkl, go⟩ (And.intro ?_ ?_)))
                          · (repeat' (first | exact trivial | exact Or.inl rfl | exact Or.inl ((congrArg (AV.vec 4 .u32) (mo.2 hy))) | refine And.intro ?_ ?_))
                          · show s.length - (k + 1) < s.length - k
                            omega
                · have hlo : ((s.getD k 0).toNat : Int) < 48 := of_decide_eq_true hlo
                  refine And.intro (fun _ => ?_) (fun h9 => absurd h9 (by decide))
                  exact bad (.inr (.inr ⟨_, hmem, by unfold isd; omega⟩))
              · have hkl : k = s.length := by
                  have : ¬ (k : Int) < ((s.map fun b => (b.toNat : Int)).length : Int) := of_decide_eq_false hc
                  rw [List.length_map] at this
                  omega
                subst hkl
                rw [List.take_length] at hd
                refine Eq.trans ?_ (good fun h => ?_)
                · rw [List.take_length]; rfl
                · rcases h with h | h | ⟨c, hc, hn⟩
                  · exact hs h
                  · exact hb h
                  · exact hn (hd c hc)
theorem s_read (s : Str) : PSpec Try.prog 39 [.s s] (readR s) :=
  pspec_of_vc Γ_good Try.func39 rfl Try.call39 Try.results39 Try.ntmps39 (Nat.le_of_ble_eq_true rfl) (w_read s)
end
end Go.Proofs.Ytjlbaagnoppfgaa
