/-
  A part of the proof that 'typecaselaw.SpliceTells' returns true, whatever the input: Norm, Sizes and the normal one of the document. No conditions.
-/
import Derived.Test.YtjlbaagnoppfgaaSplL
import Derived.Test.YtjlbaagnoppfgaaSptLaw
import Derived.Test.YtjlbaagnoppfgaaSbOps
namespace Go.Proofs.Ytjlbaagnoppfgaa
open Go Go.SX Go.Spl
set_option maxRecDepth 100000
set_option maxHeartbeats 0
def normR (c : List Part) : AV := if (chk c).2.2 = 0 then .tup [.rd .part (norm c), .i .i64 0] else .tup [.nl, .i .i64 (chk c).2.2]
theorem w_Sizes (c : List Part) : vc Try.prog Γ 10 [0, 2, 3, 4] (Try.f22.body.getD .skip) (postK Γ [.tmp 2, .tmp 3, .tmp 4] (fun v => v = resChk (chk c))) ⟨argSlots 0 [.rd .part c], []⟩ := by
  refine Or.inl (Exists.intro _ (And.intro (spec66 c) ?_))
  show _ = _
  rfl
theorem s_Sizes (c : List Part) : PSpec Try.prog 22 [.rd .part c] (resChk (chk c)) :=
  pspec_of_vc Γ_good Try.func22 rfl Try.call22 Try.results22 Try.ntmps22 (Nat.le_of_ble_eq_true rfl) (w_Sizes c)
theorem w_Norm (c : List Part) : vc Try.prog Γ 18 [0, 2, 3, 6, 14] (Try.f21.body.getD .skip) (postK Γ [.tmp 2, .tmp 3] (fun v => v = normR c)) ⟨argSlots 0 [.rd .part c], []⟩ := by
  refine Or.inl (Exists.intro _ (And.intro (spec66 c) ?_))
  refine And.intro (fun h => ?_) (fun h => ?_)
  · have h : (chk c).2.2 ≠ 0 := by simpa using h
    show _ = normR c
    rw [normR, if_neg h]
    rfl
  · have h : (chk c).2.2 = 0 := by simpa using h
    obtain ⟨h1, h2, _, _, _⟩ := chk_inv h
    refine Or.inr (Exists.intro [] (Exists.intro _ (Exists.intro _ (Exists.intro _ (Exists.intro _ (Exists.intro _ (Exists.intro [(1000, 17)] (And.intro (spec76 c h2 h1) ?_))))))))
    refine (And.intro rfl (And.intro rfl (And.intro rfl (And.intro rfl ?_))))
    show _ = normR c
    rw [normR, if_pos h]
    rfl
theorem s_Norm (c : List Part) : PSpec Try.prog 21 [.rd .part c] (normR c) :=
  pspec_of_vc Γ_good Try.func21 rfl Try.call21 Try.results21 Try.ntmps21 (Nat.le_of_ble_eq_true rfl) (w_Norm c)
theorem normal_norm {c : List Part} (h : ∀ p ∈ c, pfault p = 0) : normalOf (atomsOf (wholeFrom 0 (wt fOv (exs c))) c) (wt fOv (exs c)) = norm c := by
  rw [atomsOf_eq, normal_eq _ _ rfl, norm_done h]
theorem w_Normal (c : List Part) (h : (chk c).2.2 = 0) : vc Try.prog Γ 18 [0, 2, 3] (Try.f25.body.getD .skip) (postK Γ [.tmp 2] (fun v => v = .rd .part (norm c))) ⟨argSlots 0 [.rd .part c], []⟩ := by
  obtain ⟨h1, h2, h3, h4, h5⟩ := chk_inv h
  have hw := (wt_sums h2).1
  have hs := spec19 c
  rw [h3, ← hw] at hs
  refine Or.inl (Exists.intro _ (And.intro (hs) ?_))
  refine Or.inl (Exists.intro _ (And.intro (spec75 (wt fOv (exs c)) (by omega)) ?_))
  refine Or.inl (Exists.intro _ (And.intro (spec74 (wholeFrom 0 (wt fOv (exs c))) c h2 h1 (by rw [wholeFrom_length]; exact Nat.le_refl _)) ?_))
  have hp : ∀ a ∈ atomsOf (wholeFrom 0 (wt fOv (exs c))) c, a.pos ≤ 1000000 := fun a ha => by
    rw [atomsOf_eq] at ha
    rcases at_mem _ _ _ ha with ha | ha
    · have := whole_pos _ 0 a ha; omega
    · omega
  have hl : (atomsOf (wholeFrom 0 (wt fOv (exs c))) c).length ≤ 30000000 := by
    rw [atomsOf_eq, at_length _ _ (by rw [wholeFrom_length]; exact Nat.le_refl _)]
    have := (wt_sums h2).2
    omega
  refine Or.inl (Exists.intro _ (And.intro (spec73 (atomsOf (wholeFrom 0 (wt fOv (exs c))) c) (wt fOv (exs c)) (by omega) hl hp) ?_))
  show _ = _
  rw [normal_norm h2]
  rfl
theorem s_Normal (c : List Part) (h : (chk c).2.2 = 0) : PSpec Try.prog 25 [.rd .part c] (.rd .part (norm c)) :=
  pspec_of_vc Γ_good Try.func25 rfl Try.call25 Try.results25 Try.ntmps25 (Nat.le_of_ble_eq_true rfl) (w_Normal c h)
def applyR (s : Str) (c : List Part) : AV := if (chk c).2.2 ≠ 0 then .tup [.s [], .i .i64 (chk c).2.2] else if sumOv c ≠ s.length then .tup [.s [], .i .i64 1] else .tup [.s (chg s (exs c)), .i .i64 0]
structure PS where
  rem : Str
  out : Str
  k : Nat
structure PI (s0 : Str) (c : List Part) (x : PS) : Prop where
  k : x.k ≤ c.length
  eq : x.out ++ chg x.rem (exs (c.drop x.k)) = chg s0 (exs c)
  ov : wt fOv (exs (c.drop x.k)) ≤ x.rem.length
  rem : x.rem.length ≤ s0.length
  out : x.out.length ≤ 20000 * x.k
theorem w_Apply (s : Str) (c : List Part) : vc Try.prog Γ 61 [0, 1, 4, 5, 6, 8, 9, 11, 25, 27, 29, 30, 31, 32, 36, 37, 48, 54] (Try.f23.body.getD .skip) (postK Γ [.tmp 4, .tmp 5] (fun v => v = applyR s c)) ⟨argSlots 0 [.s s, .rd .part c], []⟩ := by
  by_cases h : (chk c).2.2 = 0
  · obtain ⟨h1, h2, h3, h4, h5⟩ := chk_inv h
    have hs66 : PSpec Try.prog 66 [.rd .part c] (.tup [.i .i64 (sumOv c), .i .i64 (sumMk c), .i .i64 0]) := by have := spec66 c; rw [h3] at this; exact this
    refine Or.inl (Exists.intro _ (And.intro (hs66) ?_))
    refine And.intro (fun _ => ?_) (fun h9 => absurd h9 (by decide))
    intro _
    refine And.intro (fun h9 => ?_) (fun h9 => ?_)
    · have hne : sumOv c ≠ s.length := by simpa using h9
      refine And.intro (fun _ => ?_) (fun h9 => absurd h9 (by decide))
      show _ = applyR s c
      rw [applyR, if_neg (by simpa using h), if_pos hne]
      rfl
    · have heq0 : sumOv c = s.length := by simpa using h9
      have hov := (wt_sums h2).1
      refine And.intro (fun h9 => absurd h9 (by decide)) (fun _ => ?_)
      refine Exists.intro 10 (And.intro rfl ?_)
      intro _
      refine Exists.intro [] (Exists.intro [] (Exists.intro [] (Exists.intro PS (Exists.intro (PI s c) (Exists.intro (fun ⟨r, out, k⟩ => ⟨[(0, .s r), (9, .ob 9 10 (.sb 132 5 out)), (29, .rd .part c), (30, .i .i64 c.length), (31, .i .i64 k)], []⟩) (Exists.intro (fun x => c.length - x.k) (Exists.intro ⟨s, [], 0⟩ (And.intro ⟨Nat.zero_le _, rfl, (by simp only [List.drop_zero]; omega), Nat.le_refl _, by simp⟩ (And.intro ?_ ?_)))))))))
      · (repeat' (first | exact trivial | exact Or.inl rfl | refine And.intro ?_ ?_))
      · rintro ⟨r, out, k⟩ hx
        have hk0 := hx.k
        have hro := hx.rem
        have hout := hx.out
        simp only at hk0 hro hout
        refine And.intro (fun hc => ?_) (fun hc => ?_)
        · have hk : k < c.length := by have : (k : Int) < c.length := of_decide_eq_true hc; omega
          refine And.intro ⟨by omega, by omega⟩ ?_
          have hp : c.getD (Int.toNat k) (dflt .part) = c.getD k default := by rw [Int.toNat_natCast]
          have hm : c.getD k default ∈ c := by rw [List.getD_eq_getElem?_getD, List.getElem?_eq_getElem hk]; exact List.getElem_mem hk
          obtain ⟨b1, b2, b3, b4, b5, b6, b7⟩ := pf_bounds (h2 _ hm)
          have hd := drop_cons hk
          have hov := hx.ov
          have heq := hx.eq
          simp only at hov heq
          rw [hd, exs_cons] at hov heq
          rw [wt_append] at hov
          rw [← hp] at b1 b2 b3 b4 b5 b6 b7 hov heq
          have hlt : (r.take (c.getD (Int.toNat k) (dflt .part)).n.toNat).length ≤ 20000 := by rw [List.length_take]; omega
          have hlt2 : (r.drop (c.getD (Int.toNat k) (dflt .part)).n.toNat).length ≤ r.length := by rw [List.length_drop]; omega
          have hr : r.take (Int.toNat (r.length : Int)) = r := by rw [Int.toNat_natCast, List.take_length]
          refine And.intro (fun hk1 => ?_) (fun hk1 => ?_)
          · have hk1 : (c.getD (Int.toNat k) (dflt .part)).kind = 1 := by simpa using hk1
            rw [ex_keep hk1] at hov heq
            rw [wt_rep] at hov
            rw [chg_keeps] at heq
            simp only [fOv, Nat.one_mul] at hov
            refine And.intro ⟨Int.le_refl _, by omega, by omega⟩ ?_
            refine Exists.intro _ (Exists.intro _ (And.intro (sb_WriteString out ((r.take (c.getD (Int.toNat k) (dflt .part)).n.toNat).drop (Int.toNat 0)) (by rw [show Int.toNat 0 = 0 from rfl, List.drop_zero]; omega)) ?_))
            refine And.intro ⟨by omega, by omega, Int.le_refl _⟩ ?_
            refine And.intro ⟨by omega, by omega⟩ ?_
            refine Exists.intro [] (Exists.intro ⟨r.drop (c.getD (Int.toNat k) (dflt .part)).n.toNat, out ++ r.take (c.getD (Int.toNat k) (dflt .part)).n.toNat, k + 1⟩ (And.intro ⟨hk, (by rw [List.append_assoc]; exact heq), (by simp only [List.length_drop]; omega), (by simp only; omega), (by simp only [List.length_append]; omega)⟩ (And.intro ?_ ?_)))
            · rw [hr]
              (repeat' (first | exact trivial | exact Or.inl rfl | refine And.intro ?_ ?_))
            · show c.length - (k + 1) < c.length - k
              omega
          · have hk1 : (c.getD (Int.toNat k) (dflt .part)).kind ≠ 1 := by simpa using hk1
            refine And.intro (fun hk2 => ?_) (fun hk2 => ?_)
            · have hk2 : (c.getD (Int.toNat k) (dflt .part)).kind = 2 := by simpa using hk2
              rw [ex_cut hk2] at hov heq
              rw [wt_rep] at hov
              rw [chg_cuts] at heq
              simp only [fOv, Nat.one_mul] at hov
              refine And.intro ⟨by omega, by omega, Int.le_refl _⟩ ?_
              refine And.intro ⟨by omega, by omega⟩ ?_
              refine Exists.intro [] (Exists.intro ⟨r.drop (c.getD (Int.toNat k) (dflt .part)).n.toNat, out, k + 1⟩ (And.intro ⟨hk, heq, (by simp only [List.length_drop]; omega), (by simp only; omega), (by simp only; omega)⟩ (And.intro ?_ ?_)))
              · rw [hr]
                (repeat' (first | exact trivial | exact Or.inl rfl | refine And.intro ?_ ?_))
              · show c.length - (k + 1) < c.length - k
                omega
            · have hk2 : (c.getD (Int.toNat k) (dflt .part)).kind ≠ 2 := by simpa using hk2
              have hk3 : (c.getD (Int.toNat k) (dflt .part)).kind = 3 := by omega
              refine And.intro (fun _ => ?_) (fun h9 => absurd hk3 (by simpa using h9))
              rw [ex_put hk3] at hov heq
              rw [chg_puts] at heq
              have hw0 : wt fOv (List.map Prim.put (c.getD (Int.toNat k) (dflt .part)).s) = 0 := by rw [wt_puts fOv 0 (fun _ => rfl)]; omega
              refine Exists.intro _ (Exists.intro _ (And.intro (sb_WriteString out (c.getD (Int.toNat k) (dflt .part)).s (by omega)) ?_))
              refine And.intro ⟨by omega, by omega⟩ ?_
              refine Exists.intro [] (Exists.intro ⟨r, out ++ (c.getD (Int.toNat k) (dflt .part)).s, k + 1⟩ (And.intro ⟨hk, (by rw [List.append_assoc]; exact heq), (by simp only; omega), hro, (by simp only [List.length_append]; omega)⟩ (And.intro ?_ ?_)))
              · (repeat' (first | exact trivial | exact Or.inl rfl | refine And.intro ?_ ?_))
              · show c.length - (k + 1) < c.length - k
                omega
        · have hk : k = c.length := by have : ¬ (k : Int) < c.length := of_decide_eq_false hc; omega
          subst hk
          have heq := hx.eq
          simp only [List.drop_length, exs_nil, chg, List.append_nil] at heq
          refine Exists.intro _ (Exists.intro _ (And.intro (sb_String out) ?_))
          show _ = applyR s c
          rw [applyR, if_neg (by simpa using h), if_neg (by simpa using heq0), ← heq]
          rfl
  · have hs66 : PSpec Try.prog 66 [.rd .part c] (.tup [.i .i64 0, .i .i64 0, .i .i64 (chk c).2.2]) := by have := spec66 c; rw [chk_fail h] at this; exact this
    refine Or.inl (Exists.intro _ (And.intro (hs66) ?_))
    refine And.intro (fun h9 => absurd h9 (by simpa using h)) (fun _ => ?_)
    refine And.intro (fun h9 => absurd h9 (by decide)) (fun _ => ?_)
    refine And.intro (fun _ => ?_) (fun h9 => absurd h9 (by simpa using h))
    show _ = applyR s c
    rw [applyR, if_pos (by simpa using h)]
    rfl
theorem s_Apply (s : Str) (c : List Part) : PSpec Try.prog 23 [.s s, .rd .part c] (applyR s c) :=
  pspec_of_vc Γ_good Try.func23 rfl Try.call23 Try.results23 Try.ntmps23 (Nat.le_of_ble_eq_true rfl) (w_Apply s c)
end Go.Proofs.Ytjlbaagnoppfgaa
