/-
  A part of the proof that 'typecaselaw.SpliceComposes' returns true, whatever the input: Compose. No conditions.
-/
import Derived.Test.YtjlbaagnoppfgaaSplP
namespace Go.Proofs.Ytjlbaagnoppfgaa
open Go Go.SX Go.Spl
set_option maxRecDepth 100000
set_option maxHeartbeats 0
theorem wt_one (l : List Prim) : wt (fun _ => 1) l = l.length := by
  induction l with
  | nil => rfl
  | cons x l ih => simp only [wt, ih, List.length_cons]; omega
theorem norm_done {c : List Part} (h : ∀ p ∈ c, pfault p = 0) : norm c = done ((exs c).foldl addP .init) := by unfold norm; rw [adds_ex fun p hp => ok_of (h p hp)]
theorem norm_wt (f : Prim → Nat) {c : List Part} (h : ∀ p ∈ c, pfault p = 0) : wt f (exs (norm c)) = wt f (exs c) := by rw [norm_done h, wt_done]
theorem norm_len {c : List Part} (h : ∀ p ∈ c, pfault p = 0) (hl : c.length ≤ 400) : (exs (norm c)).length ≤ 10000000 := by
  rw [← wt_one, norm_wt _ h, wt_one]
  have := exs_len h
  omega
theorem norm_ok {c : List Part} (h : ∀ p ∈ c, pfault p = 0) : ∀ p ∈ norm c, Ok p ∧ ex p ≠ [] := by
  rw [norm_done h]
  exact (BOk.adds _ BOk.init).done
theorem wt_sums {c : List Part} (h : ∀ p ∈ c, pfault p = 0) : (wt fOv (exs c) : Int) = sumOv c ∧ (wt fMk (exs c) : Int) = sumMk c := by
  induction c with
  | nil => exact ⟨rfl, rfl⟩
  | cons p c ih =>
    obtain ⟨h1, h2⟩ := ih fun q hq => h q (List.mem_cons_of_mem _ hq)
    have hp := pf_bounds (h p (List.mem_cons_self ..))
    have hok := ok_of (h p (List.mem_cons_self ..))
    simp only [sumOv, sumMk, List.map_cons, List.sum_cons] at h1 h2 ⊢
    rw [exs_cons, wt_append, wt_append]
    rcases hok.kind with k | k | k
    · rw [ex_keep k, wt_rep, wt_rep]
      simp only [pov, pmk, fOv, fMk, k, hok.s0 (by omega)]
      simp
      omega
    · rw [ex_cut k, wt_rep, wt_rep]
      simp only [pov, pmk, fOv, fMk, k]
      simp
      omega
    · rw [ex_put k, wt_puts fOv 0 (fun _ => rfl), wt_puts fMk 1 (fun _ => rfl)]
      simp only [pov, pmk, k, hok.n3 k]
      simp
      omega
theorem comp_len (x y : List Prim) : (comp x y).length ≤ x.length + y.length := by
  fun_induction comp x y <;> simp_all <;> omega
theorem init_ci {a b : List Part} (ha : ∀ p ∈ a, pfault p = 0) (hb : ∀ p ∈ b, pfault p = 0) (hla : a.length ≤ 400) (hlb : b.length ≤ 400) (h : sumOv b = sumMk a) : CI (comp (exs (norm a)) (exs (norm b))) ⟨norm a, 0, norm b, 0, []⟩ := by
  refine ⟨Nat.zero_le _, Nat.zero_le _, norm_ok ha, norm_ok hb, norm_len ha hla, norm_len hb hlb, ?_, rfl⟩
  simp only [List.drop_zero]
  rw [norm_wt _ ha, norm_wt _ hb]
  have h1 := (wt_sums ha).2
  have h2 := (wt_sums hb).1
  omega
theorem CI.bd {T : List Prim} (hT : T.length ≤ 30000000) {s : CS} (h : CI T s) : Bd s.bld := by
  refine bd_adds _ ?_
  have := h.eq
  have h2 : (s.pre ++ comp (exs (s.x.drop s.kx)) (exs (s.y.drop s.ky))).length = T.length := by rw [this]
  rw [List.length_append] at h2
  omega
theorem hd_some {l : List Part} {k : Nat} (h : k < l.length) : hd l k = l.getD k default := by rw [hd, if_pos h]
theorem hd_none {l : List Part} {k : Nat} (h : ¬ k < l.length) : hd l k = ⟨0, 0, []⟩ := by rw [hd, if_neg h]
theorem CI.hdx {T : List Prim} {s : CS} (h : CI T s) (hk : (hd s.x s.kx).kind ≠ 0) : s.kx < s.x.length := by
  by_cases h1 : s.kx < s.x.length
  · exact h1
  · rw [hd_none h1] at hk; exact absurd rfl hk
theorem CI.hdy {T : List Prim} {s : CS} (h : CI T s) (hk : (hd s.y s.ky).kind ≠ 0) : s.ky < s.y.length := by
  by_cases h1 : s.ky < s.y.length
  · exact h1
  · rw [hd_none h1] at hk; exact absurd rfl hk
theorem CI.hdx0 {T : List Prim} {s : CS} (h : CI T s) (hk : (hd s.x s.kx).kind = 0) : ¬ s.kx < s.x.length := fun h1 => by
  have := (h.headx h1).1.kind
  rw [hd_some h1] at hk; omega
theorem CI.hdy0 {T : List Prim} {s : CS} (h : CI T s) (hk : (hd s.y s.ky).kind = 0) : ¬ s.ky < s.y.length := fun h1 => by
  have := (h.heady h1).1.kind
  rw [hd_some h1] at hk; omega
def compT (a b : List Part) : List Prim := comp (exs (norm a)) (exs (norm b))
def compRes (a b : List Part) : AV :=
  if both1 a b ≠ 0 then .tup [.nl, .i .i64 (both1 a b)]
  else if sumOv b ≠ sumMk a then .tup [.nl, .i .i64 1]
  else if (chk (done ((compT a b).foldl addP .init))).2.2 = 0 then .tup [.rd .part (done ((compT a b).foldl addP .init)), .i .i64 0]
  else .tup [.nl, .i .i64 2]
def cst (s : CS) : St := ⟨[(6, .pt 34 0), (7, .pt 38 0), (15, .pt 15 0)],
  [(34, [.vs 32 .part s.x s.kx]), (38, [.vs 36 .part s.y s.ky]), (15, [.vec 20 .part s.bld.out, .i .i64 s.bld.cut, .s s.bld.put])]⟩
theorem walk16 (a b : List Part) : vc Try.prog Γ 101 [0, 1, 4, 5, 6, 7, 8, 10, 12, 15, 16, 17, 18, 27, 43, 53, 60, 68, 85, 91, 34, 38, 32, 36, 20] (Try.f16.body.getD .skip) (postK Γ [.tmp 4, .tmp 5] (fun v => v = compRes a b)) ⟨argSlots 0 [.rd .part a, .rd .part b], []⟩ := by
  by_cases hbo : both1 a b ≠ 0
  · refine Or.inl (Exists.intro _ (And.intro (spec65f a b hbo) ?_))
    refine And.intro (fun h => ?_) (fun h => absurd hbo (by simpa using h))
    show AV.tup [.nl, .i .i64 (both1 a b)] = compRes a b
    rw [compRes, if_pos hbo]
  · have ha : (chk a).2.2 = 0 := by unfold both1 at hbo; by_cases h : (chk a).2.2 = 0; exact h; rw [if_pos h] at hbo; exact absurd h hbo
    have hb : (chk b).2.2 = 0 := by unfold both1 at hbo; rw [if_neg (by simpa using ha)] at hbo; simpa using hbo
    obtain ⟨ha1, ha2, ha3, _, _⟩ := chk_inv ha
    obtain ⟨hb1, hb2, hb3, _, _⟩ := chk_inv hb
    refine Or.inr (Exists.intro [] (Exists.intro 65 (Exists.intro [.rd .part a, .rd .part b] (Exists.intro [] (Exists.intro (.tup [.pt 34 0, .pt 38 0, .i .i64 0]) (Exists.intro [(34, [.vec 32 .part (norm a)]), (38, [.vec 36 .part (norm b)])] (Exists.intro [] (And.intro (spec65 a b ha hb) ?_))))))))
    refine And.intro rfl (And.intro rfl (And.intro rfl (And.intro rfl ?_)))
    refine And.intro (fun h => absurd h (by simp)) (fun _ => ?_)
    refine Or.inl (Exists.intro (resChk (chk a)) (And.intro (spec66 a) ?_))
    refine Or.inl (Exists.intro (resChk (chk b)) (And.intro (spec66 b) ?_))
    rw [ha3, hb3]
    refine And.intro (fun h => ?_) (fun h => ?_)
    · have hne : sumOv b ≠ sumMk a := by simpa using h
      show AV.tup [.nl, .i .i64 1] = compRes a b
      rw [compRes, if_neg hbo, if_pos hne]
    · have heq : sumOv b = sumMk a := by simpa using h
      have hci := init_ci ha2 hb2 ha1 hb1 heq
      have hT : (compT a b).length ≤ 30000000 := by
        have h1 := comp_len (exs (norm a)) (exs (norm b))
        have h2 := norm_len ha2 ha1
        have h3 := norm_len hb2 hb1
        show (comp (exs (norm a)) (exs (norm b))).length ≤ _
        omega
      refine Exists.intro [] (Exists.intro [(15, 0, 20, .part)] (Exists.intro [] (Exists.intro CS (Exists.intro (CI (compT a b)) (Exists.intro cst (Exists.intro CS.mu (Exists.intro ⟨norm a, 0, norm b, 0, []⟩ (And.intro hci (And.intro ?_ ?_)))))))))
      · refine And.intro (And.intro (Or.inl rfl) (And.intro (Or.inl rfl) (And.intro (Or.inl rfl) trivial))) (And.intro (And.intro (Or.inr (Or.inr (Or.inr ⟨32, .part, norm a, rfl, rfl⟩))) trivial) (And.intro (And.intro (Or.inr (Or.inr (Or.inr ⟨36, .part, norm b, rfl, rfl⟩))) trivial) (And.intro (And.intro (Or.inl rfl) (And.intro (Or.inl rfl) (And.intro (Or.inl rfl) trivial))) trivial)))
      · intro s hs
        refine Or.inr (Exists.intro [] (Exists.intro 67 (Exists.intro [.pt 1000 0] (Exists.intro [(1000, [.vs 1001 .part s.x s.kx])] (Exists.intro (pv (hd s.x s.kx)) (Exists.intro [(1000, [.vs 1001 .part s.x s.kx])] (Exists.intro [(1000, 34), (1001, 32)] (And.intro (spec67 s.x s.kx hs.hx) ?_))))))))
        refine (And.intro rfl (And.intro rfl (And.intro rfl (And.intro rfl (And.intro rfl ?_)))))
        refine And.intro (fun h0 => ?_) (fun h0 => ?_)
        · have hx0 := hs.hdx0 (by simpa using h0)
          refine Or.inr (Exists.intro [] (Exists.intro 67 (Exists.intro [.pt 1000 0] (Exists.intro [(1000, [.vs 1001 .part s.y s.ky])] (Exists.intro (pv (hd s.y s.ky)) (Exists.intro [(1000, [.vs 1001 .part s.y s.ky])] (Exists.intro [(1000, 38), (1001, 36)] (And.intro (spec67 s.y s.ky hs.hy) ?_))))))))
          refine (And.intro rfl (And.intro rfl (And.intro rfl (And.intro rfl (And.intro rfl ?_)))))
          refine And.intro (fun h1 => ?_) (fun h1 => ?_)
          · have hy1 := hs.hdy (by simpa using h1)
            have hne : s.kx < s.x.length ∨ s.ky < s.y.length := Or.inr hy1
            refine Or.inr (Exists.intro [] (Exists.intro 67 (Exists.intro [.pt 1000 0] (Exists.intro [(1000, [.vs 1001 .part s.x s.kx])] (Exists.intro (pv (hd s.x s.kx)) (Exists.intro [(1000, [.vs 1001 .part s.x s.kx])] (Exists.intro [(1000, 34), (1001, 32)] (And.intro (spec67 s.x s.kx hs.hx) ?_))))))))
            refine (And.intro rfl (And.intro rfl (And.intro rfl (And.intro rfl (And.intro rfl ?_)))))
            refine Or.inr (Exists.intro [] (Exists.intro 67 (Exists.intro [.pt 1000 0] (Exists.intro [(1000, [.vs 1001 .part s.y s.ky])] (Exists.intro (pv (hd s.y s.ky)) (Exists.intro [(1000, [.vs 1001 .part s.y s.ky])] (Exists.intro [(1000, 38), (1001, 36)] (And.intro (spec67 s.y s.ky hs.hy) ?_))))))))
            refine (And.intro rfl (And.intro rfl (And.intro rfl (And.intro rfl (And.intro rfl ?_)))))
            refine And.intro (fun hq => ?_) (fun hq => ?_)
            · have hq3 : (hd s.y s.ky).kind = 3 := by simpa using hq
              have hk := hs.hdy (by rw [hq3]; decide)
              obtain ⟨k1, k2, k3, k4⟩ := hs.heady hk
              have he := hd_some hk
              have k5 := ex_length k1
              have k6 := k1.n0
              refine Or.inl (Exists.intro _ (And.intro (spec70 (hd s.y s.ky) (by rw [he]; omega) (by rw [he]; omega) (by rw [he]; omega)) ?_))
              refine Or.inr (Exists.intro [] (Exists.intro 69 (Exists.intro [.pt 1000 0, .i .i64 (((ex (s.y.getD s.ky default)).length : Nat) : Int)] (Exists.intro [(1000, [.vs 1001 .part s.y s.ky])] (Exists.intro (pv (tkP (s.y.getD s.ky default) (ex (s.y.getD s.ky default)).length)) (Exists.intro [(1000, [.vs 1001 .part (tkL s.y s.ky (ex (s.y.getD s.ky default)).length) (tkK s.y s.ky (ex (s.y.getD s.ky default)).length)])] (Exists.intro [(1000, 38), (1001, 36)] (And.intro (spec69 s.y s.ky (ex (s.y.getD s.ky default)).length hk (by omega) (by omega) (by omega)) ?_))))))))
              refine And.intro rfl (And.intro (by show [AV.pt 38 0, AV.i .i64 (((ex (s.y.getD s.ky default)).length : Nat) : Int)] = [AV.pt 38 0, AV.i .i64 ((hd s.y s.ky).n + (hd s.y s.ky).s.length)]; rw [he, k5]) (And.intro rfl (And.intro rfl (And.intro rfl ?_))))
              obtain ⟨t1, t2, t3⟩ := tk_all (l := s.y) (k := s.ky) (n := (ex (s.y.getD s.ky default)).length) k1 rfl
              refine Or.inr (Exists.intro [] (Exists.intro 68 (Exists.intro [.pt 1000 0, pv (tkP (s.y.getD s.ky default) (ex (s.y.getD s.ky default)).length)] (Exists.intro [(1000, bcells s.bld)] (Exists.intro (.tup []) (Exists.intro [(1000, bcells (add s.bld (tkP (s.y.getD s.ky default) (ex (s.y.getD s.ky default)).length)))] (Exists.intro [(1000, 15), (1001, 20)] (And.intro (spec68 _ _ (hs.bd hT) (by rw [t1]; exact k1) (by rw [t1]; omega) (by rw [t1]; omega)) ?_))))))))
              refine And.intro rfl (And.intro (rfl) (And.intro rfl (And.intro rfl (And.intro rfl ?_))))
              have hstep := hs.step1 hk (by rw [← he]; exact hq3)
              have hbld := s.bld_add k1 s.x s.kx s.y (s.ky+1)
              refine Exists.intro [] (Exists.intro ⟨s.x, s.kx, s.y, (s.ky+1), s.pre ++ ex (s.y.getD s.ky default)⟩ (And.intro hstep.1 (And.intro ?_ hstep.2)))
              refine And.intro (And.intro (Or.inl rfl) (And.intro (Or.inl rfl) (And.intro (Or.inl rfl) trivial))) (And.intro (And.intro (Or.inl ?_) trivial) (And.intro (And.intro (Or.inl ?_) trivial) (And.intro (And.intro (Or.inl ?_) (And.intro (Or.inl ?_) (And.intro (Or.inl ?_) trivial))) trivial)))
              · rfl
              · rw [t2, t3]
              · rw [t1, hbld]
              · rw [t1, hbld]
              · rw [t1, hbld]
            · have hq3 : (hd s.y s.ky).kind ≠ 3 := by simpa using hq
              refine And.intro (fun hp => ?_) (fun hp => ?_)
              · have hp2 : (hd s.x s.kx).kind = 2 := by simpa using hp
                have hk := hs.hdx (by rw [hp2]; decide)
                obtain ⟨k1, k2, k3, k4⟩ := hs.headx hk
                have he := hd_some hk
                have k5 := ex_length k1
                have k6 := k1.n0
                refine Or.inl (Exists.intro _ (And.intro (spec70 (hd s.x s.kx) (by rw [he]; omega) (by rw [he]; omega) (by rw [he]; omega)) ?_))
                refine Or.inr (Exists.intro [] (Exists.intro 69 (Exists.intro [.pt 1000 0, .i .i64 (((ex (s.x.getD s.kx default)).length : Nat) : Int)] (Exists.intro [(1000, [.vs 1001 .part s.x s.kx])] (Exists.intro (pv (tkP (s.x.getD s.kx default) (ex (s.x.getD s.kx default)).length)) (Exists.intro [(1000, [.vs 1001 .part (tkL s.x s.kx (ex (s.x.getD s.kx default)).length) (tkK s.x s.kx (ex (s.x.getD s.kx default)).length)])] (Exists.intro [(1000, 34), (1001, 32)] (And.intro (spec69 s.x s.kx (ex (s.x.getD s.kx default)).length hk (by omega) (by omega) (by omega)) ?_))))))))
                refine And.intro rfl (And.intro (by show [AV.pt 34 0, AV.i .i64 (((ex (s.x.getD s.kx default)).length : Nat) : Int)] = [AV.pt 34 0, AV.i .i64 ((hd s.x s.kx).n + (hd s.x s.kx).s.length)]; rw [he, k5]) (And.intro rfl (And.intro rfl (And.intro rfl ?_))))
                obtain ⟨t1, t2, t3⟩ := tk_all (l := s.x) (k := s.kx) (n := (ex (s.x.getD s.kx default)).length) k1 rfl
                refine Or.inr (Exists.intro [] (Exists.intro 68 (Exists.intro [.pt 1000 0, pv (tkP (s.x.getD s.kx default) (ex (s.x.getD s.kx default)).length)] (Exists.intro [(1000, bcells s.bld)] (Exists.intro (.tup []) (Exists.intro [(1000, bcells (add s.bld (tkP (s.x.getD s.kx default) (ex (s.x.getD s.kx default)).length)))] (Exists.intro [(1000, 15), (1001, 20)] (And.intro (spec68 _ _ (hs.bd hT) (by rw [t1]; exact k1) (by rw [t1]; omega) (by rw [t1]; omega)) ?_))))))))
                refine And.intro rfl (And.intro (rfl) (And.intro rfl (And.intro rfl (And.intro rfl ?_))))
                have hstep := hs.step2 hk (by rw [← he]; exact hp2) (fun h => by rw [← hd_some h]; exact hq3)
                have hbld := s.bld_add k1 s.x (s.kx+1) s.y s.ky
                refine Exists.intro [] (Exists.intro ⟨s.x, (s.kx+1), s.y, s.ky, s.pre ++ ex (s.x.getD s.kx default)⟩ (And.intro hstep.1 (And.intro ?_ hstep.2)))
                refine And.intro (And.intro (Or.inl rfl) (And.intro (Or.inl rfl) (And.intro (Or.inl rfl) trivial))) (And.intro (And.intro (Or.inl ?_) trivial) (And.intro (And.intro (Or.inl ?_) trivial) (And.intro (And.intro (Or.inl ?_) (And.intro (Or.inl ?_) (And.intro (Or.inl ?_) trivial))) trivial)))
                · rw [t2, t3]
                · rfl
                · rw [t1, hbld]
                · rw [t1, hbld]
                · rw [t1, hbld]
              · have hp2 : (hd s.x s.kx).kind ≠ 2 := by simpa using hp
                obtain ⟨hkx, hky⟩ := hs.both hne (fun h => by rw [← hd_some h]; exact hp2) (fun h => by rw [← hd_some h]; exact hq3)
                obtain ⟨x1, x2, x3, x4⟩ := hs.headx hkx
                obtain ⟨y1, y2, y3, y4⟩ := hs.heady hky
                have hex := hd_some hkx
                have hey := hd_some hky
                have x5 := ex_length x1
                have y5 := ex_length y1
                have x6 := x1.n0
                have y6 := y1.n0
                refine Exists.intro [.blk [0, 1, 2, 3, 4, 5]] (And.intro (by kernel_rfl) ?_)
                refine Exists.intro _ (And.intro (spec70 (hd s.x s.kx) (by rw [hex]; omega) (by rw [hex]; omega) (by rw [hex]; omega)) ?_)
                refine Exists.intro _ (And.intro (spec70 (hd s.y s.ky) (by rw [hey]; omega) (by rw [hey]; omega) (by rw [hey]; omega)) ?_)
                have hmin : (((min (ex (s.x.getD s.kx default)).length (ex (s.y.getD s.ky default)).length) : Nat) : Int) = (if (hd s.y s.ky).n + (hd s.y s.ky).s.length < (hd s.x s.kx).n + (hd s.x s.kx).s.length then (hd s.y s.ky).n + (hd s.y s.ky).s.length else (hd s.x s.kx).n + (hd s.x s.kx).s.length) := by rw [hex, hey, ← x5, ← y5]; split <;> omega
                have tx := tk_ok hkx hs.okx (n := (min (ex (s.x.getD s.kx default)).length (ex (s.y.getD s.ky default)).length)) (by omega) (by omega)
                have ty := tk_ok hky hs.oky (n := (min (ex (s.x.getD s.kx default)).length (ex (s.y.getD s.ky default)).length)) (by omega) (by omega)
                have hstep := hs.step3 hkx hky (by rw [← hex]; exact hp2) (by rw [← hey]; exact hq3) (n := (min (ex (s.x.getD s.kx default)).length (ex (s.y.getD s.ky default)).length)) (by omega) (by omega) (by omega)
                refine Or.inr (Exists.intro [] (Exists.intro 69 (Exists.intro [.pt 1000 0, .i .i64 (((min (ex (s.x.getD s.kx default)).length (ex (s.y.getD s.ky default)).length) : Nat) : Int)] (Exists.intro [(1000, [.vs 1001 .part s.x s.kx])] (Exists.intro (pv (tkP (s.x.getD s.kx default) (min (ex (s.x.getD s.kx default)).length (ex (s.y.getD s.ky default)).length))) (Exists.intro [(1000, [.vs 1001 .part (tkL s.x s.kx (min (ex (s.x.getD s.kx default)).length (ex (s.y.getD s.ky default)).length)) (tkK s.x s.kx (min (ex (s.x.getD s.kx default)).length (ex (s.y.getD s.ky default)).length))])] (Exists.intro [(1000, 34), (1001, 32)] (And.intro (spec69 s.x s.kx (min (ex (s.x.getD s.kx default)).length (ex (s.y.getD s.ky default)).length) hkx (by omega) (by omega) (by omega)) ?_))))))))
                refine And.intro rfl (And.intro (by show [AV.pt 34 0, AV.i .i64 (((min (ex (s.x.getD s.kx default)).length (ex (s.y.getD s.ky default)).length) : Nat) : Int)] = [AV.pt 34 0, AV.i .i64 (if (hd s.y s.ky).n + (hd s.y s.ky).s.length < (hd s.x s.kx).n + (hd s.x s.kx).s.length then (hd s.y s.ky).n + (hd s.y s.ky).s.length else (hd s.x s.kx).n + (hd s.x s.kx).s.length)]; rw [← hmin]) (And.intro rfl (And.intro rfl (And.intro rfl ?_))))
                refine Or.inr (Exists.intro [] (Exists.intro 69 (Exists.intro [.pt 1000 0, .i .i64 (((min (ex (s.x.getD s.kx default)).length (ex (s.y.getD s.ky default)).length) : Nat) : Int)] (Exists.intro [(1000, [.vs 1001 .part s.y s.ky])] (Exists.intro (pv (tkP (s.y.getD s.ky default) (min (ex (s.x.getD s.kx default)).length (ex (s.y.getD s.ky default)).length))) (Exists.intro [(1000, [.vs 1001 .part (tkL s.y s.ky (min (ex (s.x.getD s.kx default)).length (ex (s.y.getD s.ky default)).length)) (tkK s.y s.ky (min (ex (s.x.getD s.kx default)).length (ex (s.y.getD s.ky default)).length))])] (Exists.intro [(1000, 38), (1001, 36)] (And.intro (spec69 s.y s.ky (min (ex (s.x.getD s.kx default)).length (ex (s.y.getD s.ky default)).length) hky (by omega) (by omega) (by omega)) ?_))))))))
                refine And.intro rfl (And.intro (by show [AV.pt 38 0, AV.i .i64 (((min (ex (s.x.getD s.kx default)).length (ex (s.y.getD s.ky default)).length) : Nat) : Int)] = [AV.pt 38 0, AV.i .i64 (if (hd s.y s.ky).n + (hd s.y s.ky).s.length < (hd s.x s.kx).n + (hd s.x s.kx).s.length then (hd s.y s.ky).n + (hd s.y s.ky).s.length else (hd s.x s.kx).n + (hd s.x s.kx).s.length)]; rw [← hmin]) (And.intro rfl (And.intro rfl (And.intro rfl ?_))))
                have lx := ex_length tx.ok
                have ly := ex_length ty.ok
                have tx6 := tx.ok.n0
                have ty6 := ty.ok.n0
                have tx7 := tx.len
                have ty7 := ty.len
                refine And.intro (fun hk => ?_) (fun hk => ?_)
                · have hk1 : (s.x.getD s.kx default).kind = 1 := by rw [← tx.kind]; simpa using hk
                  refine Or.inr (Exists.intro [] (Exists.intro 68 (Exists.intro [.pt 1000 0, pv (tkP (s.y.getD s.ky default) (min (ex (s.x.getD s.kx default)).length (ex (s.y.getD s.ky default)).length))] (Exists.intro [(1000, bcells s.bld)] (Exists.intro (.tup []) (Exists.intro [(1000, bcells (add s.bld (tkP (s.y.getD s.ky default) (min (ex (s.x.getD s.kx default)).length (ex (s.y.getD s.ky default)).length))))] (Exists.intro [(1000, 15), (1001, 20)] (And.intro (spec68 _ _ (hs.bd hT) ty.ok (by omega) (by omega)) ?_))))))))
                  refine And.intro rfl (And.intro (rfl) (And.intro rfl (And.intro rfl (And.intro rfl ?_))))
                  have hbld : add s.bld (tkP (s.y.getD s.ky default) (min (ex (s.x.getD s.kx default)).length (ex (s.y.getD s.ky default)).length)) = (s.three (min (ex (s.x.getD s.kx default)).length (ex (s.y.getD s.ky default)).length)).bld := by
                    rw [s.bld_add ty.ok [] 0 [] 0]
                    simp only [CS.bld, CS.three]
                    rw [if_pos hk1]
                  refine Exists.intro [] (Exists.intro (s.three (min (ex (s.x.getD s.kx default)).length (ex (s.y.getD s.ky default)).length)) (And.intro hstep.1 (And.intro ?_ hstep.2)))
                  refine And.intro (And.intro (Or.inl rfl) (And.intro (Or.inl rfl) (And.intro (Or.inl rfl) trivial))) (And.intro (And.intro (Or.inl ?_) trivial) (And.intro (And.intro (Or.inl ?_) trivial) (And.intro (And.intro (Or.inl ?_) (And.intro (Or.inl ?_) (And.intro (Or.inl ?_) trivial))) trivial)))
                  · rfl
                  · rfl
                  · rw [hbld]
                  · rw [hbld]
                  · rw [hbld]
                · have hk1 : (s.x.getD s.kx default).kind ≠ 1 := by rw [← tx.kind]; simpa using hk
                  refine And.intro (fun hj => ?_) (fun hj => ?_)
                  · have hj1 : (s.y.getD s.ky default).kind = 1 := by rw [← ty.kind]; simpa using hj
                    refine Or.inr (Exists.intro [] (Exists.intro 68 (Exists.intro [.pt 1000 0, pv (tkP (s.x.getD s.kx default) (min (ex (s.x.getD s.kx default)).length (ex (s.y.getD s.ky default)).length))] (Exists.intro [(1000, bcells s.bld)] (Exists.intro (.tup []) (Exists.intro [(1000, bcells (add s.bld (tkP (s.x.getD s.kx default) (min (ex (s.x.getD s.kx default)).length (ex (s.y.getD s.ky default)).length))))] (Exists.intro [(1000, 15), (1001, 20)] (And.intro (spec68 _ _ (hs.bd hT) tx.ok (by omega) (by omega)) ?_))))))))
                    refine And.intro rfl (And.intro (rfl) (And.intro rfl (And.intro rfl (And.intro rfl ?_))))
                    have hbld : add s.bld (tkP (s.x.getD s.kx default) (min (ex (s.x.getD s.kx default)).length (ex (s.y.getD s.ky default)).length)) = (s.three (min (ex (s.x.getD s.kx default)).length (ex (s.y.getD s.ky default)).length)).bld := by
                      rw [s.bld_add tx.ok [] 0 [] 0]
                      simp only [CS.bld, CS.three]
                      rw [if_neg hk1, if_pos hj1]
                    refine Exists.intro [] (Exists.intro (s.three (min (ex (s.x.getD s.kx default)).length (ex (s.y.getD s.ky default)).length)) (And.intro hstep.1 (And.intro ?_ hstep.2)))
                    refine And.intro (And.intro (Or.inl rfl) (And.intro (Or.inl rfl) (And.intro (Or.inl rfl) trivial))) (And.intro (And.intro (Or.inl ?_) trivial) (And.intro (And.intro (Or.inl ?_) trivial) (And.intro (And.intro (Or.inl ?_) (And.intro (Or.inl ?_) (And.intro (Or.inl ?_) trivial))) trivial)))
                    · rfl
                    · rfl
                    · rw [hbld]
                    · rw [hbld]
                    · rw [hbld]
                  · have hj1 : (s.y.getD s.ky default).kind ≠ 1 := by rw [← ty.kind]; simpa using hj
                    have hbld : s.bld = (s.three (min (ex (s.x.getD s.kx default)).length (ex (s.y.getD s.ky default)).length)).bld := by
                      simp only [CS.bld, CS.three]
                      rw [if_neg hk1, if_neg hj1, List.append_nil]
                    refine Exists.intro [] (Exists.intro (s.three (min (ex (s.x.getD s.kx default)).length (ex (s.y.getD s.ky default)).length)) (And.intro hstep.1 (And.intro ?_ hstep.2)))
                    refine And.intro (And.intro (Or.inl rfl) (And.intro (Or.inl rfl) (And.intro (Or.inl rfl) trivial))) (And.intro (And.intro (Or.inl ?_) trivial) (And.intro (And.intro (Or.inl ?_) trivial) (And.intro (And.intro (Or.inl ?_) (And.intro (Or.inl ?_) (And.intro (Or.inl ?_) trivial))) trivial)))
                    · rfl
                    · rfl
                    · rw [← hbld]
                    · rw [← hbld]
                    · rw [← hbld]
          · have hy0 := hs.hdy0 (by simpa using h1)
            have heq2 := hs.eq
            rw [List.drop_eq_nil_of_le (by have := hs.hx; omega : s.x.length ≤ s.kx), List.drop_eq_nil_of_le (by have := hs.hy; omega : s.y.length ≤ s.ky)] at heq2
            have hpre : s.pre = compT a b := by rw [← heq2]; simp [comp]
            refine Or.inr (Exists.intro [] (Exists.intro 72 (Exists.intro [.pt 1000 0] (Exists.intro [(1000, bcells s.bld)] (Exists.intro (.vec 1001 .part (done s.bld)) (Exists.intro [] (Exists.intro [(1000, 15), (1001, 20)] (And.intro (spec72 _ (hs.bd hT)) ?_))))))))
            refine And.intro rfl (And.intro (rfl) (And.intro rfl (And.intro rfl (And.intro rfl ?_))))
            refine Or.inl (Exists.intro _ (And.intro (spec71 (done s.bld)) ?_))
            have hb2 : s.bld = (compT a b).foldl addP .init := by rw [CS.bld, hpre]
            by_cases hg : (chk (done s.bld)).2.2 = 0
            · rw [if_pos hg]
              show AV.tup [.rd .part (done s.bld), .i .i64 0] = compRes a b
              rw [compRes, if_neg hbo, if_neg (by simpa using heq), ← hb2, if_pos hg]
            · rw [if_neg hg]
              show AV.tup [.nl, .i .i64 2] = compRes a b
              rw [compRes, if_neg hbo, if_neg (by simpa using heq), ← hb2, if_neg hg]
        · have hx1 := hs.hdx (by simpa using h0)
          refine And.intro (fun h1 => ?_) (fun h1 => absurd h1 (by simp))
          have hne : s.kx < s.x.length ∨ s.ky < s.y.length := Or.inl hx1
          refine Or.inr (Exists.intro [] (Exists.intro 67 (Exists.intro [.pt 1000 0] (Exists.intro [(1000, [.vs 1001 .part s.x s.kx])] (Exists.intro (pv (hd s.x s.kx)) (Exists.intro [(1000, [.vs 1001 .part s.x s.kx])] (Exists.intro [(1000, 34), (1001, 32)] (And.intro (spec67 s.x s.kx hs.hx) ?_))))))))
          refine (And.intro rfl (And.intro rfl (And.intro rfl (And.intro rfl (And.intro rfl ?_)))))
          refine Or.inr (Exists.intro [] (Exists.intro 67 (Exists.intro [.pt 1000 0] (Exists.intro [(1000, [.vs 1001 .part s.y s.ky])] (Exists.intro (pv (hd s.y s.ky)) (Exists.intro [(1000, [.vs 1001 .part s.y s.ky])] (Exists.intro [(1000, 38), (1001, 36)] (And.intro (spec67 s.y s.ky hs.hy) ?_))))))))
          refine (And.intro rfl (And.intro rfl (And.intro rfl (And.intro rfl (And.intro rfl ?_)))))
          refine And.intro (fun hq => ?_) (fun hq => ?_)
          · have hq3 : (hd s.y s.ky).kind = 3 := by simpa using hq
            have hk := hs.hdy (by rw [hq3]; decide)
            obtain ⟨k1, k2, k3, k4⟩ := hs.heady hk
            have he := hd_some hk
            have k5 := ex_length k1
            have k6 := k1.n0
            refine Or.inl (Exists.intro _ (And.intro (spec70 (hd s.y s.ky) (by rw [he]; omega) (by rw [he]; omega) (by rw [he]; omega)) ?_))
            refine Or.inr (Exists.intro [] (Exists.intro 69 (Exists.intro [.pt 1000 0, .i .i64 (((ex (s.y.getD s.ky default)).length : Nat) : Int)] (Exists.intro [(1000, [.vs 1001 .part s.y s.ky])] (Exists.intro (pv (tkP (s.y.getD s.ky default) (ex (s.y.getD s.ky default)).length)) (Exists.intro [(1000, [.vs 1001 .part (tkL s.y s.ky (ex (s.y.getD s.ky default)).length) (tkK s.y s.ky (ex (s.y.getD s.ky default)).length)])] (Exists.intro [(1000, 38), (1001, 36)] (And.intro (spec69 s.y s.ky (ex (s.y.getD s.ky default)).length hk (by omega) (by omega) (by omega)) ?_))))))))
            refine And.intro rfl (And.intro (by show [AV.pt 38 0, AV.i .i64 (((ex (s.y.getD s.ky default)).length : Nat) : Int)] = [AV.pt 38 0, AV.i .i64 ((hd s.y s.ky).n + (hd s.y s.ky).s.length)]; rw [he, k5]) (And.intro rfl (And.intro rfl (And.intro rfl ?_))))
            obtain ⟨t1, t2, t3⟩ := tk_all (l := s.y) (k := s.ky) (n := (ex (s.y.getD s.ky default)).length) k1 rfl
            refine Or.inr (Exists.intro [] (Exists.intro 68 (Exists.intro [.pt 1000 0, pv (tkP (s.y.getD s.ky default) (ex (s.y.getD s.ky default)).length)] (Exists.intro [(1000, bcells s.bld)] (Exists.intro (.tup []) (Exists.intro [(1000, bcells (add s.bld (tkP (s.y.getD s.ky default) (ex (s.y.getD s.ky default)).length)))] (Exists.intro [(1000, 15), (1001, 20)] (And.intro (spec68 _ _ (hs.bd hT) (by rw [t1]; exact k1) (by rw [t1]; omega) (by rw [t1]; omega)) ?_))))))))
            refine And.intro rfl (And.intro (rfl) (And.intro rfl (And.intro rfl (And.intro rfl ?_))))
            have hstep := hs.step1 hk (by rw [← he]; exact hq3)
            have hbld := s.bld_add k1 s.x s.kx s.y (s.ky+1)
            refine Exists.intro [] (Exists.intro ⟨s.x, s.kx, s.y, (s.ky+1), s.pre ++ ex (s.y.getD s.ky default)⟩ (And.intro hstep.1 (And.intro ?_ hstep.2)))
            refine And.intro (And.intro (Or.inl rfl) (And.intro (Or.inl rfl) (And.intro (Or.inl rfl) trivial))) (And.intro (And.intro (Or.inl ?_) trivial) (And.intro (And.intro (Or.inl ?_) trivial) (And.intro (And.intro (Or.inl ?_) (And.intro (Or.inl ?_) (And.intro (Or.inl ?_) trivial))) trivial)))
            · rfl
            · rw [t2, t3]
            · rw [t1, hbld]
            · rw [t1, hbld]
            · rw [t1, hbld]
          · have hq3 : (hd s.y s.ky).kind ≠ 3 := by simpa using hq
            refine And.intro (fun hp => ?_) (fun hp => ?_)
            · have hp2 : (hd s.x s.kx).kind = 2 := by simpa using hp
              have hk := hs.hdx (by rw [hp2]; decide)
              obtain ⟨k1, k2, k3, k4⟩ := hs.headx hk
              have he := hd_some hk
              have k5 := ex_length k1
              have k6 := k1.n0
              refine Or.inl (Exists.intro _ (And.intro (spec70 (hd s.x s.kx) (by rw [he]; omega) (by rw [he]; omega) (by rw [he]; omega)) ?_))
              refine Or.inr (Exists.intro [] (Exists.intro 69 (Exists.intro [.pt 1000 0, .i .i64 (((ex (s.x.getD s.kx default)).length : Nat) : Int)] (Exists.intro [(1000, [.vs 1001 .part s.x s.kx])] (Exists.intro (pv (tkP (s.x.getD s.kx default) (ex (s.x.getD s.kx default)).length)) (Exists.intro [(1000, [.vs 1001 .part (tkL s.x s.kx (ex (s.x.getD s.kx default)).length) (tkK s.x s.kx (ex (s.x.getD s.kx default)).length)])] (Exists.intro [(1000, 34), (1001, 32)] (And.intro (spec69 s.x s.kx (ex (s.x.getD s.kx default)).length hk (by omega) (by omega) (by omega)) ?_))))))))
              refine And.intro rfl (And.intro (by show [AV.pt 34 0, AV.i .i64 (((ex (s.x.getD s.kx default)).length : Nat) : Int)] = [AV.pt 34 0, AV.i .i64 ((hd s.x s.kx).n + (hd s.x s.kx).s.length)]; rw [he, k5]) (And.intro rfl (And.intro rfl (And.intro rfl ?_))))
              obtain ⟨t1, t2, t3⟩ := tk_all (l := s.x) (k := s.kx) (n := (ex (s.x.getD s.kx default)).length) k1 rfl
              refine Or.inr (Exists.intro [] (Exists.intro 68 (Exists.intro [.pt 1000 0, pv (tkP (s.x.getD s.kx default) (ex (s.x.getD s.kx default)).length)] (Exists.intro [(1000, bcells s.bld)] (Exists.intro (.tup []) (Exists.intro [(1000, bcells (add s.bld (tkP (s.x.getD s.kx default) (ex (s.x.getD s.kx default)).length)))] (Exists.intro [(1000, 15), (1001, 20)] (And.intro (spec68 _ _ (hs.bd hT) (by rw [t1]; exact k1) (by rw [t1]; omega) (by rw [t1]; omega)) ?_))))))))
              refine And.intro rfl (And.intro (rfl) (And.intro rfl (And.intro rfl (And.intro rfl ?_))))
              have hstep := hs.step2 hk (by rw [← he]; exact hp2) (fun h => by rw [← hd_some h]; exact hq3)
              have hbld := s.bld_add k1 s.x (s.kx+1) s.y s.ky
              refine Exists.intro [] (Exists.intro ⟨s.x, (s.kx+1), s.y, s.ky, s.pre ++ ex (s.x.getD s.kx default)⟩ (And.intro hstep.1 (And.intro ?_ hstep.2)))
              refine And.intro (And.intro (Or.inl rfl) (And.intro (Or.inl rfl) (And.intro (Or.inl rfl) trivial))) (And.intro (And.intro (Or.inl ?_) trivial) (And.intro (And.intro (Or.inl ?_) trivial) (And.intro (And.intro (Or.inl ?_) (And.intro (Or.inl ?_) (And.intro (Or.inl ?_) trivial))) trivial)))
              · rw [t2, t3]
              · rfl
              · rw [t1, hbld]
              · rw [t1, hbld]
              · rw [t1, hbld]
            · have hp2 : (hd s.x s.kx).kind ≠ 2 := by simpa using hp
              obtain ⟨hkx, hky⟩ := hs.both hne (fun h => by rw [← hd_some h]; exact hp2) (fun h => by rw [← hd_some h]; exact hq3)
              obtain ⟨x1, x2, x3, x4⟩ := hs.headx hkx
              obtain ⟨y1, y2, y3, y4⟩ := hs.heady hky
              have hex := hd_some hkx
              have hey := hd_some hky
              have x5 := ex_length x1
              have y5 := ex_length y1
              have x6 := x1.n0
              have y6 := y1.n0
              refine Exists.intro [.blk [0, 1, 2, 3, 4, 5]] (And.intro (by kernel_rfl) ?_)
              refine Exists.intro _ (And.intro (spec70 (hd s.x s.kx) (by rw [hex]; omega) (by rw [hex]; omega) (by rw [hex]; omega)) ?_)
              refine Exists.intro _ (And.intro (spec70 (hd s.y s.ky) (by rw [hey]; omega) (by rw [hey]; omega) (by rw [hey]; omega)) ?_)
              have hmin : (((min (ex (s.x.getD s.kx default)).length (ex (s.y.getD s.ky default)).length) : Nat) : Int) = (if (hd s.y s.ky).n + (hd s.y s.ky).s.length < (hd s.x s.kx).n + (hd s.x s.kx).s.length then (hd s.y s.ky).n + (hd s.y s.ky).s.length else (hd s.x s.kx).n + (hd s.x s.kx).s.length) := by rw [hex, hey, ← x5, ← y5]; split <;> omega
              have tx := tk_ok hkx hs.okx (n := (min (ex (s.x.getD s.kx default)).length (ex (s.y.getD s.ky default)).length)) (by omega) (by omega)
              have ty := tk_ok hky hs.oky (n := (min (ex (s.x.getD s.kx default)).length (ex (s.y.getD s.ky default)).length)) (by omega) (by omega)
              have hstep := hs.step3 hkx hky (by rw [← hex]; exact hp2) (by rw [← hey]; exact hq3) (n := (min (ex (s.x.getD s.kx default)).length (ex (s.y.getD s.ky default)).length)) (by omega) (by omega) (by omega)
              refine Or.inr (Exists.intro [] (Exists.intro 69 (Exists.intro [.pt 1000 0, .i .i64 (((min (ex (s.x.getD s.kx default)).length (ex (s.y.getD s.ky default)).length) : Nat) : Int)] (Exists.intro [(1000, [.vs 1001 .part s.x s.kx])] (Exists.intro (pv (tkP (s.x.getD s.kx default) (min (ex (s.x.getD s.kx default)).length (ex (s.y.getD s.ky default)).length))) (Exists.intro [(1000, [.vs 1001 .part (tkL s.x s.kx (min (ex (s.x.getD s.kx default)).length (ex (s.y.getD s.ky default)).length)) (tkK s.x s.kx (min (ex (s.x.getD s.kx default)).length (ex (s.y.getD s.ky default)).length))])] (Exists.intro [(1000, 34), (1001, 32)] (And.intro (spec69 s.x s.kx (min (ex (s.x.getD s.kx default)).length (ex (s.y.getD s.ky default)).length) hkx (by omega) (by omega) (by omega)) ?_))))))))
              refine And.intro rfl (And.intro (by show [AV.pt 34 0, AV.i .i64 (((min (ex (s.x.getD s.kx default)).length (ex (s.y.getD s.ky default)).length) : Nat) : Int)] = [AV.pt 34 0, AV.i .i64 (if (hd s.y s.ky).n + (hd s.y s.ky).s.length < (hd s.x s.kx).n + (hd s.x s.kx).s.length then (hd s.y s.ky).n + (hd s.y s.ky).s.length else (hd s.x s.kx).n + (hd s.x s.kx).s.length)]; rw [← hmin]) (And.intro rfl (And.intro rfl (And.intro rfl ?_))))
              refine Or.inr (Exists.intro [] (Exists.intro 69 (Exists.intro [.pt 1000 0, .i .i64 (((min (ex (s.x.getD s.kx default)).length (ex (s.y.getD s.ky default)).length) : Nat) : Int)] (Exists.intro [(1000, [.vs 1001 .part s.y s.ky])] (Exists.intro (pv (tkP (s.y.getD s.ky default) (min (ex (s.x.getD s.kx default)).length (ex (s.y.getD s.ky default)).length))) (Exists.intro [(1000, [.vs 1001 .part (tkL s.y s.ky (min (ex (s.x.getD s.kx default)).length (ex (s.y.getD s.ky default)).length)) (tkK s.y s.ky (min (ex (s.x.getD s.kx default)).length (ex (s.y.getD s.ky default)).length))])] (Exists.intro [(1000, 38), (1001, 36)] (And.intro (spec69 s.y s.ky (min (ex (s.x.getD s.kx default)).length (ex (s.y.getD s.ky default)).length) hky (by omega) (by omega) (by omega)) ?_))))))))
              refine And.intro rfl (And.intro (by show [AV.pt 38 0, AV.i .i64 (((min (ex (s.x.getD s.kx default)).length (ex (s.y.getD s.ky default)).length) : Nat) : Int)] = [AV.pt 38 0, AV.i .i64 (if (hd s.y s.ky).n + (hd s.y s.ky).s.length < (hd s.x s.kx).n + (hd s.x s.kx).s.length then (hd s.y s.ky).n + (hd s.y s.ky).s.length else (hd s.x s.kx).n + (hd s.x s.kx).s.length)]; rw [← hmin]) (And.intro rfl (And.intro rfl (And.intro rfl ?_))))
              have lx := ex_length tx.ok
              have ly := ex_length ty.ok
              have tx6 := tx.ok.n0
              have ty6 := ty.ok.n0
              have tx7 := tx.len
              have ty7 := ty.len
              refine And.intro (fun hk => ?_) (fun hk => ?_)
              · have hk1 : (s.x.getD s.kx default).kind = 1 := by rw [← tx.kind]; simpa using hk
                refine Or.inr (Exists.intro [] (Exists.intro 68 (Exists.intro [.pt 1000 0, pv (tkP (s.y.getD s.ky default) (min (ex (s.x.getD s.kx default)).length (ex (s.y.getD s.ky default)).length))] (Exists.intro [(1000, bcells s.bld)] (Exists.intro (.tup []) (Exists.intro [(1000, bcells (add s.bld (tkP (s.y.getD s.ky default) (min (ex (s.x.getD s.kx default)).length (ex (s.y.getD s.ky default)).length))))] (Exists.intro [(1000, 15), (1001, 20)] (And.intro (spec68 _ _ (hs.bd hT) ty.ok (by omega) (by omega)) ?_))))))))
                refine And.intro rfl (And.intro (rfl) (And.intro rfl (And.intro rfl (And.intro rfl ?_))))
                have hbld : add s.bld (tkP (s.y.getD s.ky default) (min (ex (s.x.getD s.kx default)).length (ex (s.y.getD s.ky default)).length)) = (s.three (min (ex (s.x.getD s.kx default)).length (ex (s.y.getD s.ky default)).length)).bld := by
                  rw [s.bld_add ty.ok [] 0 [] 0]
                  simp only [CS.bld, CS.three]
                  rw [if_pos hk1]
                refine Exists.intro [] (Exists.intro (s.three (min (ex (s.x.getD s.kx default)).length (ex (s.y.getD s.ky default)).length)) (And.intro hstep.1 (And.intro ?_ hstep.2)))
                refine And.intro (And.intro (Or.inl rfl) (And.intro (Or.inl rfl) (And.intro (Or.inl rfl) trivial))) (And.intro (And.intro (Or.inl ?_) trivial) (And.intro (And.intro (Or.inl ?_) trivial) (And.intro (And.intro (Or.inl ?_) (And.intro (Or.inl ?_) (And.intro (Or.inl ?_) trivial))) trivial)))
                · rfl
                · rfl
                · rw [hbld]
                · rw [hbld]
                · rw [hbld]
              · have hk1 : (s.x.getD s.kx default).kind ≠ 1 := by rw [← tx.kind]; simpa using hk
                refine And.intro (fun hj => ?_) (fun hj => ?_)
                · have hj1 : (s.y.getD s.ky default).kind = 1 := by rw [← ty.kind]; simpa using hj
                  refine Or.inr (Exists.intro [] (Exists.intro 68 (Exists.intro [.pt 1000 0, pv (tkP (s.x.getD s.kx default) (min (ex (s.x.getD s.kx default)).length (ex (s.y.getD s.ky default)).length))] (Exists.intro [(1000, bcells s.bld)] (Exists.intro (.tup []) (Exists.intro [(1000, bcells (add s.bld (tkP (s.x.getD s.kx default) (min (ex (s.x.getD s.kx default)).length (ex (s.y.getD s.ky default)).length))))] (Exists.intro [(1000, 15), (1001, 20)] (And.intro (spec68 _ _ (hs.bd hT) tx.ok (by omega) (by omega)) ?_))))))))
                  refine And.intro rfl (And.intro (rfl) (And.intro rfl (And.intro rfl (And.intro rfl ?_))))
                  have hbld : add s.bld (tkP (s.x.getD s.kx default) (min (ex (s.x.getD s.kx default)).length (ex (s.y.getD s.ky default)).length)) = (s.three (min (ex (s.x.getD s.kx default)).length (ex (s.y.getD s.ky default)).length)).bld := by
                    rw [s.bld_add tx.ok [] 0 [] 0]
                    simp only [CS.bld, CS.three]
                    rw [if_neg hk1, if_pos hj1]
                  refine Exists.intro [] (Exists.intro (s.three (min (ex (s.x.getD s.kx default)).length (ex (s.y.getD s.ky default)).length)) (And.intro hstep.1 (And.intro ?_ hstep.2)))
                  refine And.intro (And.intro (Or.inl rfl) (And.intro (Or.inl rfl) (And.intro (Or.inl rfl) trivial))) (And.intro (And.intro (Or.inl ?_) trivial) (And.intro (And.intro (Or.inl ?_) trivial) (And.intro (And.intro (Or.inl ?_) (And.intro (Or.inl ?_) (And.intro (Or.inl ?_) trivial))) trivial)))
                  · rfl
                  · rfl
                  · rw [hbld]
                  · rw [hbld]
                  · rw [hbld]
                · have hj1 : (s.y.getD s.ky default).kind ≠ 1 := by rw [← ty.kind]; simpa using hj
                  have hbld : s.bld = (s.three (min (ex (s.x.getD s.kx default)).length (ex (s.y.getD s.ky default)).length)).bld := by
                    simp only [CS.bld, CS.three]
                    rw [if_neg hk1, if_neg hj1, List.append_nil]
                  refine Exists.intro [] (Exists.intro (s.three (min (ex (s.x.getD s.kx default)).length (ex (s.y.getD s.ky default)).length)) (And.intro hstep.1 (And.intro ?_ hstep.2)))
                  refine And.intro (And.intro (Or.inl rfl) (And.intro (Or.inl rfl) (And.intro (Or.inl rfl) trivial))) (And.intro (And.intro (Or.inl ?_) trivial) (And.intro (And.intro (Or.inl ?_) trivial) (And.intro (And.intro (Or.inl ?_) (And.intro (Or.inl ?_) (And.intro (Or.inl ?_) trivial))) trivial)))
                  · rfl
                  · rfl
                  · rw [← hbld]
                  · rw [← hbld]
                  · rw [← hbld]
theorem spec16 (a b : List Part) : PSpec Try.prog 16 [.rd .part a, .rd .part b] (compRes a b) :=
  pspec_of_vc Γ_good Try.func16 rfl Try.call16 Try.results16 Try.ntmps16 (Nat.le_of_ble_eq_true rfl) (walk16 a b)
end Go.Proofs.Ytjlbaagnoppfgaa
