/-
  A part of the proof that 'typecaselaw.SpliceTransforms' returns true, whatever the input: Transform. No conditions.
-/
import Derived.Test.YtjlbaagnoppfgaaSplR
namespace Go.Proofs.Ytjlbaagnoppfgaa
open Go Go.SX Go.Spl
set_option maxRecDepth 100000
set_option maxHeartbeats 0
def trT (a b : List Part) : List Prim × List Prim := tr (exs (norm a)) (exs (norm b))
def transRes (a b : List Part) : AV :=
  if both1 a b ≠ 0 then .tup [.nl, .nl, .i .i64 (both1 a b)]
  else if sumOv b ≠ sumOv a then .tup [.nl, .nl, .i .i64 1]
  else if (chk (done ((trT a b).1.foldl addP .init))).2.2 = 0 ∧ (chk (done ((trT a b).2.foldl addP .init))).2.2 = 0 then .tup [.rd .part (done ((trT a b).1.foldl addP .init)), .rd .part (done ((trT a b).2.foldl addP .init)), .i .i64 0]
  else .tup [.nl, .nl, .i .i64 2]
theorem transRes_ok {a b : List Part} (h1 : ¬ both1 a b ≠ 0) (h2 : sumOv b = sumOv a) : transRes a b =
    if (chk (done ((trT a b).1.foldl addP .init))).2.2 = 0 ∧ (chk (done ((trT a b).2.foldl addP .init))).2.2 = 0 then .tup [.rd .part (done ((trT a b).1.foldl addP .init)), .rd .part (done ((trT a b).2.foldl addP .init)), .i .i64 0]
    else .tup [.nl, .nl, .i .i64 2] := by
  rw [transRes, if_neg h1, if_neg (by simpa using h2)]
def tst (s : TS) : St := ⟨[(7, .pt 34 0), (8, .pt 38 0), (16, .pt 16 0), (17, .pt 17 0)],
  [(34, [.vs 32 .part s.x s.kx]), (38, [.vs 36 .part s.y s.ky]), (16, [.vec 24 .part s.bl.out, .i .i64 s.bl.cut, .s s.bl.put]), (17, [.vec 25 .part s.br.out, .i .i64 s.br.cut, .s s.br.put])]⟩
theorem walk28 (a b : List Part) : vc Try.prog Γ 126 [0, 1, 4, 5, 6, 7, 8, 9, 10, 13, 16, 17, 18, 19, 20, 21, 22, 23, 32, 48, 58, 65, 77, 100, 105, 123, 34, 38, 36, 24, 25] (Try.f28.body.getD .skip) (postK Γ [.tmp 4, .tmp 5, .tmp 6] (fun v => v = transRes a b)) ⟨argSlots 0 [.rd .part a, .rd .part b], []⟩ := by
  by_cases hbo : both1 a b ≠ 0
  · refine Or.inl (Exists.intro _ (And.intro (spec65f a b hbo) ?_))
    refine And.intro (fun h => ?_) (fun h => absurd hbo (by simpa using h))
    show AV.tup [.nl, .nl, .i .i64 (both1 a b)] = transRes a b
    rw [transRes, if_pos hbo]
  · have ha : (chk a).2.2 = 0 := by unfold both1 at hbo; by_cases h : (chk a).2.2 = 0; exact h; rw [if_pos h] at hbo; exact absurd h hbo
    have hb : (chk b).2.2 = 0 := by unfold both1 at hbo; rw [if_neg (by simpa using ha)] at hbo; simpa using hbo
    obtain ⟨ha1, ha2, ha3, _, _⟩ := chk_inv ha
    obtain ⟨hb1, hb2, hb3, _, _⟩ := chk_inv hb
    refine Or.inr (Exists.intro [] (Exists.intro 65 (Exists.intro [.rd .part a, .rd .part b] (Exists.intro [] (Exists.intro (.tup [.pt 34 0, .pt 38 0, .i .i64 0]) (Exists.intro [(34, [.vec 32 .part (norm a)]), (38, [.vec 36 .part (norm b)])] (Exists.intro [] (And.intro (spec65 a b ha hb) ?_))))))))
    refine And.intro rfl (And.intro rfl (And.intro rfl (And.intro rfl ?_)))
    refine And.intro (fun h => absurd h (by simp)) (fun _ => ?_)
    refine Or.inl (Exists.intro (resChk (chk a)) (And.intro (spec66 a) ?_))
    refine Or.inl (Exists.intro (resChk (chk b)) (And.intro (spec66 b) ?_))
    rw [ha3, hb3]
    refine And.intro (fun h => ?_) (fun h => ?_)
    · have hne : sumOv b ≠ sumOv a := by simpa using h
      show AV.tup [.nl, .nl, .i .i64 1] = transRes a b
      rw [transRes, if_neg hbo, if_pos hne]
    · have hab : sumOv b = sumOv a := by simpa using h
      have hti := init_ti ha2 hb2 ha1 hb1 hab
      have h1 := tr_len (exs (norm a)) (exs (norm b))
      have h2 := norm_len ha2 ha1
      have h3 := norm_len hb2 hb1
      have hTl : (trT a b).1.length ≤ 30000000 := by show (tr (exs (norm a)) (exs (norm b))).1.length ≤ _; omega
      have hTr : (trT a b).2.length ≤ 30000000 := by show (tr (exs (norm a)) (exs (norm b))).2.length ≤ _; omega
      refine Exists.intro [] (Exists.intro [(16, 0, 24, .part), (17, 0, 25, .part)] (Exists.intro [] (Exists.intro TS (Exists.intro (TI (trT a b)) (Exists.intro tst (Exists.intro TS.mu (Exists.intro ⟨norm a, 0, norm b, 0, [], []⟩ (And.intro hti (And.intro ?_ ?_)))))))))
      · refine And.intro (And.intro (Or.inl rfl) (And.intro (Or.inl rfl) (And.intro (Or.inl rfl) (And.intro (Or.inl rfl) trivial)))) (And.intro (And.intro (Or.inr (Or.inr (Or.inr ⟨32, .part, norm a, rfl, rfl⟩))) trivial) (And.intro (And.intro (Or.inr (Or.inr (Or.inr ⟨36, .part, norm b, rfl, rfl⟩))) trivial) (And.intro (And.intro (Or.inl rfl) (And.intro (Or.inl rfl) (And.intro (Or.inl rfl) trivial))) (And.intro (And.intro (Or.inl rfl) (And.intro (Or.inl rfl) (And.intro (Or.inl rfl) trivial))) trivial))))
      · intro s hs
        refine Or.inr (Exists.intro [] (Exists.intro 67 (Exists.intro [.pt 1000 0] (Exists.intro [(1000, [.vs 1001 .part s.x s.kx])] (Exists.intro (pv (hd s.x s.kx)) (Exists.intro [(1000, [.vs 1001 .part s.x s.kx])] (Exists.intro [(1000, 34), (1001, 32)] (And.intro (spec67 s.x s.kx hs.hx) ?_))))))))
        refine And.intro rfl (And.intro (rfl) (And.intro rfl (And.intro rfl (And.intro rfl ?_))))
        refine And.intro (fun h0 => ?_) (fun h0 => ?_)
        · have hx0 := hs.hdx0 (by simpa using h0)
          refine Or.inr (Exists.intro [] (Exists.intro 67 (Exists.intro [.pt 1000 0] (Exists.intro [(1000, [.vs 1001 .part s.y s.ky])] (Exists.intro (pv (hd s.y s.ky)) (Exists.intro [(1000, [.vs 1001 .part s.y s.ky])] (Exists.intro [(1000, 38), (1001, 36)] (And.intro (spec67 s.y s.ky hs.hy) ?_))))))))
          refine And.intro rfl (And.intro (rfl) (And.intro rfl (And.intro rfl (And.intro rfl ?_))))
          refine And.intro (fun h1 => ?_) (fun h1 => ?_)
          · have hy1 := hs.hdy (by simpa using h1)
            have hne : s.kx < s.x.length ∨ s.ky < s.y.length := Or.inr hy1
            refine Or.inr (Exists.intro [] (Exists.intro 67 (Exists.intro [.pt 1000 0] (Exists.intro [(1000, [.vs 1001 .part s.x s.kx])] (Exists.intro (pv (hd s.x s.kx)) (Exists.intro [(1000, [.vs 1001 .part s.x s.kx])] (Exists.intro [(1000, 34), (1001, 32)] (And.intro (spec67 s.x s.kx hs.hx) ?_))))))))
            refine And.intro rfl (And.intro (rfl) (And.intro rfl (And.intro rfl (And.intro rfl ?_))))
            refine Or.inr (Exists.intro [] (Exists.intro 67 (Exists.intro [.pt 1000 0] (Exists.intro [(1000, [.vs 1001 .part s.y s.ky])] (Exists.intro (pv (hd s.y s.ky)) (Exists.intro [(1000, [.vs 1001 .part s.y s.ky])] (Exists.intro [(1000, 38), (1001, 36)] (And.intro (spec67 s.y s.ky hs.hy) ?_))))))))
            refine And.intro rfl (And.intro (rfl) (And.intro rfl (And.intro rfl (And.intro rfl ?_))))
            refine And.intro (fun hq => ?_) (fun hq => ?_)
            · have hq3 : (hd s.x s.kx).kind = 3 := by simpa using hq
              have hk := hs.hdx (by rw [hq3]; decide)
              obtain ⟨k1, k2, k3, k4⟩ := hs.headx hk
              have he := hd_some hk
              have k5 := ex_length k1
              have k6 := k1.n0
              have kz : (s.x.getD s.kx default).n = 0 := k1.n3 (by rw [← he]; exact hq3)
              refine Or.inl (Exists.intro _ (And.intro (spec70 (hd s.x s.kx) (by rw [he]; omega) (by rw [he]; omega) (by rw [he]; omega)) ?_))
              refine Or.inr (Exists.intro [] (Exists.intro 69 (Exists.intro [.pt 1000 0, .i .i64 (((ex (s.x.getD s.kx default)).length : Nat) : Int)] (Exists.intro [(1000, [.vs 1001 .part s.x s.kx])] (Exists.intro (pv (tkP (s.x.getD s.kx default) (ex (s.x.getD s.kx default)).length)) (Exists.intro [(1000, [.vs 1001 .part (tkL s.x s.kx (ex (s.x.getD s.kx default)).length) (tkK s.x s.kx (ex (s.x.getD s.kx default)).length)])] (Exists.intro [(1000, 34), (1001, 32)] (And.intro (spec69 s.x s.kx (ex (s.x.getD s.kx default)).length hk (by omega) (by omega) (by omega)) ?_))))))))
              refine And.intro rfl (And.intro (by show [AV.pt 34 0, AV.i .i64 (((ex (s.x.getD s.kx default)).length : Nat) : Int)] = [AV.pt 34 0, AV.i .i64 ((hd s.x s.kx).n + (hd s.x s.kx).s.length)]; rw [he, k5]) (And.intro rfl (And.intro rfl (And.intro rfl ?_))))
              obtain ⟨t1, t2, t3⟩ := tk_all (l := s.x) (k := s.kx) (n := (ex (s.x.getD s.kx default)).length) k1 rfl
              refine Or.inr (Exists.intro [] (Exists.intro 68 (Exists.intro [.pt 1000 0, pv (tkP (s.x.getD s.kx default) (ex (s.x.getD s.kx default)).length)] (Exists.intro [(1000, bcells s.bl)] (Exists.intro (.tup []) (Exists.intro [(1000, bcells (add s.bl (tkP (s.x.getD s.kx default) (ex (s.x.getD s.kx default)).length)))] (Exists.intro [(1000, 16), (1001, 24)] (And.intro (spec68 _ _ (hs.bdl hTl) (by rw [t1]; exact k1) (by rw [t1]; omega) (by rw [t1]; omega)) ?_))))))))
              refine And.intro rfl (And.intro (rfl) (And.intro rfl (And.intro rfl (And.intro rfl ?_))))
              refine Or.inl (Exists.intro _ (And.intro (spec70 (hd s.x s.kx) (by rw [he]; omega) (by rw [he]; omega) (by rw [he]; omega)) ?_))
              have okK : Ok ⟨1, (hd s.x s.kx).n + (hd s.x s.kx).s.length, []⟩ := ⟨Or.inl rfl, by show (0 : Int) ≤ (hd s.x s.kx).n + (hd s.x s.kx).s.length; rw [he]; omega, fun _ => rfl, fun h => absurd h (by simp)⟩
              refine Or.inr (Exists.intro [] (Exists.intro 68 (Exists.intro [.pt 1000 0, pv ⟨1, (hd s.x s.kx).n + (hd s.x s.kx).s.length, []⟩] (Exists.intro [(1000, bcells s.br)] (Exists.intro (.tup []) (Exists.intro [(1000, bcells (add s.br ⟨1, (hd s.x s.kx).n + (hd s.x s.kx).s.length, []⟩))] (Exists.intro [(1000, 17), (1001, 25)] (And.intro (spec68 _ _ (hs.bdr hTr) okK (by show (hd s.x s.kx).n + (hd s.x s.kx).s.length ≤ 100000000; rw [he]; omega) (by simp)) ?_))))))))
              refine And.intro rfl (And.intro (rfl) (And.intro rfl (And.intro rfl (And.intro rfl ?_))))
              have hstep := hs.step1 hk (by rw [← he]; exact hq3)
              have hb1 := bl_add s.preL k1
              have hb2 : add s.br ⟨1, (hd s.x s.kx).n + (hd s.x s.kx).s.length, []⟩ = (s.preR ++ List.replicate (s.x.getD s.kx default).s.length Prim.keep).foldl addP .init := by
                have := bl_add s.preR okK
                rw [show s.br = s.preR.foldl addP .init from rfl, this]
                congr 2
                show List.replicate ((hd s.x s.kx).n + (hd s.x s.kx).s.length).toNat Prim.keep = _
                rw [he, kz]
                congr 1
                omega
              refine Exists.intro [] (Exists.intro ⟨s.x, s.kx + 1, s.y, s.ky, s.preL ++ ex (s.x.getD s.kx default), s.preR ++ List.replicate (s.x.getD s.kx default).s.length Prim.keep⟩ (And.intro hstep.1 (And.intro ?_ hstep.2)))
              refine And.intro (And.intro (Or.inl rfl) (And.intro (Or.inl rfl) (And.intro (Or.inl rfl) (And.intro (Or.inl rfl) trivial)))) (And.intro (And.intro (Or.inl ?_) trivial) (And.intro (And.intro (Or.inl ?_) trivial) (And.intro (And.intro (Or.inl ?_) (And.intro (Or.inl ?_) (And.intro (Or.inl ?_) trivial))) (And.intro (And.intro (Or.inl ?_) (And.intro (Or.inl ?_) (And.intro (Or.inl ?_) trivial))) trivial))))
              · rw [t2, t3]
              · rfl
              · first | (rw [t1]; show AV.vec _ .part (add s.bl (s.x.getD s.kx default)).out = _; rw [show s.bl = s.preL.foldl addP .init from rfl, hb1]; rfl) | (rw [t1]; show AV.i .i64 (add s.bl (s.x.getD s.kx default)).cut = _; rw [show s.bl = s.preL.foldl addP .init from rfl, hb1]; rfl) | (rw [t1]; show AV.s (add s.bl (s.x.getD s.kx default)).put = _; rw [show s.bl = s.preL.foldl addP .init from rfl, hb1]; rfl)
              · first | (rw [t1]; show AV.vec _ .part (add s.bl (s.x.getD s.kx default)).out = _; rw [show s.bl = s.preL.foldl addP .init from rfl, hb1]; rfl) | (rw [t1]; show AV.i .i64 (add s.bl (s.x.getD s.kx default)).cut = _; rw [show s.bl = s.preL.foldl addP .init from rfl, hb1]; rfl) | (rw [t1]; show AV.s (add s.bl (s.x.getD s.kx default)).put = _; rw [show s.bl = s.preL.foldl addP .init from rfl, hb1]; rfl)
              · first | (rw [t1]; show AV.vec _ .part (add s.bl (s.x.getD s.kx default)).out = _; rw [show s.bl = s.preL.foldl addP .init from rfl, hb1]; rfl) | (rw [t1]; show AV.i .i64 (add s.bl (s.x.getD s.kx default)).cut = _; rw [show s.bl = s.preL.foldl addP .init from rfl, hb1]; rfl) | (rw [t1]; show AV.s (add s.bl (s.x.getD s.kx default)).put = _; rw [show s.bl = s.preL.foldl addP .init from rfl, hb1]; rfl)
              · first | (show AV.vec _ .part (add s.br ⟨1, (hd s.x s.kx).n + (hd s.x s.kx).s.length, []⟩).out = _; rw [hb2]; rfl) | (show AV.i .i64 (add s.br ⟨1, (hd s.x s.kx).n + (hd s.x s.kx).s.length, []⟩).cut = _; rw [hb2]; rfl) | (show AV.s (add s.br ⟨1, (hd s.x s.kx).n + (hd s.x s.kx).s.length, []⟩).put = _; rw [hb2]; rfl)
              · first | (show AV.vec _ .part (add s.br ⟨1, (hd s.x s.kx).n + (hd s.x s.kx).s.length, []⟩).out = _; rw [hb2]; rfl) | (show AV.i .i64 (add s.br ⟨1, (hd s.x s.kx).n + (hd s.x s.kx).s.length, []⟩).cut = _; rw [hb2]; rfl) | (show AV.s (add s.br ⟨1, (hd s.x s.kx).n + (hd s.x s.kx).s.length, []⟩).put = _; rw [hb2]; rfl)
              · first | (show AV.vec _ .part (add s.br ⟨1, (hd s.x s.kx).n + (hd s.x s.kx).s.length, []⟩).out = _; rw [hb2]; rfl) | (show AV.i .i64 (add s.br ⟨1, (hd s.x s.kx).n + (hd s.x s.kx).s.length, []⟩).cut = _; rw [hb2]; rfl) | (show AV.s (add s.br ⟨1, (hd s.x s.kx).n + (hd s.x s.kx).s.length, []⟩).put = _; rw [hb2]; rfl)
            · have hp3 : (hd s.x s.kx).kind ≠ 3 := by simpa using hq
              refine And.intro (fun hp => ?_) (fun hp => ?_)
              · have hq3 : (hd s.y s.ky).kind = 3 := by simpa using hp
                have hk := hs.hdy (by rw [hq3]; decide)
                obtain ⟨k1, k2, k3, k4⟩ := hs.heady hk
                have he := hd_some hk
                have k5 := ex_length k1
                have k6 := k1.n0
                have kz : (s.y.getD s.ky default).n = 0 := k1.n3 (by rw [← he]; exact hq3)
                refine Or.inl (Exists.intro _ (And.intro (spec70 (hd s.y s.ky) (by rw [he]; omega) (by rw [he]; omega) (by rw [he]; omega)) ?_))
                refine Or.inr (Exists.intro [] (Exists.intro 69 (Exists.intro [.pt 1000 0, .i .i64 (((ex (s.y.getD s.ky default)).length : Nat) : Int)] (Exists.intro [(1000, [.vs 1001 .part s.y s.ky])] (Exists.intro (pv (tkP (s.y.getD s.ky default) (ex (s.y.getD s.ky default)).length)) (Exists.intro [(1000, [.vs 1001 .part (tkL s.y s.ky (ex (s.y.getD s.ky default)).length) (tkK s.y s.ky (ex (s.y.getD s.ky default)).length)])] (Exists.intro [(1000, 38), (1001, 36)] (And.intro (spec69 s.y s.ky (ex (s.y.getD s.ky default)).length hk (by omega) (by omega) (by omega)) ?_))))))))
                refine And.intro rfl (And.intro (by show [AV.pt 38 0, AV.i .i64 (((ex (s.y.getD s.ky default)).length : Nat) : Int)] = [AV.pt 38 0, AV.i .i64 ((hd s.y s.ky).n + (hd s.y s.ky).s.length)]; rw [he, k5]) (And.intro rfl (And.intro rfl (And.intro rfl ?_))))
                obtain ⟨t1, t2, t3⟩ := tk_all (l := s.y) (k := s.ky) (n := (ex (s.y.getD s.ky default)).length) k1 rfl
                refine Or.inr (Exists.intro [] (Exists.intro 68 (Exists.intro [.pt 1000 0, pv (tkP (s.y.getD s.ky default) (ex (s.y.getD s.ky default)).length)] (Exists.intro [(1000, bcells s.br)] (Exists.intro (.tup []) (Exists.intro [(1000, bcells (add s.br (tkP (s.y.getD s.ky default) (ex (s.y.getD s.ky default)).length)))] (Exists.intro [(1000, 17), (1001, 25)] (And.intro (spec68 _ _ (hs.bdr hTr) (by rw [t1]; exact k1) (by rw [t1]; omega) (by rw [t1]; omega)) ?_))))))))
                refine And.intro rfl (And.intro (rfl) (And.intro rfl (And.intro rfl (And.intro rfl ?_))))
                refine Or.inl (Exists.intro _ (And.intro (spec70 (hd s.y s.ky) (by rw [he]; omega) (by rw [he]; omega) (by rw [he]; omega)) ?_))
                have okK : Ok ⟨1, (hd s.y s.ky).n + (hd s.y s.ky).s.length, []⟩ := ⟨Or.inl rfl, by show (0 : Int) ≤ (hd s.y s.ky).n + (hd s.y s.ky).s.length; rw [he]; omega, fun _ => rfl, fun h => absurd h (by simp)⟩
                refine Or.inr (Exists.intro [] (Exists.intro 68 (Exists.intro [.pt 1000 0, pv ⟨1, (hd s.y s.ky).n + (hd s.y s.ky).s.length, []⟩] (Exists.intro [(1000, bcells s.bl)] (Exists.intro (.tup []) (Exists.intro [(1000, bcells (add s.bl ⟨1, (hd s.y s.ky).n + (hd s.y s.ky).s.length, []⟩))] (Exists.intro [(1000, 16), (1001, 24)] (And.intro (spec68 _ _ (hs.bdl hTl) okK (by show (hd s.y s.ky).n + (hd s.y s.ky).s.length ≤ 100000000; rw [he]; omega) (by simp)) ?_))))))))
                refine And.intro rfl (And.intro (rfl) (And.intro rfl (And.intro rfl (And.intro rfl ?_))))
                have hstep := hs.step2 hk (by rw [← he]; exact hq3) (fun h => by rw [← hd_some h]; exact hp3)
                have hb1 := bl_add s.preR k1
                have hb2 : add s.bl ⟨1, (hd s.y s.ky).n + (hd s.y s.ky).s.length, []⟩ = (s.preL ++ List.replicate (s.y.getD s.ky default).s.length Prim.keep).foldl addP .init := by
                  have := bl_add s.preL okK
                  rw [show s.bl = s.preL.foldl addP .init from rfl, this]
                  congr 2
                  show List.replicate ((hd s.y s.ky).n + (hd s.y s.ky).s.length).toNat Prim.keep = _
                  rw [he, kz]
                  congr 1
                  omega
                refine Exists.intro [] (Exists.intro ⟨s.x, s.kx, s.y, s.ky + 1, s.preL ++ List.replicate (s.y.getD s.ky default).s.length Prim.keep, s.preR ++ ex (s.y.getD s.ky default)⟩ (And.intro hstep.1 (And.intro ?_ hstep.2)))
                refine And.intro (And.intro (Or.inl rfl) (And.intro (Or.inl rfl) (And.intro (Or.inl rfl) (And.intro (Or.inl rfl) trivial)))) (And.intro (And.intro (Or.inl ?_) trivial) (And.intro (And.intro (Or.inl ?_) trivial) (And.intro (And.intro (Or.inl ?_) (And.intro (Or.inl ?_) (And.intro (Or.inl ?_) trivial))) (And.intro (And.intro (Or.inl ?_) (And.intro (Or.inl ?_) (And.intro (Or.inl ?_) trivial))) trivial))))
                · rfl
                · rw [t2, t3]
                · first | (show AV.vec _ .part (add s.bl ⟨1, (hd s.y s.ky).n + (hd s.y s.ky).s.length, []⟩).out = _; rw [hb2]; rfl) | (show AV.i .i64 (add s.bl ⟨1, (hd s.y s.ky).n + (hd s.y s.ky).s.length, []⟩).cut = _; rw [hb2]; rfl) | (show AV.s (add s.bl ⟨1, (hd s.y s.ky).n + (hd s.y s.ky).s.length, []⟩).put = _; rw [hb2]; rfl)
                · first | (show AV.vec _ .part (add s.bl ⟨1, (hd s.y s.ky).n + (hd s.y s.ky).s.length, []⟩).out = _; rw [hb2]; rfl) | (show AV.i .i64 (add s.bl ⟨1, (hd s.y s.ky).n + (hd s.y s.ky).s.length, []⟩).cut = _; rw [hb2]; rfl) | (show AV.s (add s.bl ⟨1, (hd s.y s.ky).n + (hd s.y s.ky).s.length, []⟩).put = _; rw [hb2]; rfl)
                · first | (show AV.vec _ .part (add s.bl ⟨1, (hd s.y s.ky).n + (hd s.y s.ky).s.length, []⟩).out = _; rw [hb2]; rfl) | (show AV.i .i64 (add s.bl ⟨1, (hd s.y s.ky).n + (hd s.y s.ky).s.length, []⟩).cut = _; rw [hb2]; rfl) | (show AV.s (add s.bl ⟨1, (hd s.y s.ky).n + (hd s.y s.ky).s.length, []⟩).put = _; rw [hb2]; rfl)
                · first | (rw [t1]; show AV.vec _ .part (add s.br (s.y.getD s.ky default)).out = _; rw [show s.br = s.preR.foldl addP .init from rfl, hb1]; rfl) | (rw [t1]; show AV.i .i64 (add s.br (s.y.getD s.ky default)).cut = _; rw [show s.br = s.preR.foldl addP .init from rfl, hb1]; rfl) | (rw [t1]; show AV.s (add s.br (s.y.getD s.ky default)).put = _; rw [show s.br = s.preR.foldl addP .init from rfl, hb1]; rfl)
                · first | (rw [t1]; show AV.vec _ .part (add s.br (s.y.getD s.ky default)).out = _; rw [show s.br = s.preR.foldl addP .init from rfl, hb1]; rfl) | (rw [t1]; show AV.i .i64 (add s.br (s.y.getD s.ky default)).cut = _; rw [show s.br = s.preR.foldl addP .init from rfl, hb1]; rfl) | (rw [t1]; show AV.s (add s.br (s.y.getD s.ky default)).put = _; rw [show s.br = s.preR.foldl addP .init from rfl, hb1]; rfl)
                · first | (rw [t1]; show AV.vec _ .part (add s.br (s.y.getD s.ky default)).out = _; rw [show s.br = s.preR.foldl addP .init from rfl, hb1]; rfl) | (rw [t1]; show AV.i .i64 (add s.br (s.y.getD s.ky default)).cut = _; rw [show s.br = s.preR.foldl addP .init from rfl, hb1]; rfl) | (rw [t1]; show AV.s (add s.br (s.y.getD s.ky default)).put = _; rw [show s.br = s.preR.foldl addP .init from rfl, hb1]; rfl)
              · have hq3 : (hd s.y s.ky).kind ≠ 3 := by simpa using hp
                obtain ⟨hkx, hky⟩ := hs.both hne (fun h => by rw [← hd_some h]; exact hp3) (fun h => by rw [← hd_some h]; exact hq3)
                obtain ⟨x1, x2, x3, x4⟩ := hs.headx hkx
                obtain ⟨y1, y2, y3, y4⟩ := hs.heady hky
                have hex := hd_some hkx
                have hey := hd_some hky
                have x5 := ex_length x1
                have y5 := ex_length y1
                have x6 := x1.n0
                have y6 := y1.n0
                refine Exists.intro [.blk [0, 1, 2, 3, 4, 5]] (And.intro (by kernel_rfl) ?_)
                refine Exists.intro _ (And.intro (spec70 (hd s.x s.kx) (by rw [hex]; omega) (by rw [hex]; omega) (by rw [hex]; omega)) ?_)
                refine Exists.intro _ (And.intro (spec70 (hd s.y s.ky) (by rw [hey]; omega) (by rw [hey]; omega) (by rw [hey]; omega)) ?_)
                have hmin : (((min (ex (s.x.getD s.kx default)).length (ex (s.y.getD s.ky default)).length) : Nat) : Int) = (if (hd s.y s.ky).n + (hd s.y s.ky).s.length < (hd s.x s.kx).n + (hd s.x s.kx).s.length then (hd s.y s.ky).n + (hd s.y s.ky).s.length else (hd s.x s.kx).n + (hd s.x s.kx).s.length) := by rw [hex, hey, ← x5, ← y5]; split <;> omega
                have tx := tk_ok hkx hs.okx (n := (min (ex (s.x.getD s.kx default)).length (ex (s.y.getD s.ky default)).length)) (by omega) (by omega)
                have ty := tk_ok hky hs.oky (n := (min (ex (s.x.getD s.kx default)).length (ex (s.y.getD s.ky default)).length)) (by omega) (by omega)
                have hstep := hs.step3 hkx hky (by rw [← hex]; exact hp3) (by rw [← hey]; exact hq3) (n := (min (ex (s.x.getD s.kx default)).length (ex (s.y.getD s.ky default)).length)) (by omega) (by omega) (by omega)
                refine Or.inr (Exists.intro [] (Exists.intro 69 (Exists.intro [.pt 1000 0, .i .i64 (((min (ex (s.x.getD s.kx default)).length (ex (s.y.getD s.ky default)).length) : Nat) : Int)] (Exists.intro [(1000, [.vs 1001 .part s.x s.kx])] (Exists.intro (pv (tkP (s.x.getD s.kx default) (min (ex (s.x.getD s.kx default)).length (ex (s.y.getD s.ky default)).length))) (Exists.intro [(1000, [.vs 1001 .part (tkL s.x s.kx (min (ex (s.x.getD s.kx default)).length (ex (s.y.getD s.ky default)).length)) (tkK s.x s.kx (min (ex (s.x.getD s.kx default)).length (ex (s.y.getD s.ky default)).length))])] (Exists.intro [(1000, 34), (1001, 32)] (And.intro (spec69 s.x s.kx (min (ex (s.x.getD s.kx default)).length (ex (s.y.getD s.ky default)).length) hkx (by omega) (by omega) (by omega)) ?_))))))))
                refine And.intro rfl (And.intro (by show [AV.pt 34 0, AV.i .i64 (((min (ex (s.x.getD s.kx default)).length (ex (s.y.getD s.ky default)).length) : Nat) : Int)] = [AV.pt 34 0, AV.i .i64 (if (hd s.y s.ky).n + (hd s.y s.ky).s.length < (hd s.x s.kx).n + (hd s.x s.kx).s.length then (hd s.y s.ky).n + (hd s.y s.ky).s.length else (hd s.x s.kx).n + (hd s.x s.kx).s.length)]; rw [← hmin]) (And.intro rfl (And.intro rfl (And.intro rfl ?_))))
                refine Or.inr (Exists.intro [] (Exists.intro 69 (Exists.intro [.pt 1000 0, .i .i64 (((min (ex (s.x.getD s.kx default)).length (ex (s.y.getD s.ky default)).length) : Nat) : Int)] (Exists.intro [(1000, [.vs 1001 .part s.y s.ky])] (Exists.intro (pv (tkP (s.y.getD s.ky default) (min (ex (s.x.getD s.kx default)).length (ex (s.y.getD s.ky default)).length))) (Exists.intro [(1000, [.vs 1001 .part (tkL s.y s.ky (min (ex (s.x.getD s.kx default)).length (ex (s.y.getD s.ky default)).length)) (tkK s.y s.ky (min (ex (s.x.getD s.kx default)).length (ex (s.y.getD s.ky default)).length))])] (Exists.intro [(1000, 38), (1001, 36)] (And.intro (spec69 s.y s.ky (min (ex (s.x.getD s.kx default)).length (ex (s.y.getD s.ky default)).length) hky (by omega) (by omega) (by omega)) ?_))))))))
                refine And.intro rfl (And.intro (by show [AV.pt 38 0, AV.i .i64 (((min (ex (s.x.getD s.kx default)).length (ex (s.y.getD s.ky default)).length) : Nat) : Int)] = [AV.pt 38 0, AV.i .i64 (if (hd s.y s.ky).n + (hd s.y s.ky).s.length < (hd s.x s.kx).n + (hd s.x s.kx).s.length then (hd s.y s.ky).n + (hd s.y s.ky).s.length else (hd s.x s.kx).n + (hd s.x s.kx).s.length)]; rw [← hmin]) (And.intro rfl (And.intro rfl (And.intro rfl ?_))))
                have lx := ex_length tx.ok
                have ly := ex_length ty.ok
                have tx6 := tx.ok.n0
                have ty6 := ty.ok.n0
                have tx7 := tx.len
                have ty7 := ty.len
                refine And.intro (fun hj => ?_) (fun hj => ?_)
                · have hj1 : (s.y.getD s.ky default).kind = 1 := by rw [← ty.kind]; simpa using hj
                  refine Or.inr (Exists.intro [] (Exists.intro 68 (Exists.intro [.pt 1000 0, pv (tkP (s.x.getD s.kx default) (min (ex (s.x.getD s.kx default)).length (ex (s.y.getD s.ky default)).length))] (Exists.intro [(1000, bcells s.bl)] (Exists.intro (.tup []) (Exists.intro [(1000, bcells (add s.bl (tkP (s.x.getD s.kx default) (min (ex (s.x.getD s.kx default)).length (ex (s.y.getD s.ky default)).length))))] (Exists.intro [(1000, 16), (1001, 24)] (And.intro (spec68 _ _ (hs.bdl hTl) tx.ok (by omega) (by omega)) ?_))))))))
                  refine And.intro rfl (And.intro (rfl) (And.intro rfl (And.intro rfl (And.intro rfl ?_))))
                  have hbl : (s.three (min (ex (s.x.getD s.kx default)).length (ex (s.y.getD s.ky default)).length)).bl = add s.bl (tkP (s.x.getD s.kx default) (min (ex (s.x.getD s.kx default)).length (ex (s.y.getD s.ky default)).length)) := by
                    simp only [TS.bl, TS.three]
                    rw [if_pos hj1, bl_add _ tx.ok]
                  refine And.intro (fun hk => ?_) (fun hk => ?_)
                  · have hk1 : (s.x.getD s.kx default).kind = 1 := by rw [← tx.kind]; simpa using hk
                    refine Or.inr (Exists.intro [] (Exists.intro 68 (Exists.intro [.pt 1000 0, pv (tkP (s.y.getD s.ky default) (min (ex (s.x.getD s.kx default)).length (ex (s.y.getD s.ky default)).length))] (Exists.intro [(1000, bcells s.br)] (Exists.intro (.tup []) (Exists.intro [(1000, bcells (add s.br (tkP (s.y.getD s.ky default) (min (ex (s.x.getD s.kx default)).length (ex (s.y.getD s.ky default)).length))))] (Exists.intro [(1000, 17), (1001, 25)] (And.intro (spec68 _ _ (hs.bdr hTr) ty.ok (by omega) (by omega)) ?_))))))))
                    refine And.intro rfl (And.intro (rfl) (And.intro rfl (And.intro rfl (And.intro rfl ?_))))
                    have hbr : (s.three (min (ex (s.x.getD s.kx default)).length (ex (s.y.getD s.ky default)).length)).br = add s.br (tkP (s.y.getD s.ky default) (min (ex (s.x.getD s.kx default)).length (ex (s.y.getD s.ky default)).length)) := by
                      simp only [TS.br, TS.three]
                      rw [if_pos hk1, bl_add _ ty.ok]
                    refine Exists.intro [] (Exists.intro (s.three (min (ex (s.x.getD s.kx default)).length (ex (s.y.getD s.ky default)).length)) (And.intro hstep.1 (And.intro ?_ hstep.2)))
                    refine And.intro (And.intro (Or.inl rfl) (And.intro (Or.inl rfl) (And.intro (Or.inl rfl) (And.intro (Or.inl rfl) trivial)))) (And.intro (And.intro (Or.inl ?_) trivial) (And.intro (And.intro (Or.inl ?_) trivial) (And.intro (And.intro (Or.inl ?_) (And.intro (Or.inl ?_) (And.intro (Or.inl ?_) trivial))) (And.intro (And.intro (Or.inl ?_) (And.intro (Or.inl ?_) (And.intro (Or.inl ?_) trivial))) trivial))))
                    · rfl
                    · rfl
                    · rw [hbl]
                    · rw [hbl]
                    · rw [hbl]
                    · rw [hbr]
                    · rw [hbr]
                    · rw [hbr]
                  · have hk1 : (s.x.getD s.kx default).kind ≠ 1 := by rw [← tx.kind]; simpa using hk
                    have hbr : (s.three (min (ex (s.x.getD s.kx default)).length (ex (s.y.getD s.ky default)).length)).br = s.br := by
                      simp only [TS.br, TS.three]
                      rw [if_neg hk1, List.append_nil]
                    refine Exists.intro [] (Exists.intro (s.three (min (ex (s.x.getD s.kx default)).length (ex (s.y.getD s.ky default)).length)) (And.intro hstep.1 (And.intro ?_ hstep.2)))
                    refine And.intro (And.intro (Or.inl rfl) (And.intro (Or.inl rfl) (And.intro (Or.inl rfl) (And.intro (Or.inl rfl) trivial)))) (And.intro (And.intro (Or.inl ?_) trivial) (And.intro (And.intro (Or.inl ?_) trivial) (And.intro (And.intro (Or.inl ?_) (And.intro (Or.inl ?_) (And.intro (Or.inl ?_) trivial))) (And.intro (And.intro (Or.inl ?_) (And.intro (Or.inl ?_) (And.intro (Or.inl ?_) trivial))) trivial))))
                    · rfl
                    · rfl
                    · rw [hbl]
                    · rw [hbl]
                    · rw [hbl]
                    · rw [hbr]
                    · rw [hbr]
                    · rw [hbr]
                · have hj1 : (s.y.getD s.ky default).kind ≠ 1 := by rw [← ty.kind]; simpa using hj
                  have hbl : (s.three (min (ex (s.x.getD s.kx default)).length (ex (s.y.getD s.ky default)).length)).bl = s.bl := by
                    simp only [TS.bl, TS.three]
                    rw [if_neg hj1, List.append_nil]
                  refine And.intro (fun hk => ?_) (fun hk => ?_)
                  · have hk1 : (s.x.getD s.kx default).kind = 1 := by rw [← tx.kind]; simpa using hk
                    refine Or.inr (Exists.intro [] (Exists.intro 68 (Exists.intro [.pt 1000 0, pv (tkP (s.y.getD s.ky default) (min (ex (s.x.getD s.kx default)).length (ex (s.y.getD s.ky default)).length))] (Exists.intro [(1000, bcells s.br)] (Exists.intro (.tup []) (Exists.intro [(1000, bcells (add s.br (tkP (s.y.getD s.ky default) (min (ex (s.x.getD s.kx default)).length (ex (s.y.getD s.ky default)).length))))] (Exists.intro [(1000, 17), (1001, 25)] (And.intro (spec68 _ _ (hs.bdr hTr) ty.ok (by omega) (by omega)) ?_))))))))
                    refine And.intro rfl (And.intro (rfl) (And.intro rfl (And.intro rfl (And.intro rfl ?_))))
                    have hbr : (s.three (min (ex (s.x.getD s.kx default)).length (ex (s.y.getD s.ky default)).length)).br = add s.br (tkP (s.y.getD s.ky default) (min (ex (s.x.getD s.kx default)).length (ex (s.y.getD s.ky default)).length)) := by
                      simp only [TS.br, TS.three]
                      rw [if_pos hk1, bl_add _ ty.ok]
                    refine Exists.intro [] (Exists.intro (s.three (min (ex (s.x.getD s.kx default)).length (ex (s.y.getD s.ky default)).length)) (And.intro hstep.1 (And.intro ?_ hstep.2)))
                    refine And.intro (And.intro (Or.inl rfl) (And.intro (Or.inl rfl) (And.intro (Or.inl rfl) (And.intro (Or.inl rfl) trivial)))) (And.intro (And.intro (Or.inl ?_) trivial) (And.intro (And.intro (Or.inl ?_) trivial) (And.intro (And.intro (Or.inl ?_) (And.intro (Or.inl ?_) (And.intro (Or.inl ?_) trivial))) (And.intro (And.intro (Or.inl ?_) (And.intro (Or.inl ?_) (And.intro (Or.inl ?_) trivial))) trivial))))
                    · rfl
                    · rfl
                    · rw [hbl]
                    · rw [hbl]
                    · rw [hbl]
                    · rw [hbr]
                    · rw [hbr]
                    · rw [hbr]
                  · have hk1 : (s.x.getD s.kx default).kind ≠ 1 := by rw [← tx.kind]; simpa using hk
                    have hbr : (s.three (min (ex (s.x.getD s.kx default)).length (ex (s.y.getD s.ky default)).length)).br = s.br := by
                      simp only [TS.br, TS.three]
                      rw [if_neg hk1, List.append_nil]
                    refine Exists.intro [] (Exists.intro (s.three (min (ex (s.x.getD s.kx default)).length (ex (s.y.getD s.ky default)).length)) (And.intro hstep.1 (And.intro ?_ hstep.2)))
                    refine And.intro (And.intro (Or.inl rfl) (And.intro (Or.inl rfl) (And.intro (Or.inl rfl) (And.intro (Or.inl rfl) trivial)))) (And.intro (And.intro (Or.inl ?_) trivial) (And.intro (And.intro (Or.inl ?_) trivial) (And.intro (And.intro (Or.inl ?_) (And.intro (Or.inl ?_) (And.intro (Or.inl ?_) trivial))) (And.intro (And.intro (Or.inl ?_) (And.intro (Or.inl ?_) (And.intro (Or.inl ?_) trivial))) trivial))))
                    · rfl
                    · rfl
                    · rw [hbl]
                    · rw [hbl]
                    · rw [hbl]
                    · rw [hbr]
                    · rw [hbr]
                    · rw [hbr]
          · have hy0 := hs.hdy0 (by simpa using h1)
            have heqL := hs.eqL
            have heqR := hs.eqR
            rw [List.drop_eq_nil_of_le (by have := hs.hx; omega : s.x.length ≤ s.kx), List.drop_eq_nil_of_le (by have := hs.hy; omega : s.y.length ≤ s.ky)] at heqL heqR
            have hpl : s.bl = (trT a b).1.foldl addP .init := by rw [TS.bl, ← heqL]; simp [tr]
            have hpr : s.br = (trT a b).2.foldl addP .init := by rw [TS.br, ← heqR]; simp [tr]
            refine Or.inr (Exists.intro [] (Exists.intro 72 (Exists.intro [.pt 1000 0] (Exists.intro [(1000, bcells s.bl)] (Exists.intro (.vec 1001 .part (done s.bl)) (Exists.intro [] (Exists.intro [(1000, 16), (1001, 24)] (And.intro (spec72 _ (hs.bdl hTl)) ?_))))))))
            refine And.intro rfl (And.intro (rfl) (And.intro rfl (And.intro rfl (And.intro rfl ?_))))
            refine Or.inl (Exists.intro _ (And.intro (spec71 (done s.bl)) ?_))
            have hres := transRes_ok hbo hab
            rw [← hpl, ← hpr] at hres
            by_cases hg : (chk (done s.bl)).2.2 = 0
            · rw [if_pos hg]
              refine Or.inr (Exists.intro [] (Exists.intro 72 (Exists.intro [.pt 1000 0] (Exists.intro [(1000, bcells s.br)] (Exists.intro (.vec 1001 .part (done s.br)) (Exists.intro [] (Exists.intro [(1000, 17), (1001, 25)] (And.intro (spec72 _ (hs.bdr hTr)) ?_))))))))
              refine And.intro rfl (And.intro (rfl) (And.intro rfl (And.intro rfl (And.intro rfl ?_))))
              refine Or.inl (Exists.intro _ (And.intro (spec71 (done s.br)) ?_))
              by_cases hg2 : (chk (done s.br)).2.2 = 0
              · rw [if_pos hg2]
                refine And.intro (fun _ => ?_) (fun h => absurd h (by simp))
                refine And.intro (fun h => absurd h (by simp)) (fun _ => ?_)
                show AV.tup [.rd .part (done s.bl), .rd .part (done s.br), .i .i64 0] = transRes a b
                rw [hres, if_pos ⟨hg, hg2⟩]
              · rw [if_neg hg2]
                refine And.intro (fun _ => ?_) (fun h => absurd h (by simp))
                refine And.intro (fun _ => ?_) (fun h => absurd h (by simp))
                show AV.tup [.nl, .nl, .i .i64 2] = transRes a b
                rw [hres, if_neg (fun h => hg2 h.2)]
            · rw [if_neg hg]
              refine Or.inr (Exists.intro [] (Exists.intro 72 (Exists.intro [.pt 1000 0] (Exists.intro [(1000, bcells s.br)] (Exists.intro (.vec 1001 .part (done s.br)) (Exists.intro [] (Exists.intro [(1000, 17), (1001, 25)] (And.intro (spec72 _ (hs.bdr hTr)) ?_))))))))
              refine And.intro rfl (And.intro (rfl) (And.intro rfl (And.intro rfl (And.intro rfl ?_))))
              refine Or.inl (Exists.intro _ (And.intro (spec71 (done s.br)) ?_))
              have hfin : AV.tup [.nl, .nl, .i .i64 2] = transRes a b := by rw [hres, if_neg (fun h => hg h.1)]
              by_cases hg2 : (chk (done s.br)).2.2 = 0
              · rw [if_pos hg2]
                refine And.intro (fun h => absurd h (by simp)) (fun _ => ?_)
                refine And.intro (fun _ => ?_) (fun h => absurd h (by simp))
                exact hfin
              · rw [if_neg hg2]
                refine And.intro (fun h => absurd h (by simp)) (fun _ => ?_)
                refine And.intro (fun _ => ?_) (fun h => absurd h (by simp))
                exact hfin
        · have hx1 := hs.hdx (by simpa using h0)
          refine And.intro (fun h1 => ?_) (fun h1 => absurd h1 (by simp))
          have hne : s.kx < s.x.length ∨ s.ky < s.y.length := Or.inl hx1
          refine Or.inr (Exists.intro [] (Exists.intro 67 (Exists.intro [.pt 1000 0] (Exists.intro [(1000, [.vs 1001 .part s.x s.kx])] (Exists.intro (pv (hd s.x s.kx)) (Exists.intro [(1000, [.vs 1001 .part s.x s.kx])] (Exists.intro [(1000, 34), (1001, 32)] (And.intro (spec67 s.x s.kx hs.hx) ?_))))))))
          refine And.intro rfl (And.intro (rfl) (And.intro rfl (And.intro rfl (And.intro rfl ?_))))
          refine Or.inr (Exists.intro [] (Exists.intro 67 (Exists.intro [.pt 1000 0] (Exists.intro [(1000, [.vs 1001 .part s.y s.ky])] (Exists.intro (pv (hd s.y s.ky)) (Exists.intro [(1000, [.vs 1001 .part s.y s.ky])] (Exists.intro [(1000, 38), (1001, 36)] (And.intro (spec67 s.y s.ky hs.hy) ?_))))))))
          refine And.intro rfl (And.intro (rfl) (And.intro rfl (And.intro rfl (And.intro rfl ?_))))
          refine And.intro (fun hq => ?_) (fun hq => ?_)
          · have hq3 : (hd s.x s.kx).kind = 3 := by simpa using hq
            have hk := hs.hdx (by rw [hq3]; decide)
            obtain ⟨k1, k2, k3, k4⟩ := hs.headx hk
            have he := hd_some hk
            have k5 := ex_length k1
            have k6 := k1.n0
            have kz : (s.x.getD s.kx default).n = 0 := k1.n3 (by rw [← he]; exact hq3)
            refine Or.inl (Exists.intro _ (And.intro (spec70 (hd s.x s.kx) (by rw [he]; omega) (by rw [he]; omega) (by rw [he]; omega)) ?_))
            refine Or.inr (Exists.intro [] (Exists.intro 69 (Exists.intro [.pt 1000 0, .i .i64 (((ex (s.x.getD s.kx default)).length : Nat) : Int)] (Exists.intro [(1000, [.vs 1001 .part s.x s.kx])] (Exists.intro (pv (tkP (s.x.getD s.kx default) (ex (s.x.getD s.kx default)).length)) (Exists.intro [(1000, [.vs 1001 .part (tkL s.x s.kx (ex (s.x.getD s.kx default)).length) (tkK s.x s.kx (ex (s.x.getD s.kx default)).length)])] (Exists.intro [(1000, 34), (1001, 32)] (And.intro (spec69 s.x s.kx (ex (s.x.getD s.kx default)).length hk (by omega) (by omega) (by omega)) ?_))))))))
            refine And.intro rfl (And.intro (by show [AV.pt 34 0, AV.i .i64 (((ex (s.x.getD s.kx default)).length : Nat) : Int)] = [AV.pt 34 0, AV.i .i64 ((hd s.x s.kx).n + (hd s.x s.kx).s.length)]; rw [he, k5]) (And.intro rfl (And.intro rfl (And.intro rfl ?_))))
            obtain ⟨t1, t2, t3⟩ := tk_all (l := s.x) (k := s.kx) (n := (ex (s.x.getD s.kx default)).length) k1 rfl
            refine Or.inr (Exists.intro [] (Exists.intro 68 (Exists.intro [.pt 1000 0, pv (tkP (s.x.getD s.kx default) (ex (s.x.getD s.kx default)).length)] (Exists.intro [(1000, bcells s.bl)] (Exists.intro (.tup []) (Exists.intro [(1000, bcells (add s.bl (tkP (s.x.getD s.kx default) (ex (s.x.getD s.kx default)).length)))] (Exists.intro [(1000, 16), (1001, 24)] (And.intro (spec68 _ _ (hs.bdl hTl) (by rw [t1]; exact k1) (by rw [t1]; omega) (by rw [t1]; omega)) ?_))))))))
            refine And.intro rfl (And.intro (rfl) (And.intro rfl (And.intro rfl (And.intro rfl ?_))))
            refine Or.inl (Exists.intro _ (And.intro (spec70 (hd s.x s.kx) (by rw [he]; omega) (by rw [he]; omega) (by rw [he]; omega)) ?_))
            have okK : Ok ⟨1, (hd s.x s.kx).n + (hd s.x s.kx).s.length, []⟩ := ⟨Or.inl rfl, by show (0 : Int) ≤ (hd s.x s.kx).n + (hd s.x s.kx).s.length; rw [he]; omega, fun _ => rfl, fun h => absurd h (by simp)⟩
            refine Or.inr (Exists.intro [] (Exists.intro 68 (Exists.intro [.pt 1000 0, pv ⟨1, (hd s.x s.kx).n + (hd s.x s.kx).s.length, []⟩] (Exists.intro [(1000, bcells s.br)] (Exists.intro (.tup []) (Exists.intro [(1000, bcells (add s.br ⟨1, (hd s.x s.kx).n + (hd s.x s.kx).s.length, []⟩))] (Exists.intro [(1000, 17), (1001, 25)] (And.intro (spec68 _ _ (hs.bdr hTr) okK (by show (hd s.x s.kx).n + (hd s.x s.kx).s.length ≤ 100000000; rw [he]; omega) (by simp)) ?_))))))))
            refine And.intro rfl (And.intro (rfl) (And.intro rfl (And.intro rfl (And.intro rfl ?_))))
            have hstep := hs.step1 hk (by rw [← he]; exact hq3)
            have hb1 := bl_add s.preL k1
            have hb2 : add s.br ⟨1, (hd s.x s.kx).n + (hd s.x s.kx).s.length, []⟩ = (s.preR ++ List.replicate (s.x.getD s.kx default).s.length Prim.keep).foldl addP .init := by
              have := bl_add s.preR okK
              rw [show s.br = s.preR.foldl addP .init from rfl, this]
              congr 2
              show List.replicate ((hd s.x s.kx).n + (hd s.x s.kx).s.length).toNat Prim.keep = _
              rw [he, kz]
              congr 1
              omega
            refine Exists.intro [] (Exists.intro ⟨s.x, s.kx + 1, s.y, s.ky, s.preL ++ ex (s.x.getD s.kx default), s.preR ++ List.replicate (s.x.getD s.kx default).s.length Prim.keep⟩ (And.intro hstep.1 (And.intro ?_ hstep.2)))
            refine And.intro (And.intro (Or.inl rfl) (And.intro (Or.inl rfl) (And.intro (Or.inl rfl) (And.intro (Or.inl rfl) trivial)))) (And.intro (And.intro (Or.inl ?_) trivial) (And.intro (And.intro (Or.inl ?_) trivial) (And.intro (And.intro (Or.inl ?_) (And.intro (Or.inl ?_) (And.intro (Or.inl ?_) trivial))) (And.intro (And.intro (Or.inl ?_) (And.intro (Or.inl ?_) (And.intro (Or.inl ?_) trivial))) trivial))))
            · rw [t2, t3]
            · rfl
            · first | (rw [t1]; show AV.vec _ .part (add s.bl (s.x.getD s.kx default)).out = _; rw [show s.bl = s.preL.foldl addP .init from rfl, hb1]; rfl) | (rw [t1]; show AV.i .i64 (add s.bl (s.x.getD s.kx default)).cut = _; rw [show s.bl = s.preL.foldl addP .init from rfl, hb1]; rfl) | (rw [t1]; show AV.s (add s.bl (s.x.getD s.kx default)).put = _; rw [show s.bl = s.preL.foldl addP .init from rfl, hb1]; rfl)
            · first | (rw [t1]; show AV.vec _ .part (add s.bl (s.x.getD s.kx default)).out = _; rw [show s.bl = s.preL.foldl addP .init from rfl, hb1]; rfl) | (rw [t1]; show AV.i .i64 (add s.bl (s.x.getD s.kx default)).cut = _; rw [show s.bl = s.preL.foldl addP .init from rfl, hb1]; rfl) | (rw [t1]; show AV.s (add s.bl (s.x.getD s.kx default)).put = _; rw [show s.bl = s.preL.foldl addP .init from rfl, hb1]; rfl)
            · first | (rw [t1]; show AV.vec _ .part (add s.bl (s.x.getD s.kx default)).out = _; rw [show s.bl = s.preL.foldl addP .init from rfl, hb1]; rfl) | (rw [t1]; show AV.i .i64 (add s.bl (s.x.getD s.kx default)).cut = _; rw [show s.bl = s.preL.foldl addP .init from rfl, hb1]; rfl) | (rw [t1]; show AV.s (add s.bl (s.x.getD s.kx default)).put = _; rw [show s.bl = s.preL.foldl addP .init from rfl, hb1]; rfl)
            · first | (show AV.vec _ .part (add s.br ⟨1, (hd s.x s.kx).n + (hd s.x s.kx).s.length, []⟩).out = _; rw [hb2]; rfl) | (show AV.i .i64 (add s.br ⟨1, (hd s.x s.kx).n + (hd s.x s.kx).s.length, []⟩).cut = _; rw [hb2]; rfl) | (show AV.s (add s.br ⟨1, (hd s.x s.kx).n + (hd s.x s.kx).s.length, []⟩).put = _; rw [hb2]; rfl)
            · first | (show AV.vec _ .part (add s.br ⟨1, (hd s.x s.kx).n + (hd s.x s.kx).s.length, []⟩).out = _; rw [hb2]; rfl) | (show AV.i .i64 (add s.br ⟨1, (hd s.x s.kx).n + (hd s.x s.kx).s.length, []⟩).cut = _; rw [hb2]; rfl) | (show AV.s (add s.br ⟨1, (hd s.x s.kx).n + (hd s.x s.kx).s.length, []⟩).put = _; rw [hb2]; rfl)
            · first | (show AV.vec _ .part (add s.br ⟨1, (hd s.x s.kx).n + (hd s.x s.kx).s.length, []⟩).out = _; rw [hb2]; rfl) | (show AV.i .i64 (add s.br ⟨1, (hd s.x s.kx).n + (hd s.x s.kx).s.length, []⟩).cut = _; rw [hb2]; rfl) | (show AV.s (add s.br ⟨1, (hd s.x s.kx).n + (hd s.x s.kx).s.length, []⟩).put = _; rw [hb2]; rfl)
          · have hp3 : (hd s.x s.kx).kind ≠ 3 := by simpa using hq
            refine And.intro (fun hp => ?_) (fun hp => ?_)
            · have hq3 : (hd s.y s.ky).kind = 3 := by simpa using hp
              have hk := hs.hdy (by rw [hq3]; decide)
              obtain ⟨k1, k2, k3, k4⟩ := hs.heady hk
              have he := hd_some hk
              have k5 := ex_length k1
              have k6 := k1.n0
              have kz : (s.y.getD s.ky default).n = 0 := k1.n3 (by rw [← he]; exact hq3)
              refine Or.inl (Exists.intro _ (And.intro (spec70 (hd s.y s.ky) (by rw [he]; omega) (by rw [he]; omega) (by rw [he]; omega)) ?_))
              refine Or.inr (Exists.intro [] (Exists.intro 69 (Exists.intro [.pt 1000 0, .i .i64 (((ex (s.y.getD s.ky default)).length : Nat) : Int)] (Exists.intro [(1000, [.vs 1001 .part s.y s.ky])] (Exists.intro (pv (tkP (s.y.getD s.ky default) (ex (s.y.getD s.ky default)).length)) (Exists.intro [(1000, [.vs 1001 .part (tkL s.y s.ky (ex (s.y.getD s.ky default)).length) (tkK s.y s.ky (ex (s.y.getD s.ky default)).length)])] (Exists.intro [(1000, 38), (1001, 36)] (And.intro (spec69 s.y s.ky (ex (s.y.getD s.ky default)).length hk (by omega) (by omega) (by omega)) ?_))))))))
              refine And.intro rfl (And.intro (by show [AV.pt 38 0, AV.i .i64 (((ex (s.y.getD s.ky default)).length : Nat) : Int)] = [AV.pt 38 0, AV.i .i64 ((hd s.y s.ky).n + (hd s.y s.ky).s.length)]; rw [he, k5]) (And.intro rfl (And.intro rfl (And.intro rfl ?_))))
              obtain ⟨t1, t2, t3⟩ := tk_all (l := s.y) (k := s.ky) (n := (ex (s.y.getD s.ky default)).length) k1 rfl
              refine Or.inr (Exists.intro [] (Exists.intro 68 (Exists.intro [.pt 1000 0, pv (tkP (s.y.getD s.ky default) (ex (s.y.getD s.ky default)).length)] (Exists.intro [(1000, bcells s.br)] (Exists.intro (.tup []) (Exists.intro [(1000, bcells (add s.br (tkP (s.y.getD s.ky default) (ex (s.y.getD s.ky default)).length)))] (Exists.intro [(1000, 17), (1001, 25)] (And.intro (spec68 _ _ (hs.bdr hTr) (by rw [t1]; exact k1) (by rw [t1]; omega) (by rw [t1]; omega)) ?_))))))))
              refine And.intro rfl (And.intro (rfl) (And.intro rfl (And.intro rfl (And.intro rfl ?_))))
              refine Or.inl (Exists.intro _ (And.intro (spec70 (hd s.y s.ky) (by rw [he]; omega) (by rw [he]; omega) (by rw [he]; omega)) ?_))
              have okK : Ok ⟨1, (hd s.y s.ky).n + (hd s.y s.ky).s.length, []⟩ := ⟨Or.inl rfl, by show (0 : Int) ≤ (hd s.y s.ky).n + (hd s.y s.ky).s.length; rw [he]; omega, fun _ => rfl, fun h => absurd h (by simp)⟩
              refine Or.inr (Exists.intro [] (Exists.intro 68 (Exists.intro [.pt 1000 0, pv ⟨1, (hd s.y s.ky).n + (hd s.y s.ky).s.length, []⟩] (Exists.intro [(1000, bcells s.bl)] (Exists.intro (.tup []) (Exists.intro [(1000, bcells (add s.bl ⟨1, (hd s.y s.ky).n + (hd s.y s.ky).s.length, []⟩))] (Exists.intro [(1000, 16), (1001, 24)] (And.intro (spec68 _ _ (hs.bdl hTl) okK (by show (hd s.y s.ky).n + (hd s.y s.ky).s.length ≤ 100000000; rw [he]; omega) (by simp)) ?_))))))))
              refine And.intro rfl (And.intro (rfl) (And.intro rfl (And.intro rfl (And.intro rfl ?_))))
              have hstep := hs.step2 hk (by rw [← he]; exact hq3) (fun h => by rw [← hd_some h]; exact hp3)
              have hb1 := bl_add s.preR k1
              have hb2 : add s.bl ⟨1, (hd s.y s.ky).n + (hd s.y s.ky).s.length, []⟩ = (s.preL ++ List.replicate (s.y.getD s.ky default).s.length Prim.keep).foldl addP .init := by
                have := bl_add s.preL okK
                rw [show s.bl = s.preL.foldl addP .init from rfl, this]
                congr 2
                show List.replicate ((hd s.y s.ky).n + (hd s.y s.ky).s.length).toNat Prim.keep = _
                rw [he, kz]
                congr 1
                omega
              refine Exists.intro [] (Exists.intro ⟨s.x, s.kx, s.y, s.ky + 1, s.preL ++ List.replicate (s.y.getD s.ky default).s.length Prim.keep, s.preR ++ ex (s.y.getD s.ky default)⟩ (And.intro hstep.1 (And.intro ?_ hstep.2)))
              refine And.intro (And.intro (Or.inl rfl) (And.intro (Or.inl rfl) (And.intro (Or.inl rfl) (And.intro (Or.inl rfl) trivial)))) (And.intro (And.intro (Or.inl ?_) trivial) (And.intro (And.intro (Or.inl ?_) trivial) (And.intro (And.intro (Or.inl ?_) (And.intro (Or.inl ?_) (And.intro (Or.inl ?_) trivial))) (And.intro (And.intro (Or.inl ?_) (And.intro (Or.inl ?_) (And.intro (Or.inl ?_) trivial))) trivial))))
              · rfl
              · rw [t2, t3]
              · first | (show AV.vec _ .part (add s.bl ⟨1, (hd s.y s.ky).n + (hd s.y s.ky).s.length, []⟩).out = _; rw [hb2]; rfl) | (show AV.i .i64 (add s.bl ⟨1, (hd s.y s.ky).n + (hd s.y s.ky).s.length, []⟩).cut = _; rw [hb2]; rfl) | (show AV.s (add s.bl ⟨1, (hd s.y s.ky).n + (hd s.y s.ky).s.length, []⟩).put = _; rw [hb2]; rfl)
              · first | (show AV.vec _ .part (add s.bl ⟨1, (hd s.y s.ky).n + (hd s.y s.ky).s.length, []⟩).out = _; rw [hb2]; rfl) | (show AV.i .i64 (add s.bl ⟨1, (hd s.y s.ky).n + (hd s.y s.ky).s.length, []⟩).cut = _; rw [hb2]; rfl) | (show AV.s (add s.bl ⟨1, (hd s.y s.ky).n + (hd s.y s.ky).s.length, []⟩).put = _; rw [hb2]; rfl)
              · first | (show AV.vec _ .part (add s.bl ⟨1, (hd s.y s.ky).n + (hd s.y s.ky).s.length, []⟩).out = _; rw [hb2]; rfl) | (show AV.i .i64 (add s.bl ⟨1, (hd s.y s.ky).n + (hd s.y s.ky).s.length, []⟩).cut = _; rw [hb2]; rfl) | (show AV.s (add s.bl ⟨1, (hd s.y s.ky).n + (hd s.y s.ky).s.length, []⟩).put = _; rw [hb2]; rfl)
              · first | (rw [t1]; show AV.vec _ .part (add s.br (s.y.getD s.ky default)).out = _; rw [show s.br = s.preR.foldl addP .init from rfl, hb1]; rfl) | (rw [t1]; show AV.i .i64 (add s.br (s.y.getD s.ky default)).cut = _; rw [show s.br = s.preR.foldl addP .init from rfl, hb1]; rfl) | (rw [t1]; show AV.s (add s.br (s.y.getD s.ky default)).put = _; rw [show s.br = s.preR.foldl addP .init from rfl, hb1]; rfl)
              · first | (rw [t1]; show AV.vec _ .part (add s.br (s.y.getD s.ky default)).out = _; rw [show s.br = s.preR.foldl addP .init from rfl, hb1]; rfl) | (rw [t1]; show AV.i .i64 (add s.br (s.y.getD s.ky default)).cut = _; rw [show s.br = s.preR.foldl addP .init from rfl, hb1]; rfl) | (rw [t1]; show AV.s (add s.br (s.y.getD s.ky default)).put = _; rw [show s.br = s.preR.foldl addP .init from rfl, hb1]; rfl)
              · first | (rw [t1]; show AV.vec _ .part (add s.br (s.y.getD s.ky default)).out = _; rw [show s.br = s.preR.foldl addP .init from rfl, hb1]; rfl) | (rw [t1]; show AV.i .i64 (add s.br (s.y.getD s.ky default)).cut = _; rw [show s.br = s.preR.foldl addP .init from rfl, hb1]; rfl) | (rw [t1]; show AV.s (add s.br (s.y.getD s.ky default)).put = _; rw [show s.br = s.preR.foldl addP .init from rfl, hb1]; rfl)
            · have hq3 : (hd s.y s.ky).kind ≠ 3 := by simpa using hp
              obtain ⟨hkx, hky⟩ := hs.both hne (fun h => by rw [← hd_some h]; exact hp3) (fun h => by rw [← hd_some h]; exact hq3)
              obtain ⟨x1, x2, x3, x4⟩ := hs.headx hkx
              obtain ⟨y1, y2, y3, y4⟩ := hs.heady hky
              have hex := hd_some hkx
              have hey := hd_some hky
              have x5 := ex_length x1
              have y5 := ex_length y1
              have x6 := x1.n0
              have y6 := y1.n0
              refine Exists.intro [.blk [0, 1, 2, 3, 4, 5]] (And.intro (by kernel_rfl) ?_)
              refine Exists.intro _ (And.intro (spec70 (hd s.x s.kx) (by rw [hex]; omega) (by rw [hex]; omega) (by rw [hex]; omega)) ?_)
              refine Exists.intro _ (And.intro (spec70 (hd s.y s.ky) (by rw [hey]; omega) (by rw [hey]; omega) (by rw [hey]; omega)) ?_)
              have hmin : (((min (ex (s.x.getD s.kx default)).length (ex (s.y.getD s.ky default)).length) : Nat) : Int) = (if (hd s.y s.ky).n + (hd s.y s.ky).s.length < (hd s.x s.kx).n + (hd s.x s.kx).s.length then (hd s.y s.ky).n + (hd s.y s.ky).s.length else (hd s.x s.kx).n + (hd s.x s.kx).s.length) := by rw [hex, hey, ← x5, ← y5]; split <;> omega
              have tx := tk_ok hkx hs.okx (n := (min (ex (s.x.getD s.kx default)).length (ex (s.y.getD s.ky default)).length)) (by omega) (by omega)
              have ty := tk_ok hky hs.oky (n := (min (ex (s.x.getD s.kx default)).length (ex (s.y.getD s.ky default)).length)) (by omega) (by omega)
              have hstep := hs.step3 hkx hky (by rw [← hex]; exact hp3) (by rw [← hey]; exact hq3) (n := (min (ex (s.x.getD s.kx default)).length (ex (s.y.getD s.ky default)).length)) (by omega) (by omega) (by omega)
              refine Or.inr (Exists.intro [] (Exists.intro 69 (Exists.intro [.pt 1000 0, .i .i64 (((min (ex (s.x.getD s.kx default)).length (ex (s.y.getD s.ky default)).length) : Nat) : Int)] (Exists.intro [(1000, [.vs 1001 .part s.x s.kx])] (Exists.intro (pv (tkP (s.x.getD s.kx default) (min (ex (s.x.getD s.kx default)).length (ex (s.y.getD s.ky default)).length))) (Exists.intro [(1000, [.vs 1001 .part (tkL s.x s.kx (min (ex (s.x.getD s.kx default)).length (ex (s.y.getD s.ky default)).length)) (tkK s.x s.kx (min (ex (s.x.getD s.kx default)).length (ex (s.y.getD s.ky default)).length))])] (Exists.intro [(1000, 34), (1001, 32)] (And.intro (spec69 s.x s.kx (min (ex (s.x.getD s.kx default)).length (ex (s.y.getD s.ky default)).length) hkx (by omega) (by omega) (by omega)) ?_))))))))
              refine And.intro rfl (And.intro (by show [AV.pt 34 0, AV.i .i64 (((min (ex (s.x.getD s.kx default)).length (ex (s.y.getD s.ky default)).length) : Nat) : Int)] = [AV.pt 34 0, AV.i .i64 (if (hd s.y s.ky).n + (hd s.y s.ky).s.length < (hd s.x s.kx).n + (hd s.x s.kx).s.length then (hd s.y s.ky).n + (hd s.y s.ky).s.length else (hd s.x s.kx).n + (hd s.x s.kx).s.length)]; rw [← hmin]) (And.intro rfl (And.intro rfl (And.intro rfl ?_))))
              refine Or.inr (Exists.intro [] (Exists.intro 69 (Exists.intro [.pt 1000 0, .i .i64 (((min (ex (s.x.getD s.kx default)).length (ex (s.y.getD s.ky default)).length) : Nat) : Int)] (Exists.intro [(1000, [.vs 1001 .part s.y s.ky])] (Exists.intro (pv (tkP (s.y.getD s.ky default) (min (ex (s.x.getD s.kx default)).length (ex (s.y.getD s.ky default)).length))) (Exists.intro [(1000, [.vs 1001 .part (tkL s.y s.ky (min (ex (s.x.getD s.kx default)).length (ex (s.y.getD s.ky default)).length)) (tkK s.y s.ky (min (ex (s.x.getD s.kx default)).length (ex (s.y.getD s.ky default)).length))])] (Exists.intro [(1000, 38), (1001, 36)] (And.intro (spec69 s.y s.ky (min (ex (s.x.getD s.kx default)).length (ex (s.y.getD s.ky default)).length) hky (by omega) (by omega) (by omega)) ?_))))))))
              refine And.intro rfl (And.intro (by show [AV.pt 38 0, AV.i .i64 (((min (ex (s.x.getD s.kx default)).length (ex (s.y.getD s.ky default)).length) : Nat) : Int)] = [AV.pt 38 0, AV.i .i64 (if (hd s.y s.ky).n + (hd s.y s.ky).s.length < (hd s.x s.kx).n + (hd s.x s.kx).s.length then (hd s.y s.ky).n + (hd s.y s.ky).s.length else (hd s.x s.kx).n + (hd s.x s.kx).s.length)]; rw [← hmin]) (And.intro rfl (And.intro rfl (And.intro rfl ?_))))
              have lx := ex_length tx.ok
              have ly := ex_length ty.ok
              have tx6 := tx.ok.n0
              have ty6 := ty.ok.n0
              have tx7 := tx.len
              have ty7 := ty.len
              refine And.intro (fun hj => ?_) (fun hj => ?_)
              · have hj1 : (s.y.getD s.ky default).kind = 1 := by rw [← ty.kind]; simpa using hj
                refine Or.inr (Exists.intro [] (Exists.intro 68 (Exists.intro [.pt 1000 0, pv (tkP (s.x.getD s.kx default) (min (ex (s.x.getD s.kx default)).length (ex (s.y.getD s.ky default)).length))] (Exists.intro [(1000, bcells s.bl)] (Exists.intro (.tup []) (Exists.intro [(1000, bcells (add s.bl (tkP (s.x.getD s.kx default) (min (ex (s.x.getD s.kx default)).length (ex (s.y.getD s.ky default)).length))))] (Exists.intro [(1000, 16), (1001, 24)] (And.intro (spec68 _ _ (hs.bdl hTl) tx.ok (by omega) (by omega)) ?_))))))))
                refine And.intro rfl (And.intro (rfl) (And.intro rfl (And.intro rfl (And.intro rfl ?_))))
                have hbl : (s.three (min (ex (s.x.getD s.kx default)).length (ex (s.y.getD s.ky default)).length)).bl = add s.bl (tkP (s.x.getD s.kx default) (min (ex (s.x.getD s.kx default)).length (ex (s.y.getD s.ky default)).length)) := by
                  simp only [TS.bl, TS.three]
                  rw [if_pos hj1, bl_add _ tx.ok]
                refine And.intro (fun hk => ?_) (fun hk => ?_)
                · have hk1 : (s.x.getD s.kx default).kind = 1 := by rw [← tx.kind]; simpa using hk
                  refine Or.inr (Exists.intro [] (Exists.intro 68 (Exists.intro [.pt 1000 0, pv (tkP (s.y.getD s.ky default) (min (ex (s.x.getD s.kx default)).length (ex (s.y.getD s.ky default)).length))] (Exists.intro [(1000, bcells s.br)] (Exists.intro (.tup []) (Exists.intro [(1000, bcells (add s.br (tkP (s.y.getD s.ky default) (min (ex (s.x.getD s.kx default)).length (ex (s.y.getD s.ky default)).length))))] (Exists.intro [(1000, 17), (1001, 25)] (And.intro (spec68 _ _ (hs.bdr hTr) ty.ok (by omega) (by omega)) ?_))))))))
                  refine And.intro rfl (And.intro (rfl) (And.intro rfl (And.intro rfl (And.intro rfl ?_))))
                  have hbr : (s.three (min (ex (s.x.getD s.kx default)).length (ex (s.y.getD s.ky default)).length)).br = add s.br (tkP (s.y.getD s.ky default) (min (ex (s.x.getD s.kx default)).length (ex (s.y.getD s.ky default)).length)) := by
                    simp only [TS.br, TS.three]
                    rw [if_pos hk1, bl_add _ ty.ok]
                  refine Exists.intro [] (Exists.intro (s.three (min (ex (s.x.getD s.kx default)).length (ex (s.y.getD s.ky default)).length)) (And.intro hstep.1 (And.intro ?_ hstep.2)))
                  refine And.intro (And.intro (Or.inl rfl) (And.intro (Or.inl rfl) (And.intro (Or.inl rfl) (And.intro (Or.inl rfl) trivial)))) (And.intro (And.intro (Or.inl ?_) trivial) (And.intro (And.intro (Or.inl ?_) trivial) (And.intro (And.intro (Or.inl ?_) (And.intro (Or.inl ?_) (And.intro (Or.inl ?_) trivial))) (And.intro (And.intro (Or.inl ?_) (And.intro (Or.inl ?_) (And.intro (Or.inl ?_) trivial))) trivial))))
                  · rfl
                  · rfl
                  · rw [hbl]
                  · rw [hbl]
                  · rw [hbl]
                  · rw [hbr]
                  · rw [hbr]
                  · rw [hbr]
                · have hk1 : (s.x.getD s.kx default).kind ≠ 1 := by rw [← tx.kind]; simpa using hk
                  have hbr : (s.three (min (ex (s.x.getD s.kx default)).length (ex (s.y.getD s.ky default)).length)).br = s.br := by
                    simp only [TS.br, TS.three]
                    rw [if_neg hk1, List.append_nil]
                  refine Exists.intro [] (Exists.intro (s.three (min (ex (s.x.getD s.kx default)).length (ex (s.y.getD s.ky default)).length)) (And.intro hstep.1 (And.intro ?_ hstep.2)))
                  refine And.intro (And.intro (Or.inl rfl) (And.intro (Or.inl rfl) (And.intro (Or.inl rfl) (And.intro (Or.inl rfl) trivial)))) (And.intro (And.intro (Or.inl ?_) trivial) (And.intro (And.intro (Or.inl ?_) trivial) (And.intro (And.intro (Or.inl ?_) (And.intro (Or.inl ?_) (And.intro (Or.inl ?_) trivial))) (And.intro (And.intro (Or.inl ?_) (And.intro (Or.inl ?_) (And.intro (Or.inl ?_) trivial))) trivial))))
                  · rfl
                  · rfl
                  · rw [hbl]
                  · rw [hbl]
                  · rw [hbl]
                  · rw [hbr]
                  · rw [hbr]
                  · rw [hbr]
              · have hj1 : (s.y.getD s.ky default).kind ≠ 1 := by rw [← ty.kind]; simpa using hj
                have hbl : (s.three (min (ex (s.x.getD s.kx default)).length (ex (s.y.getD s.ky default)).length)).bl = s.bl := by
                  simp only [TS.bl, TS.three]
                  rw [if_neg hj1, List.append_nil]
                refine And.intro (fun hk => ?_) (fun hk => ?_)
                · have hk1 : (s.x.getD s.kx default).kind = 1 := by rw [← tx.kind]; simpa using hk
                  refine Or.inr (Exists.intro [] (Exists.intro 68 (Exists.intro [.pt 1000 0, pv (tkP (s.y.getD s.ky default) (min (ex (s.x.getD s.kx default)).length (ex (s.y.getD s.ky default)).length))] (Exists.intro [(1000, bcells s.br)] (Exists.intro (.tup []) (Exists.intro [(1000, bcells (add s.br (tkP (s.y.getD s.ky default) (min (ex (s.x.getD s.kx default)).length (ex (s.y.getD s.ky default)).length))))] (Exists.intro [(1000, 17), (1001, 25)] (And.intro (spec68 _ _ (hs.bdr hTr) ty.ok (by omega) (by omega)) ?_))))))))
                  refine And.intro rfl (And.intro (rfl) (And.intro rfl (And.intro rfl (And.intro rfl ?_))))
                  have hbr : (s.three (min (ex (s.x.getD s.kx default)).length (ex (s.y.getD s.ky default)).length)).br = add s.br (tkP (s.y.getD s.ky default) (min (ex (s.x.getD s.kx default)).length (ex (s.y.getD s.ky default)).length)) := by
                    simp only [TS.br, TS.three]
                    rw [if_pos hk1, bl_add _ ty.ok]
                  refine Exists.intro [] (Exists.intro (s.three (min (ex (s.x.getD s.kx default)).length (ex (s.y.getD s.ky default)).length)) (And.intro hstep.1 (And.intro ?_ hstep.2)))
                  refine And.intro (And.intro (Or.inl rfl) (And.intro (Or.inl rfl) (And.intro (Or.inl rfl) (And.intro (Or.inl rfl) trivial)))) (And.intro (And.intro (Or.inl ?_) trivial) (And.intro (And.intro (Or.inl ?_) trivial) (And.intro (And.intro (Or.inl ?_) (And.intro (Or.inl ?_) (And.intro (Or.inl ?_) trivial))) (And.intro (And.intro (Or.inl ?_) (And.intro (Or.inl ?_) (And.intro (Or.inl ?_) trivial))) trivial))))
                  · rfl
                  · rfl
                  · rw [hbl]
                  · rw [hbl]
                  · rw [hbl]
                  · rw [hbr]
                  · rw [hbr]
                  · rw [hbr]
                · have hk1 : (s.x.getD s.kx default).kind ≠ 1 := by rw [← tx.kind]; simpa using hk
                  have hbr : (s.three (min (ex (s.x.getD s.kx default)).length (ex (s.y.getD s.ky default)).length)).br = s.br := by
                    simp only [TS.br, TS.three]
                    rw [if_neg hk1, List.append_nil]
                  refine Exists.intro [] (Exists.intro (s.three (min (ex (s.x.getD s.kx default)).length (ex (s.y.getD s.ky default)).length)) (And.intro hstep.1 (And.intro ?_ hstep.2)))
                  refine And.intro (And.intro (Or.inl rfl) (And.intro (Or.inl rfl) (And.intro (Or.inl rfl) (And.intro (Or.inl rfl) trivial)))) (And.intro (And.intro (Or.inl ?_) trivial) (And.intro (And.intro (Or.inl ?_) trivial) (And.intro (And.intro (Or.inl ?_) (And.intro (Or.inl ?_) (And.intro (Or.inl ?_) trivial))) (And.intro (And.intro (Or.inl ?_) (And.intro (Or.inl ?_) (And.intro (Or.inl ?_) trivial))) trivial))))
                  · rfl
                  · rfl
                  · rw [hbl]
                  · rw [hbl]
                  · rw [hbl]
                  · rw [hbr]
                  · rw [hbr]
                  · rw [hbr]
theorem spec28 (a b : List Part) : PSpec Try.prog 28 [.rd .part a, .rd .part b] (transRes a b) :=
  pspec_of_vc Γ_good Try.func28 rfl Try.call28 Try.results28 Try.ntmps28 (Nat.le_of_ble_eq_true rfl) (walk28 a b)
end Go.Proofs.Ytjlbaagnoppfgaa
