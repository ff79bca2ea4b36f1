/-
  A part of the proof that 'typecaselaw.SpliceTells' returns true, whatever the input: Invert, and the changed text of the document. No conditions.
-/
import Derived.Test.YtjlbaagnoppfgaaSptA
namespace Go.Proofs.Ytjlbaagnoppfgaa
open Go Go.SX Go.Spl
set_option maxRecDepth 100000
set_option maxHeartbeats 0
def invC (s : Str) (c : List Part) : List Part := done ((inv s (exs c)).foldl addP .init)
def invR (s : Str) (c : List Part) : AV := if (chk c).2.2 ≠ 0 then .tup [.nl, .i .i64 (chk c).2.2] else if sumOv c ≠ s.length then .tup [.nl, .i .i64 1] else .tup [.rd .part (invC s c), .i .i64 0]
structure VS where
  rem : Str
  pre : List Prim
  k : Nat
structure VI (s0 : Str) (c : List Part) (x : VS) : Prop where
  k : x.k ≤ c.length
  eq : x.pre ++ inv x.rem (exs (c.drop x.k)) = inv s0 (exs c)
  ov : wt fOv (exs (c.drop x.k)) ≤ x.rem.length
  rem : x.rem.length ≤ s0.length
  pre : x.pre.length ≤ 20000 * x.k
def vb (p : List Prim) : Bld := p.foldl addP .init
theorem vb_add (pre : List Prim) {p : Part} (h : Ok p) : add (vb pre) p = vb (pre ++ ex p) := by unfold vb; rw [List.foldl_append, add_ex h]
theorem w_Invert (s : Str) (c : List Part) : vc Try.prog Γ 57 [0, 1, 4, 5, 7, 8, 10, 18, 20, 21, 22, 23, 27, 28, 36, 48] (Try.f24.body.getD .skip) (postK Γ [.tmp 4, .tmp 5] (fun v => v = invR s c)) ⟨argSlots 0 [.s s, .rd .part c], []⟩ := by
  by_cases h : (chk c).2.2 = 0
  · by_cases heq0 : sumOv c = s.length
    · obtain ⟨h1, h2, h3, h4, h5⟩ := chk_inv h
      have hov := (wt_sums h2).1
      have ha : PSpec Try.prog 23 [.s s, .rd .part c] (.tup [.s (chg s (exs c)), .i .i64 0]) := by have := s_Apply s c; rw [applyR, if_neg (by simpa using h), if_neg (by simpa using heq0)] at this; exact this
      refine Or.inl (Exists.intro _ (And.intro (ha) ?_))
      refine And.intro (fun h9 => absurd h9 (by decide)) (fun _ => ?_)
      intro _
      refine Exists.intro [] (Exists.intro [(8, 0, 9, .part)] (Exists.intro [] (Exists.intro VS (Exists.intro (VI s c) (Exists.intro (fun ⟨r, pre, k⟩ => ⟨[(0, .s r), (8, .pt 8 0), (20, .rd .part c), (21, .i .i64 c.length), (22, .i .i64 k)], [(8, [.vec 9 .part (vb pre).out, .i .i64 (vb pre).cut, .s (vb pre).put])]⟩) (Exists.intro (fun x => c.length - x.k) (Exists.intro ⟨s, [], 0⟩ (And.intro ⟨Nat.zero_le _, rfl, (by simp only [List.drop_zero]; omega), Nat.le_refl _, by simp⟩ (And.intro ?_ ?_)))))))))
      · (repeat' (first | exact trivial | exact Or.inl rfl | refine And.intro ?_ ?_))
      · rintro ⟨r, pre, k⟩ hx
        have hk0 := hx.k
        have hro := hx.rem
        have hpre := hx.pre
        simp only at hk0 hro hpre
        have hbd : Bd (vb pre) := bd_adds pre (by omega)
        refine And.intro (fun hc => ?_) (fun hc => ?_)
        · have hk : k < c.length := by have : (k : Int) < c.length := of_decide_eq_true hc; omega
          refine And.intro ⟨by omega, by omega⟩ ?_
          have hp : c.getD (Int.toNat k) (dflt .part) = c.getD k default := by rw [Int.toNat_natCast]
          have hm : c.getD k default ∈ c := by rw [List.getD_eq_getElem?_getD, List.getElem?_eq_getElem hk]; exact List.getElem_mem hk
          have hpf := h2 _ hm
          obtain ⟨b1, b2, b3, b4, b5, b6, b7⟩ := pf_bounds hpf
          have hok := ok_of hpf
          have hd := drop_cons hk
          have hov := hx.ov
          have heq := hx.eq
          simp only at hov heq
          rw [hd, exs_cons] at hov heq
          rw [wt_append] at hov
          rw [← hp] at b1 b2 b3 b4 b5 b6 b7 hov heq hok
          have hr : r.take (Int.toNat (r.length : Int)) = r := by rw [Int.toNat_natCast, List.take_length]
          refine And.intro (fun hk1 => ?_) (fun hk1 => ?_)
          · have hk1 : (c.getD (Int.toNat k) (dflt .part)).kind = 1 := by simpa using hk1
            have hex := ex_keep hk1
            rw [hex] at hov heq
            rw [wt_rep] at hov
            rw [inv_keeps, ← List.append_assoc] at heq
            simp only [fOv, Nat.one_mul] at hov
            refine Or.inr (Exists.intro [] (Exists.intro _ (Exists.intro _ (Exists.intro _ (Exists.intro _ (Exists.intro _ (Exists.intro [(1000, 8), (1001, 9)] (And.intro (spec68 (vb pre) (c.getD (Int.toNat k) (dflt .part)) hbd hok (by omega) (by omega)) ?_))))))))
            refine (And.intro rfl (And.intro rfl (And.intro rfl (And.intro rfl (And.intro rfl ?_)))))
            refine And.intro ⟨by omega, by omega, Int.le_refl _⟩ ?_
            refine And.intro ⟨by omega, by omega⟩ ?_
            refine Exists.intro [] (Exists.intro ⟨r.drop (c.getD (Int.toNat k) (dflt .part)).n.toNat, pre ++ List.replicate (c.getD (Int.toNat k) (dflt .part)).n.toNat .keep, k + 1⟩ (And.intro ⟨hk, heq, (by simp only [List.length_drop]; omega), (by simp only [List.length_drop]; omega), (by simp only [List.length_append, List.length_replicate]; omega)⟩ (And.intro ?_ ?_)))
            · rw [hr, vb_add pre hok, hex]
              (repeat' (first | exact trivial | exact Or.inl rfl | refine And.intro ?_ ?_))
            · show c.length - (k + 1) < c.length - k
              omega
          · have hk1 : (c.getD (Int.toNat k) (dflt .part)).kind ≠ 1 := by simpa using hk1
            refine And.intro (fun hk2 => ?_) (fun hk2 => ?_)
            · have hk2 : (c.getD (Int.toNat k) (dflt .part)).kind = 2 := by simpa using hk2
              rw [ex_cut hk2] at hov heq
              rw [wt_rep] at hov
              rw [inv_cuts, ← List.append_assoc] at heq
              simp only [fOv, Nat.one_mul] at hov
              have hlt : (r.take (c.getD (Int.toNat k) (dflt .part)).n.toNat).length ≤ 20000 := by rw [List.length_take]; omega
              have hok2 : Ok ⟨3, 0, (r.take (c.getD (Int.toNat k) (dflt .part)).n.toNat).drop (Int.toNat 0)⟩ := ⟨.inr (.inr rfl), Int.le_refl _, fun h => absurd rfl h, fun _ => rfl⟩
              have hex : ex ⟨3, 0, (r.take (c.getD (Int.toNat k) (dflt .part)).n.toNat).drop (Int.toNat 0)⟩ = (r.take (c.getD (Int.toNat k) (dflt .part)).n.toNat).map Prim.put := ex_put rfl
              refine And.intro ⟨Int.le_refl _, by omega, by omega⟩ ?_
              refine Or.inr (Exists.intro [] (Exists.intro _ (Exists.intro _ (Exists.intro _ (Exists.intro _ (Exists.intro _ (Exists.intro [(1000, 8), (1001, 9)] (And.intro (spec68 (vb pre) ⟨3, 0, (r.take (c.getD (Int.toNat k) (dflt .part)).n.toNat).drop (Int.toNat 0)⟩ hbd hok2 (by simp only; omega) (by show ((r.take (c.getD (Int.toNat k) (dflt .part)).n.toNat).drop 0).length ≤ 100000000; rw [List.drop_zero]; omega)) ?_))))))))
              refine (And.intro rfl (And.intro rfl (And.intro rfl (And.intro rfl (And.intro rfl ?_)))))
              refine And.intro ⟨by omega, by omega, Int.le_refl _⟩ ?_
              refine And.intro ⟨by omega, by omega⟩ ?_
              refine Exists.intro [] (Exists.intro ⟨r.drop (c.getD (Int.toNat k) (dflt .part)).n.toNat, pre ++ (r.take (c.getD (Int.toNat k) (dflt .part)).n.toNat).map Prim.put, k + 1⟩ (And.intro ⟨hk, heq, (by simp only [List.length_drop]; omega), (by simp only [List.length_drop]; omega), (by simp only [List.length_append, List.length_map]; omega)⟩ (And.intro ?_ ?_)))
              · rw [hr, vb_add pre hok2, hex]
                (repeat' (first | exact trivial | exact Or.inl rfl | refine And.intro ?_ ?_))
              · show c.length - (k + 1) < c.length - k
                omega
            · have hk2 : (c.getD (Int.toNat k) (dflt .part)).kind ≠ 2 := by simpa using hk2
              have hk3 : (c.getD (Int.toNat k) (dflt .part)).kind = 3 := by omega
              refine And.intro (fun _ => ?_) (fun h9 => absurd hk3 (by simpa using h9))
              rw [ex_put hk3] at hov heq
              rw [inv_puts, ← List.append_assoc] at heq
              have hok2 : Ok ⟨2, ((c.getD (Int.toNat k) (dflt .part)).s.length : Int), []⟩ := ⟨.inr (.inl rfl), by simp, fun _ => rfl, fun h => by cases h⟩
              have hex : ex ⟨2, ((c.getD (Int.toNat k) (dflt .part)).s.length : Int), []⟩ = List.replicate (c.getD (Int.toNat k) (dflt .part)).s.length Prim.cut := by rw [ex_cut rfl]; simp
              intro _
              refine Or.inr (Exists.intro [] (Exists.intro _ (Exists.intro _ (Exists.intro _ (Exists.intro _ (Exists.intro _ (Exists.intro [(1000, 8), (1001, 9)] (And.intro (spec68 (vb pre) ⟨2, ((c.getD (Int.toNat k) (dflt .part)).s.length : Int), []⟩ hbd hok2 (by simp only; omega) (by simp)) ?_))))))))
              refine (And.intro rfl (And.intro rfl (And.intro rfl (And.intro rfl (And.intro rfl ?_)))))
              refine And.intro ⟨by omega, by omega⟩ ?_
              refine Exists.intro [] (Exists.intro ⟨r, pre ++ List.replicate (c.getD (Int.toNat k) (dflt .part)).s.length Prim.cut, k + 1⟩ (And.intro ⟨hk, heq, (by simp only; omega), hro, (by simp only [List.length_append, List.length_replicate]; omega)⟩ (And.intro ?_ ?_)))
              · rw [vb_add pre hok2, hex]
                (repeat' (first | exact trivial | exact Or.inl rfl | refine And.intro ?_ ?_))
              · show c.length - (k + 1) < c.length - k
                omega
        · have hk : k = c.length := by have : ¬ (k : Int) < c.length := of_decide_eq_false hc; omega
          subst hk
          have heq := hx.eq
          simp only [List.drop_length, exs_nil, inv, List.append_nil] at heq
          refine Or.inr (Exists.intro [] (Exists.intro _ (Exists.intro _ (Exists.intro _ (Exists.intro _ (Exists.intro _ (Exists.intro [(1000, 8), (1001, 9)] (And.intro (spec72 (vb pre) hbd) ?_))))))))
          refine (And.intro rfl (And.intro rfl (And.intro rfl (And.intro rfl (And.intro rfl ?_)))))
          show _ = invR s c
          rw [invR, if_neg (by simpa using h), if_neg (by simpa using heq0), invC, ← heq]
          rfl
    · have ha : PSpec Try.prog 23 [.s s, .rd .part c] (.tup [.s [], .i .i64 1]) := by have := s_Apply s c; rw [applyR, if_neg (by simpa using h), if_pos (by simpa using heq0)] at this; exact this
      refine Or.inl (Exists.intro _ (And.intro (ha) ?_))
      refine And.intro (fun _ => ?_) (fun h9 => absurd h9 (by decide))
      show _ = invR s c
      rw [invR, if_neg (by simpa using h), if_pos (by simpa using heq0)]
      rfl
  · have ha : PSpec Try.prog 23 [.s s, .rd .part c] (.tup [.s [], .i .i64 (chk c).2.2]) := by have := s_Apply s c; rw [applyR, if_pos (by simpa using h)] at this; exact this
    refine Or.inl (Exists.intro _ (And.intro (ha) ?_))
    refine And.intro (fun _ => ?_) (fun h9 => absurd h9 (by simpa using h))
    show _ = invR s c
    rw [invR, if_pos (by simpa using h)]
    rfl
theorem s_Invert (s : Str) (c : List Part) : PSpec Try.prog 24 [.s s, .rd .part c] (invR s c) :=
  pspec_of_vc Γ_good Try.func24 rfl Try.call24 Try.results24 Try.ntmps24 (Nat.le_of_ble_eq_true rfl) (w_Invert s c)
end Go.Proofs.Ytjlbaagnoppfgaa
