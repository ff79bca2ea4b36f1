/-
  A part of the proof that 'typecaselaw.SpliceTransforms' returns true, whatever the input: what is put and what stays, walked. No conditions.
-/
import Derived.Test.YtjlbaagnoppfgaaSplU
namespace Go.Proofs.Ytjlbaagnoppfgaa
open Go Go.SX Go.Spl
set_option maxRecDepth 100000
set_option maxHeartbeats 0
theorem walk80 (l : List Atom) (s : Str) (hl : l.length ≤ 100000000) (hs : s.length ≤ 100000000) :
    vc Try.prog Γ 20 [0, 1, 4, 5, 9] (Try.f80.body.getD .skip) (postBK Γ [.tmp 4] (.vec 1000 .atom (l ++ s.map (fun b => ⟨-1, (b.toNat : Int)⟩))) []) ⟨argSlots 0 [.vec 1000 .atom l, .s s], []⟩ := by
  refine Exists.intro [] (Exists.intro [] (Exists.intro [] (Exists.intro Nat (Exists.intro (fun i => i ≤ s.length) (Exists.intro (fun i => ⟨[(0, .vec 1000 .atom (l ++ (s.take i).map (fun b => ⟨-1, (b.toNat : Int)⟩))), (1, .s s), (5, .i .i64 i)], []⟩) (Exists.intro (fun i => s.length - i) (Exists.intro 0 (And.intro (Nat.zero_le _) (And.intro ?_ ?_)))))))))
  · refine And.intro (And.intro (Or.inl ?_) (And.intro (Or.inl rfl) (And.intro (Or.inl rfl) trivial))) trivial
    simp
  · intro i hi hsl
    have hlt : ((s.take i).map (fun b => (⟨-1, (b.toNat : Int)⟩ : Atom))).length = i := by rw [List.length_map, List.length_take]; omega
    refine And.intro (fun h5 => ?_) (fun h5 => ?_)
    · have hi : i < s.length := by have := of_decide_eq_true h5; omega
      refine And.intro ⟨by omega, by omega⟩ ?_
      refine And.intro (by show ((l ++ (s.take i).map (fun b => (⟨-1, (b.toNat : Int)⟩ : Atom))).length + 1) * 16 ≤ _; rw [List.length_append, hlt]; omega) ?_
      refine And.intro ⟨by show (-9223372036854775808 : Int) ≤ _; omega, by show _ ≤ (9223372036854775807 : Int); omega⟩ ?_
      refine Exists.intro [(18, 1000)] (Exists.intro (i + 1) (And.intro hi (And.intro ?_ ?_)))
      · refine And.intro (And.intro (Or.inl ?_) (And.intro (Or.inl rfl) (And.intro (Or.inl rfl) trivial))) trivial
        show AV.vec 1000 .atom ((l ++ (s.take i).map (fun b => (⟨-1, (b.toNat : Int)⟩ : Atom))) ++ [(⟨-1, ((s.getD (Int.toNat i) 0).toNat : Int)⟩ : Atom)]) = AV.vec 1000 .atom (l ++ (s.take (i + 1)).map (fun b => (⟨-1, (b.toNat : Int)⟩ : Atom)))
        rw [List.take_add_one, List.map_append, List.append_assoc, Int.toNat_natCast, List.getElem?_eq_getElem hi, List.getD_eq_getElem?_getD, List.getElem?_eq_getElem hi]
        rfl
      · show s.length - (i + 1) < s.length - i
        omega
    · have hi : i = s.length := by have := of_decide_eq_false h5; omega
      subst hi
      refine Exists.intro [] (And.intro ?_ trivial)
      show AV.vec 1000 .atom (l ++ (s.take s.length).map (fun b => (⟨-1, (b.toNat : Int)⟩ : Atom))) = _
      rw [List.take_length]
theorem spec80 (l : List Atom) (s : Str) (hl : l.length ≤ 100000000) (hs : s.length ≤ 100000000) : CSpec Try.prog 80 [.vec 1000 .atom l, .s s] [] (.vec 1000 .atom (l ++ s.map (fun b => ⟨-1, (b.toNat : Int)⟩))) [] :=
  cspec_of_vc Γ_good Try.func80 rfl Try.call80 Try.results80 Try.ntmps80 (Nat.le_of_ble_eq_true rfl) (Nat.le_of_ble_eq_true rfl) (by rfl) (walk80 l s hl hs)
theorem walk81 (l : List Atom) (i m : Nat) (hl : l.length ≤ 100000000) (hi : i ≤ 100000000) (hm : m ≤ 100000000) :
    vc Try.prog Γ 21 [0, 1, 2, 6, 7, 8, 9, 10] (Try.f81.body.getD .skip) (postBK Γ [.tmp 6] (.vec 1000 .atom (l ++ wholeFrom i m)) []) ⟨argSlots 0 [.vec 1000 .atom l, .i .i64 i, .i .i64 m], []⟩ := by
  refine Exists.intro [] (Exists.intro [] (Exists.intro [] (Exists.intro Nat (Exists.intro (fun j => j ≤ m) (Exists.intro (fun j => ⟨[(0, .vec 1000 .atom (l ++ wholeFrom i j)), (1, .i .i64 i), (8, .i .i64 m), (9, .i .i64 j)], []⟩) (Exists.intro (fun j => m - j) (Exists.intro 0 (And.intro (Nat.zero_le _) (And.intro ?_ ?_)))))))))
  · refine And.intro (And.intro (Or.inl ?_) (And.intro (Or.inl rfl) (And.intro (Or.inl rfl) (And.intro (Or.inl rfl) trivial)))) trivial
    simp [wholeFrom]
  · intro j hj
    have hlt := wholeFrom_length i j
    refine And.intro (fun h5 => ?_) (fun h5 => ?_)
    · have hj : j < m := by have := of_decide_eq_true h5; omega
      refine And.intro ⟨by show (-9223372036854775808 : Int) ≤ _; omega, by show _ ≤ (9223372036854775807 : Int); omega⟩ ?_
      refine And.intro (by show ((l ++ wholeFrom i j).length + 1) * 16 ≤ _; rw [List.length_append, hlt]; omega) ?_
      refine And.intro ⟨by show (-9223372036854775808 : Int) ≤ _; omega, by show _ ≤ (9223372036854775807 : Int); omega⟩ ?_
      refine Exists.intro [(18, 1000)] (Exists.intro (j + 1) (And.intro hj (And.intro ?_ ?_)))
      · refine And.intro (And.intro (Or.inl ?_) (And.intro (Or.inl rfl) (And.intro (Or.inl rfl) (And.intro (Or.inl rfl) trivial)))) trivial
        show AV.vec 1000 .atom ((l ++ wholeFrom i j) ++ [(⟨(i : Int) + j, 0⟩ : Atom)]) = AV.vec 1000 .atom (l ++ wholeFrom i (j + 1))
        rw [wholeFrom_succ, List.append_assoc]
        rfl
      · show m - (j + 1) < m - j
        omega
    · have hj : j = m := by have := of_decide_eq_false h5; omega
      subst hj
      exact Exists.intro [] (And.intro rfl trivial)
theorem spec81 (l : List Atom) (i m : Nat) (hl : l.length ≤ 100000000) (hi : i ≤ 100000000) (hm : m ≤ 100000000) : CSpec Try.prog 81 [.vec 1000 .atom l, .i .i64 i, .i .i64 m] [] (.vec 1000 .atom (l ++ wholeFrom i m)) [] :=
  cspec_of_vc Γ_good Try.func81 rfl Try.call81 Try.results81 Try.ntmps81 (Nat.le_of_ble_eq_true rfl) (Nat.le_of_ble_eq_true rfl) (by rfl) (walk81 l i m hl hi hm)
theorem ex_ok_len {l : List Part} {k : Nat} (hk : k < l.length) : (l.take (k + 1)) = l.take k ++ [l.getD k default] := by
  rw [List.take_add_one, List.getElem?_eq_getElem hk, List.getD_eq_getElem?_getD, List.getElem?_eq_getElem hk]; rfl
theorem gaps_elem (x : List Prim) : ∀ q ∈ gapsS x, q.length ≤ x.length := by
  induction x with
  | nil => intro q hq; simp [gapsS] at hq; subst hq; exact Nat.le_refl _
  | cons p x ih =>
    intro q hq
    obtain ⟨q0, r, hg⟩ := gapsS_ne x
    rw [hg] at ih
    cases p with
    | put c =>
      simp only [gapsS, hg] at hq
      rcases List.mem_cons.1 hq with rfl | hq
      · have := ih q0 (List.mem_cons_self ..); simp only [List.length_cons]; omega
      · have := ih q (List.mem_cons_of_mem _ hq); simp only [List.length_cons]; omega
    | keep =>
      simp only [gapsS, hg] at hq
      rcases List.mem_cons.1 hq with rfl | hq
      · simp
      · have := ih q hq; simp only [List.length_cons]; omega
    | cut =>
      simp only [gapsS, hg] at hq
      rcases List.mem_cons.1 hq with rfl | hq
      · simp
      · have := ih q hq; simp only [List.length_cons]; omega
theorem PT_elem (x : List Prim) (n i : Nat) : ((PT x n).getD i []).length ≤ x.length := by
  rw [List.getD_eq_getElem?_getD]
  cases h : (PT x n)[i]? with
  | none => simp
  | some q =>
    have hm := List.mem_of_getElem? h
    rw [PT, List.mem_append] at hm
    rcases hm with hm | hm
    · exact gaps_elem x q hm
    · have := List.eq_of_mem_replicate hm; subst this; simp
theorem walk79 (c : List Part) (hc : (chk c).2.2 = 0) : vc Try.prog Γ 56 [0, 1, 4, 5, 6, 7, 8, 10, 17, 18, 19, 20, 24, 25, 28, 29, 30, 37, 43] (Try.f79.body.getD .skip)
    (postK Γ [.tmp 4, .tmp 5] (fun v => v = .tup [.rd .str (gapsS (exs (norm c))), .rd .bool (stays (exs (norm c)))])) ⟨argSlots 0 [.rd .part c, .i .i64 (sumOv c)], []⟩ := by
  obtain ⟨ha1, ha2, ha3, ha4, ha5⟩ := chk_inv hc
  obtain ⟨wa1, wa2⟩ := wt_sums ha2
  have hn : wt fOv (exs (norm c)) = wt fOv (exs c) := norm_wt _ ha2
  have hnl := norm_len ha2 ha1
  have hno := norm_ok ha2
  rw [← wa1]
  rw [← wa1] at ha4
  have hfull : PT (exs (norm c)) (wt fOv (exs c)) = gapsS (exs (norm c)) := by rw [← hn]; exact PT_full _
  have hfull2 : ST (exs (norm c)) (wt fOv (exs c)) = stays (exs (norm c)) := by rw [← hn]; exact ST_full _
  rw [← hfull, ← hfull2]
  generalize hN : wt fOv (exs c) = n at *
  generalize hL : norm c = l at *
  have hmax : wt fMk (exs l) ≤ 20000 := by rw [← hL, norm_wt _ ha2]; omega
  refine Exists.intro [.take 0, .take 1, .take 3, .twoT 2 4 5, .take 6] (And.intro (by kernel_rfl) ?_)
  refine And.intro ⟨by show (-9223372036854775808 : Int) ≤ _; omega, by show _ ≤ (9223372036854775807 : Int); omega⟩ ?_
  have e1 : PT [] n = List.replicate ((n : Int) + 1).toNat [] := by rw [PT_nil]; congr 1
  have e2 : ST [] n = List.replicate (n : Int).toNat false := by rw [ST_nil]; congr 1
  refine Exists.intro ⟨[(0, .rd .part c), (6, .vec 13 .str (PT [] n)), (15, .vec 15 .bool (ST [] n))], []⟩ (And.intro ?_ (And.intro ?_ ?_))
  · refine And.intro ⟨by omega, rfl, by omega, by show (((n : Int) + 1).toNat) * 16 ≤ _; omega⟩ ?_
    refine And.intro ⟨by omega, rfl, by omega, by show ((n : Int).toNat) * 1 ≤ _; omega⟩ ?_
    rw [e1, e2]
    exact And.intro (And.intro (Or.inl rfl) (And.intro (Or.inl rfl) (And.intro (Or.inl rfl) trivial))) trivial
  · refine And.intro ⟨by omega, rfl, by omega, by show ((n : Int).toNat) * 1 ≤ _; omega⟩ ?_
    refine And.intro ⟨by omega, rfl, by omega, by show (((n : Int) + 1).toNat) * 16 ≤ _; omega⟩ ?_
    rw [e1, e2]
    exact And.intro (And.intro (Or.inl rfl) (And.intro (Or.inl rfl) (And.intro (Or.inl rfl) trivial))) trivial
  · refine Or.inl (Exists.intro _ (And.intro (spec25 c hc) ?_))
    rw [hL]
    intro hll
    unfold maxLen at hll
    refine Exists.intro [] (Exists.intro [] (Exists.intro [] (Exists.intro Nat (Exists.intro (fun k => k ≤ l.length) (Exists.intro (fun k => ⟨[(6, .vec 13 .str (PT (exs (l.take k)) n)), (7, .vec 15 .bool (ST (exs (l.take k)) n)), (8, .i .i64 ((wt fOv (exs (l.take k)) : Nat) : Int)), (17, .rd .part l), (18, .i .i64 l.length), (19, .i .i64 k)], []⟩) (Exists.intro (fun k => l.length - k) (Exists.intro 0 (And.intro (Nat.zero_le _) (And.intro ?_ ?_)))))))))
    · exact And.intro (And.intro (Or.inl rfl) (And.intro (Or.inl rfl) (And.intro (Or.inl rfl) (And.intro (Or.inl rfl) (And.intro (Or.inl rfl) (And.intro (Or.inl rfl) trivial)))))) trivial
    · intro k hk
      refine And.intro (fun h1 => ?_) (fun h1 => ?_)
      · have hk : k < l.length := by have := of_decide_eq_true h1; omega
        refine And.intro ⟨by omega, by omega⟩ ?_
        have hm : l.getD k default ∈ l := by rw [List.getD_eq_getElem?_getD, List.getElem?_eq_getElem hk]; exact List.getElem_mem hk
        obtain ⟨hok, _⟩ := hno _ hm
        have htk := ex_ok_len hk
        have hex1 : exs (l.take (k + 1)) = exs (l.take k) ++ ex (l.getD k default) := by rw [htk, exs_append]; simp [exs, -List.getD_eq_getElem?_getD]
        have hsplit : exs l = exs (l.take (k + 1)) ++ exs (l.drop (k + 1)) := by rw [← exs_append, List.take_append_drop]
        have hwn : wt fOv (exs (l.take k)) + wt fOv (ex (l.getD k default)) ≤ n := by
          rw [← hn, hsplit, hex1, wt_append, wt_append]; omega
        have hwm : wt fMk (ex (l.getD k default)) ≤ 20000 := by
          rw [hsplit, hex1, wt_append, wt_append] at hmax; omega
        have hn0 := hok.n0
        have hp : l.getD (Int.toNat k) (dflt .part) = l.getD k default := by rw [Int.toNat_natCast]
        refine And.intro (fun h2 => ?_) (fun h2 => ?_)
        · have hk1 : (l.getD k default).kind = 1 := by rw [← hp]; simpa using h2
          have hex := ex_keep hk1
          rw [hex, wt_rep] at hwn
          simp only [fOv, Nat.one_mul] at hwn
          have hw1 : wt fOv (exs (l.take (k + 1))) = wt fOv (exs (l.take k)) + (l.getD k default).n.toNat := by rw [hex1, hex, wt_append, wt_rep]; simp [fOv, -List.getD_eq_getElem?_getD]
          refine Exists.intro [] (Exists.intro [] (Exists.intro [] (Exists.intro Nat (Exists.intro (fun m => m ≤ (l.getD k default).n.toNat) (Exists.intro (fun m => ⟨[(6, .vec 13 .str (PT (exs (l.take k)) n)), (7, .vec 15 .bool (ST (exs (l.take k) ++ List.replicate m Prim.keep) n)), (8, .i .i64 ((wt fOv (exs (l.take k)) + m : Nat) : Int)), (17, .rd .part l), (18, .i .i64 l.length), (19, .i .i64 k), (28, .i .i64 (l.getD k default).n), (29, .i .i64 m)], []⟩) (Exists.intro (fun m => (l.getD k default).n.toNat - m) (Exists.intro 0 (And.intro (Nat.zero_le _) (And.intro ?_ ?_)))))))))
          · refine And.intro (And.intro (Or.inl rfl) (And.intro (Or.inl ?_) (And.intro (Or.inl rfl) (And.intro (Or.inl rfl) (And.intro (Or.inl rfl) (And.intro (Or.inl rfl) (And.intro (Or.inl ?_) (And.intro (Or.inl rfl) trivial)))))))) trivial
            · rw [List.replicate_zero, List.append_nil]
            · show AV.i .i64 (l.getD (Int.toNat k) (dflt .part)).n = _
              rw [hp]
          · intro m hm
            have hwm1 : wt fOv (exs (l.take k) ++ List.replicate m Prim.keep) = wt fOv (exs (l.take k)) + m := by rw [wt_append, wt_rep]; simp [fOv]
            refine And.intro (fun h5 => ?_) (fun h5 => ?_)
            · have hm : m < (l.getD k default).n.toNat := by have := of_decide_eq_true h5; omega
              refine And.intro ⟨by show (0 : Int) ≤ ((wt fOv (exs (l.take k)) + m : Nat) : Int); omega, by show ((wt fOv (exs (l.take k)) + m : Nat) : Int) < ((ST (exs (l.take k) ++ List.replicate m Prim.keep) n).length : Int); rw [ST_len (by omega)]; omega⟩ ?_
              refine And.intro ⟨by show (-9223372036854775808 : Int) ≤ _; omega, by show _ ≤ (9223372036854775807 : Int); omega⟩ ?_
              refine And.intro ⟨by show (-9223372036854775808 : Int) ≤ _; omega, by show _ ≤ (9223372036854775807 : Int); omega⟩ ?_
              refine Exists.intro [] (Exists.intro (m + 1) (And.intro hm (And.intro ?_ ?_)))
              · refine And.intro (And.intro (Or.inl rfl) (And.intro (Or.inl ?_) (And.intro (Or.inl rfl) (And.intro (Or.inl rfl) (And.intro (Or.inl rfl) (And.intro (Or.inl rfl) (And.intro (Or.inl rfl) (And.intro (Or.inl rfl) trivial)))))))) trivial
                show AV.vec 15 .bool ((ST (exs (l.take k) ++ List.replicate m Prim.keep) n).set (Int.toNat ((wt fOv (exs (l.take k)) + m : Nat) : Int)) true) = _
                rw [Int.toNat_natCast, List.replicate_succ', ← List.append_assoc, ST_keep (by omega), hwm1]
              · show (l.getD k default).n.toNat - (m + 1) < (l.getD k default).n.toNat - m
                omega
            · have hm : m = (l.getD k default).n.toNat := by have := of_decide_eq_false h5; omega
              subst hm
              refine And.intro ⟨by show (-9223372036854775808 : Int) ≤ _; omega, by show _ ≤ (9223372036854775807 : Int); omega⟩ ?_
              refine Exists.intro [] (Exists.intro (k + 1) (And.intro hk (And.intro ?_ ?_)))
              · refine And.intro (And.intro (Or.inl ?_) (And.intro (Or.inl ?_) (And.intro (Or.inl ?_) (And.intro (Or.inl rfl) (And.intro (Or.inl rfl) (And.intro (Or.inl rfl) trivial)))))) trivial
                · rw [hex1, hex, PT_ops (.inl rfl) _ hwn]
                · rw [hex1, hex]
                · rw [hw1]
              · show l.length - (k + 1) < l.length - k
                omega
        · have hk1 : (l.getD k default).kind ≠ 1 := by rw [← hp]; simpa using h2
          refine And.intro (fun h3 => ?_) (fun h3 => ?_)
          · have hk2 : (l.getD k default).kind = 2 := by rw [← hp]; simpa using h3
            have hex := ex_cut hk2
            rw [hex, wt_rep] at hwn
            simp only [fOv, Nat.one_mul] at hwn
            have hw1 : wt fOv (exs (l.take (k + 1))) = wt fOv (exs (l.take k)) + (l.getD k default).n.toNat := by rw [hex1, hex, wt_append, wt_rep]; simp [fOv, -List.getD_eq_getElem?_getD]
            refine And.intro ⟨by show (-9223372036854775808 : Int) ≤ (wt fOv (exs (l.take k)) : Int) + (l.getD k default).n; omega, by show (wt fOv (exs (l.take k)) : Int) + (l.getD k default).n ≤ (9223372036854775807 : Int); omega⟩ ?_
            refine And.intro ⟨by show (-9223372036854775808 : Int) ≤ _; omega, by show _ ≤ (9223372036854775807 : Int); omega⟩ ?_
            refine Exists.intro [] (Exists.intro (k + 1) (And.intro hk (And.intro ?_ ?_)))
            · refine And.intro (And.intro (Or.inl ?_) (And.intro (Or.inl ?_) (And.intro (Or.inl ?_) (And.intro (Or.inl rfl) (And.intro (Or.inl rfl) (And.intro (Or.inl rfl) trivial)))))) trivial
              · rw [hex1, hex, PT_ops (.inr rfl) _ hwn]
              · rw [hex1, hex, ST_cuts _ hwn]
              · show AV.i .i64 ((wt fOv (exs (l.take k)) : Int) + (l.getD k default).n) = _
                rw [hw1]
                exact congrArg (AV.i .i64) (by omega)
            · show l.length - (k + 1) < l.length - k
              omega
          · have hk2 : (l.getD k default).kind ≠ 2 := by rw [← hp]; simpa using h3
            refine And.intro (fun h4 => ?_) (fun h4 => ?_)
            · have hk3 : (l.getD k default).kind = 3 := by rw [← hp]; simpa using h4
              have hex := ex_put hk3
              refine Exists.intro [.blk [0, 1, 2, 3, 4, 5, 6, 7], .one 8] (And.intro (by kernel_rfl) ?_)
              have hwk : wt fOv (exs (l.take k)) ≤ n := by omega
              have hw1 : wt fOv (exs (l.take (k + 1))) = wt fOv (exs (l.take k)) := by rw [hex1, hex, wt_append, wt_puts fOv 0 (fun _ => rfl)]; simp
              have hgl : ((PT (exs (l.take k)) n).getD (wt fOv (exs (l.take k))) []).length ≤ 10000000 := by
                have h6 := PT_elem (exs (l.take k)) n (wt fOv (exs (l.take k)))
                have h7 : (exs (l.take k)).length ≤ (exs l).length := by rw [hsplit, hex1, List.length_append, List.length_append]; omega
                omega
              have hsl : (l.getD k default).s.length ≤ 10000000 := by
                have h7 : (ex (l.getD k default)).length ≤ (exs l).length := by rw [hsplit, hex1, List.length_append, List.length_append]; omega
                rw [hex, List.length_map] at h7
                omega
              refine And.intro ⟨by show (0 : Int) ≤ (wt fOv (exs (l.take k)) : Int); omega, by show (wt fOv (exs (l.take k)) : Int) < ((PT (exs (l.take k)) n).length : Int); rw [PT_len hwk]; omega⟩ ?_
              refine And.intro (by show ((PT (exs (l.take k)) n).getD (Int.toNat (wt fOv (exs (l.take k)))) []).length + (l.getD k default).s.length ≤ maxLen; rw [Int.toNat_natCast]; unfold maxLen; omega) ?_
              refine And.intro ⟨by show (0 : Int) ≤ (wt fOv (exs (l.take k)) : Int); omega, by show (wt fOv (exs (l.take k)) : Int) < ((PT (exs (l.take k)) n).length : Int); rw [PT_len hwk]; omega⟩ ?_
              refine And.intro ⟨by show (-9223372036854775808 : Int) ≤ _; omega, by show _ ≤ (9223372036854775807 : Int); omega⟩ ?_
              refine Exists.intro [] (Exists.intro (k + 1) (And.intro hk (And.intro ?_ ?_)))
              · refine And.intro (And.intro (Or.inl ?_) (And.intro (Or.inl ?_) (And.intro (Or.inl ?_) (And.intro (Or.inl rfl) (And.intro (Or.inl rfl) (And.intro (Or.inl rfl) trivial)))))) trivial
                · show AV.vec 13 .str ((PT (exs (l.take k)) n).set (Int.toNat (wt fOv (exs (l.take k)))) ((PT (exs (l.take k)) n).getD (Int.toNat (wt fOv (exs (l.take k)))) [] ++ (l.getD k default).s)) = _
                  rw [Int.toNat_natCast, hex1, hex, PT_puts]
                · rw [hex1, hex, ST_puts]
                · rw [hw1]
              · show l.length - (k + 1) < l.length - k
                omega
            · have hk3 : (l.getD k default).kind ≠ 3 := by rw [← hp]; simpa using h4
              have := hok.kind
              omega
      · have hk : k = l.length := by have := of_decide_eq_false h1; omega
        subst hk
        show AV.tup [.rd .str (PT (exs (l.take l.length)) n), .rd .bool (ST (exs (l.take l.length)) n)] = _
        rw [List.take_length]
theorem spec79 (c : List Part) (hc : (chk c).2.2 = 0) : PSpec Try.prog 79 [.rd .part c, .i .i64 (sumOv c)] (.tup [.rd .str (gapsS (exs (norm c))), .rd .bool (stays (exs (norm c)))]) :=
  pspec_of_vc Γ_good Try.func79 rfl Try.call79 Try.results79 Try.ntmps79 (Nat.le_of_ble_eq_true rfl) (walk79 c hc)
end Go.Proofs.Ytjlbaagnoppfgaa
