/-
  A part of the proof that 'typecaselaw.SpliceTransforms' returns true, whatever the input: the document's Over, walked. No conditions.
-/
import Derived.Test.YtjlbaagnoppfgaaSplV
namespace Go.Proofs.Ytjlbaagnoppfgaa
open Go Go.SX Go.Spl
set_option maxRecDepth 100000
set_option maxHeartbeats 0
theorem am_segL (L : List Prim) (p q : Str) (s t : Bool) : am (L ++ segL p q s t) = ((am L ++ p.map (fun b => ⟨-1, (b.toNat : Int)⟩)) ++ wholeFrom (wt fOv L) q.length) ++ (if t then (if s then wholeFrom (wt fOv L + q.length) 1 else []) else []) ∧
    wt fOv (L ++ segL p q s t) = wt fOv L + q.length + (if t then 1 else 0) := by
  have w1 : wt fOv (L ++ p.map Prim.put) = wt fOv L := by rw [wt_append, wt_puts fOv 0 (fun _ => rfl)]; simp
  have w2 : wt fOv ((L ++ p.map Prim.put) ++ List.replicate q.length Prim.keep) = wt fOv L + q.length := by rw [wt_append, w1, wt_rep]; simp [fOv]
  have e : L ++ segL p q s t = ((L ++ p.map Prim.put) ++ List.replicate q.length Prim.keep) ++ (if t then [if s then Prim.keep else Prim.cut] else []) := by unfold segL; simp only [List.append_assoc]
  rw [e]
  cases t with
  | false => simp only [Bool.false_eq_true, if_false, List.append_nil, Nat.add_zero]; rw [am_keeps, am_puts, w1, w2]; exact ⟨rfl, rfl⟩
  | true =>
    simp only [if_true]
    refine ⟨?_, by rw [wt_append, w2]; cases s <;> rfl⟩
    cases s with
    | true =>
      have := am_keeps ((L ++ p.map Prim.put) ++ List.replicate q.length Prim.keep) 1
      simp only [List.replicate_one] at this
      simp only [if_true]
      rw [this, am_keeps, am_puts, w1, w2]
    | false => simp only [Bool.false_eq_true, if_false, List.append_nil]; rw [am_cut, am_keeps, am_puts, w1]
theorem am_segR (R : List Prim) (p q : Str) (s t : Bool) : am (R ++ segR p q s t) = ((am R ++ wholeFrom (wt fOv R) p.length) ++ q.map (fun b => ⟨-1, (b.toNat : Int)⟩)) ++ (if s then (if t then wholeFrom (wt fOv R + p.length) 1 else []) else []) ∧
    wt fOv (R ++ segR p q s t) = wt fOv R + p.length + (if s then 1 else 0) := by
  have w1 : wt fOv (R ++ List.replicate p.length Prim.keep) = wt fOv R + p.length := by rw [wt_append, wt_rep]; simp [fOv]
  have w2 : wt fOv ((R ++ List.replicate p.length Prim.keep) ++ q.map Prim.put) = wt fOv R + p.length := by rw [wt_append, w1, wt_puts fOv 0 (fun _ => rfl)]; simp
  have e : R ++ segR p q s t = ((R ++ List.replicate p.length Prim.keep) ++ q.map Prim.put) ++ (if s then [if t then Prim.keep else Prim.cut] else []) := by unfold segR; simp only [List.append_assoc]
  rw [e]
  cases s with
  | false => simp only [Bool.false_eq_true, if_false, List.append_nil, Nat.add_zero]; rw [am_puts, am_keeps, w2]; exact ⟨rfl, rfl⟩
  | true =>
    simp only [if_true]
    refine ⟨?_, by rw [wt_append, w2]; cases t <;> rfl⟩
    cases t with
    | true =>
      have := am_keeps ((R ++ List.replicate p.length Prim.keep) ++ q.map Prim.put) 1
      simp only [List.replicate_one] at this
      simp only [if_true]
      rw [this, am_puts, am_keeps, w2]
    | false => simp only [Bool.false_eq_true, if_false, List.append_nil]; rw [am_cut, am_puts, am_keeps]
theorem spec73T (T : List Prim) (h1 : wt fOv T ≤ 1000000) (h2 : T.length ≤ 30000000) : PSpec Try.prog 73 [.rd .atom (am T), .i .i64 ((wt fOv T : Nat) : Int)] (.rd .part (done (T.foldl addP .init))) := by
  have := spec73 (am T) (wt fOv T) h1 (by have := am_len T; omega) (fun a ha => by have := am_pos T (Nat.le_refl _) a ha; omega)
  rwa [show normalOf (am T) (wt fOv T) = done (T.foldl addP .init) from normal_eq T _ rfl] at this
def ost (n : Nat) (X Y : List Prim) (s : OS) : St := ⟨[(6, .i .i64 n), (9, .rd .str (gapsS X)), (10, .rd .bool (stays X)), (11, .rd .str (gapsS Y)), (12, .rd .bool (stays Y)), (13, .vec 100 .atom (am s.L)), (14, .vec 101 .atom (am s.R)),
  (15, .i .i64 (wt fOv s.L : Nat)), (16, .i .i64 (wt fOv s.R : Nat)), (17, .fn 80 []), (18, .fn 81 []), (19, .i .i64 s.c)], []⟩
theorem walk29 (a b : List Part) (ha : (chk a).2.2 = 0) (hb : (chk b).2.2 = 0) (hab : sumOv b = sumOv a) :
    vc Try.prog Γ 128 [0, 1, 4, 5, 6, 9, 10, 11, 12, 13, 14, 15, 16, 17, 18, 19, 40, 91, 101, 113, 119] (Try.f29.body.getD .skip) (postK Γ [.tmp 4, .tmp 5] (fun v => v = .tup [.rd .part (done ((trT a b).1.foldl addP .init)), .rd .part (done ((trT a b).2.foldl addP .init))])) ⟨argSlots 0 [.rd .part a, .rd .part b], []⟩ := by
  obtain ⟨ha1, ha2, ha3, ha4, ha5⟩ := chk_inv ha
  obtain ⟨hb1, hb2, hb3, hb4, hb5⟩ := chk_inv hb
  obtain ⟨wa1, wa2⟩ := wt_sums ha2
  obtain ⟨wb1, wb2⟩ := wt_sums hb2
  have hXl := norm_len ha2 ha1
  have hYl := norm_len hb2 hb1
  have hXo := norm_wt fOv ha2
  have hYo := norm_wt fOv hb2
  have hXm := norm_wt fMk ha2
  have hYm := norm_wt fMk hb2
  have hsB := spec79 b hb
  rw [hab] at hsB
  have htr : trT a b = trG (gapsS (exs (norm a))) (stays (exs (norm a))) (gapsS (exs (norm b))) (stays (exs (norm b))) := tr_gaps _ _ (by omega)
  have hwt := tr_wt (exs (norm a)) (exs (norm b)) (by omega)
  have htl := tr_len (exs (norm a)) (exs (norm b))
  have hTdef : trT a b = tr (exs (norm a)) (exs (norm b)) := rfl
  rw [← hTdef] at hwt htl
  refine Or.inl (Exists.intro (resChk (chk a)) (And.intro (spec19 a) ?_))
  rw [ha3]
  refine Or.inl (Exists.intro _ (And.intro (spec79 a ha) ?_))
  refine Or.inl (Exists.intro _ (And.intro hsB ?_))
  generalize hX : exs (norm a) = X at *
  generalize hY : exs (norm b) = Y at *
  generalize hT : trT a b = T at *
  have hgX := gapsS_len X
  have hgY := gapsS_len Y
  have hsX := stays_len X
  have hsY := stays_len Y
  rw [← wa1]
  generalize hn : wt fOv (exs a) = n at *
  refine Exists.intro [(13, 100, .atom), (14, 101, .atom)] (Exists.intro [] (Exists.intro [] (Exists.intro OS (Exists.intro (OI (gapsS X) (stays X) (gapsS Y) (stays Y) T n) (Exists.intro (ost n X Y) (Exists.intro (fun s => n + 1 - s.c) (Exists.intro ⟨0, [], []⟩ (And.intro ⟨Nat.zero_le _, ?_, ?_⟩ (And.intro ?_ ?_)))))))))
  · rw [htr]; rfl
  · rw [htr]; rfl
  · exact And.intro (And.intro (Or.inl rfl) (And.intro (Or.inl rfl) (And.intro (Or.inl rfl) (And.intro (Or.inl rfl) (And.intro (Or.inl rfl) (And.intro (Or.inl rfl) (And.intro (Or.inl rfl) (And.intro (Or.inl rfl) (And.intro (Or.inl rfl) (And.intro (Or.inl rfl) (And.intro (Or.inl rfl) (And.intro (Or.inl rfl) trivial)))))))))))) trivial
  · intro s hs
    have hle := hs.le
    obtain ⟨bd1, bd2⟩ := hs.bound (by omega) (by omega)
    have hc : (Int.toNat (s.c : Int)) = s.c := Int.toNat_natCast _
    have hal := am_len s.L
    have har := am_len s.R
    have hol := wt_ov_len s.L
    have hor := wt_ov_len s.R
    refine And.intro (fun h1 => ?_) (fun h1 => absurd (of_decide_eq_false h1) (by omega))
    refine And.intro ⟨by omega, by show (s.c : Int) < ((gapsS X).length : Int); omega⟩ ?_
    refine Or.inr (Exists.intro [] (Exists.intro 80 (Exists.intro [.vec 1000 .atom (am s.L), .s ((gapsS X).getD (Int.toNat s.c) [])] (Exists.intro [] (Exists.intro (.vec 1000 .atom ((am s.L) ++ ((gapsS X).getD (Int.toNat s.c) []).map (fun b => ⟨-1, (b.toNat : Int)⟩))) (Exists.intro [] (Exists.intro [(1000, 100)] (And.intro (spec80 (am s.L) ((gapsS X).getD (Int.toNat s.c) []) (by omega) (by rw [hc]; omega)) ?_))))))))
    refine And.intro rfl (And.intro rfl (And.intro rfl (And.intro rfl ?_)))
    refine And.intro ⟨by omega, by show (s.c : Int) < ((gapsS Y).length : Int); omega⟩ ?_
    intro _
    refine Or.inr (Exists.intro [] (Exists.intro 81 (Exists.intro [.vec 1000 .atom (am s.L ++ ((gapsS X).getD (Int.toNat s.c) []).map (fun b => (⟨-1, (b.toNat : Int)⟩ : Atom))), .i .i64 (((wt fOv s.L) : Nat) : Int), .i .i64 ((((gapsS Y).getD (Int.toNat s.c) []).length : Nat) : Int)] (Exists.intro [] (Exists.intro (.vec 1000 .atom ((am s.L ++ ((gapsS X).getD (Int.toNat s.c) []).map (fun b => (⟨-1, (b.toNat : Int)⟩ : Atom))) ++ wholeFrom (wt fOv s.L) ((gapsS Y).getD (Int.toNat s.c) []).length)) (Exists.intro [] (Exists.intro [(1000, 100)] (And.intro (spec81 (am s.L ++ ((gapsS X).getD (Int.toNat s.c) []).map (fun b => (⟨-1, (b.toNat : Int)⟩ : Atom))) (wt fOv s.L) ((gapsS Y).getD (Int.toNat s.c) []).length (by simp only [List.length_append, List.length_map]; rw [hc]; omega) (by omega) (by rw [hc]; omega)) ?_))))))))
    refine And.intro rfl (And.intro rfl (And.intro rfl (And.intro rfl ?_)))
    refine And.intro ⟨by omega, by show (s.c : Int) < ((gapsS X).length : Int); omega⟩ ?_
    intro _
    refine Or.inr (Exists.intro [] (Exists.intro 81 (Exists.intro [.vec 1000 .atom (am s.R), .i .i64 (((wt fOv s.R) : Nat) : Int), .i .i64 ((((gapsS X).getD (Int.toNat s.c) []).length : Nat) : Int)] (Exists.intro [] (Exists.intro (.vec 1000 .atom ((am s.R) ++ wholeFrom (wt fOv s.R) ((gapsS X).getD (Int.toNat s.c) []).length)) (Exists.intro [] (Exists.intro [(1000, 101)] (And.intro (spec81 (am s.R) (wt fOv s.R) ((gapsS X).getD (Int.toNat s.c) []).length (by omega) (by omega) (by rw [hc]; omega)) ?_))))))))
    refine And.intro rfl (And.intro rfl (And.intro rfl (And.intro rfl ?_)))
    refine And.intro ⟨by omega, by show (s.c : Int) < ((gapsS Y).length : Int); omega⟩ ?_
    refine Or.inr (Exists.intro [] (Exists.intro 80 (Exists.intro [.vec 1000 .atom (am s.R ++ wholeFrom (wt fOv s.R) ((gapsS X).getD (Int.toNat s.c) []).length), .s ((gapsS Y).getD (Int.toNat s.c) [])] (Exists.intro [] (Exists.intro (.vec 1000 .atom ((am s.R ++ wholeFrom (wt fOv s.R) ((gapsS X).getD (Int.toNat s.c) []).length) ++ ((gapsS Y).getD (Int.toNat s.c) []).map (fun b => ⟨-1, (b.toNat : Int)⟩))) (Exists.intro [] (Exists.intro [(1000, 101)] (And.intro (spec80 (am s.R ++ wholeFrom (wt fOv s.R) ((gapsS X).getD (Int.toNat s.c) []).length) ((gapsS Y).getD (Int.toNat s.c) []) (by simp only [List.length_append, wholeFrom_length]; rw [hc]; omega) (by rw [hc]; omega)) ?_))))))))
    refine And.intro rfl (And.intro rfl (And.intro rfl (And.intro rfl ?_)))
    refine And.intro ⟨by omega, by show (s.c : Int) < ((gapsS Y).length : Int); omega⟩ ?_
    intro _
    refine And.intro ⟨by show (-9223372036854775808 : Int) ≤ ((wt fOv s.L) : Int) + (((gapsS Y).getD (Int.toNat s.c) []).length : Nat); omega, by show ((wt fOv s.L) : Int) + (((gapsS Y).getD (Int.toNat s.c) []).length : Nat) ≤ (9223372036854775807 : Int); rw [hc]; omega⟩ ?_
    refine And.intro ⟨by omega, by show (s.c : Int) < ((gapsS X).length : Int); omega⟩ ?_
    intro _
    refine And.intro ⟨by show (-9223372036854775808 : Int) ≤ ((wt fOv s.R) : Int) + (((gapsS X).getD (Int.toNat s.c) []).length : Nat); omega, by show ((wt fOv s.R) : Int) + (((gapsS X).getD (Int.toNat s.c) []).length : Nat) ≤ (9223372036854775807 : Int); rw [hc]; omega⟩ ?_
    refine And.intro (fun h2 => ?_) (fun h2 => ?_)
    · have hcn : s.c = n := by have : (s.c : Int) = (n : Int) := by simpa using h2
                               omega
      obtain ⟨f1, f2⟩ := hs.last (by omega) (by omega) (by omega) (by omega) hcn
      have g1 := am_keeps (s.L ++ ((gapsS X).getD (Int.toNat s.c) []).map Prim.put) ((gapsS Y).getD (Int.toNat s.c) []).length
      have g2 := am_puts (s.R ++ List.replicate ((gapsS X).getD (Int.toNat s.c) []).length Prim.keep) ((gapsS Y).getD (Int.toNat s.c) [])
      have w1 : wt fOv (s.L ++ ((gapsS X).getD (Int.toNat s.c) []).map Prim.put) = wt fOv s.L := by rw [wt_append, wt_puts fOv 0 (fun _ => rfl)]; simp
      rw [am_puts, w1, hc, f1] at g1
      rw [am_keeps, hc, f2] at g2
      have v1 : wt fOv T.1 = wt fOv s.L + ((gapsS Y).getD s.c []).length := by rw [← f1, wt_append, ← hc, w1, wt_rep]; simp [fOv]
      have v2 : wt fOv T.2 = wt fOv s.R + ((gapsS X).getD s.c []).length := by rw [← f2, wt_append, wt_append, wt_rep, wt_puts fOv 0 (fun _ => rfl)]; simp [fOv]
      have z1 : PSpec Try.prog 73 [.rd .atom ((am s.L ++ ((gapsS X).getD (Int.toNat s.c) []).map (fun b => (⟨-1, (b.toNat : Int)⟩ : Atom))) ++ wholeFrom (wt fOv s.L) ((gapsS Y).getD (Int.toNat s.c) []).length), .i .i64 (((wt fOv s.L) + ((gapsS Y).getD (Int.toNat s.c) []).length : Nat) : Int)] (.rd .part (done (T.1.foldl addP .init))) := by
        rw [hc, ← g1, ← v1]; exact spec73T T.1 (by omega) (by omega)
      have z2 : PSpec Try.prog 73 [.rd .atom ((am s.R ++ wholeFrom (wt fOv s.R) ((gapsS X).getD (Int.toNat s.c) []).length) ++ ((gapsS Y).getD (Int.toNat s.c) []).map (fun b => (⟨-1, (b.toNat : Int)⟩ : Atom))), .i .i64 (((wt fOv s.R) + ((gapsS X).getD (Int.toNat s.c) []).length : Nat) : Int)] (.rd .part (done (T.2.foldl addP .init))) := by
        rw [hc, ← g2, ← v2]; exact spec73T T.2 (by omega) (by omega)
      refine Or.inl (Exists.intro _ (And.intro z1 ?_))
      refine Or.inl (Exists.intro _ (And.intro z2 ?_))
      show _ = _
      rfl
    · have hcn : s.c < n := by have : ¬ ((s.c : Int) = (n : Int)) := by simpa using h2
                               omega
      have hnext := hs.next (by omega) (by omega) (by omega) (by omega) hcn
      have sl := am_segL s.L ((gapsS X).getD s.c []) ((gapsS Y).getD s.c []) ((stays X).getD s.c false) ((stays Y).getD s.c false)
      have sr := am_segR s.R ((gapsS X).getD s.c []) ((gapsS Y).getD s.c []) ((stays X).getD s.c false) ((stays Y).getD s.c false)
      have i2 : (0 : Int) ≤ (s.c : Int) ∧ (s.c : Int) < ((stays X).length : Int) := ⟨by omega, by omega⟩
      have i3 : (0 : Int) ≤ (s.c : Int) ∧ (s.c : Int) < ((stays Y).length : Int) := ⟨by omega, by omega⟩
      refine And.intro i2 ?_
      rcases Bool.eq_false_or_eq_true ((stays X).getD (Int.toNat (s.c : Int)) false) with hsa | hsa
      all_goals rcases Bool.eq_false_or_eq_true ((stays Y).getD (Int.toNat (s.c : Int)) false) with hsb | hsb
      · rw [hc] at hsa hsb
        rw [hsa, hsb] at sl sr hnext
        simp only [if_true] at sl sr
        rw [← hc] at hsa hsb
        refine And.intro (fun _ => ?_) (fun h => absurd (hsa.symm.trans h) (by simp))
        refine And.intro i3 ?_
        refine And.intro (fun _ => ?_) (fun h => absurd ((show (bif true then ((stays Y).getD (Int.toNat (s.c : Int)) false) else false) = true from hsb).symm.trans h) (by simp))
        refine Or.inr (Exists.intro [] (Exists.intro 81 (Exists.intro [.vec 1000 .atom ((am s.L ++ ((gapsS X).getD (Int.toNat s.c) []).map (fun b => (⟨-1, (b.toNat : Int)⟩ : Atom))) ++ wholeFrom (wt fOv s.L) ((gapsS Y).getD (Int.toNat s.c) []).length), .i .i64 ((((wt fOv s.L) + ((gapsS Y).getD (Int.toNat s.c) []).length) : Nat) : Int), .i .i64 ((1 : Nat) : Int)] (Exists.intro [] (Exists.intro (.vec 1000 .atom (((am s.L ++ ((gapsS X).getD (Int.toNat s.c) []).map (fun b => (⟨-1, (b.toNat : Int)⟩ : Atom))) ++ wholeFrom (wt fOv s.L) ((gapsS Y).getD (Int.toNat s.c) []).length) ++ wholeFrom ((wt fOv s.L) + ((gapsS Y).getD (Int.toNat s.c) []).length) 1)) (Exists.intro [] (Exists.intro [(1000, 100)] (And.intro (spec81 ((am s.L ++ ((gapsS X).getD (Int.toNat s.c) []).map (fun b => (⟨-1, (b.toNat : Int)⟩ : Atom))) ++ wholeFrom (wt fOv s.L) ((gapsS Y).getD (Int.toNat s.c) []).length) ((wt fOv s.L) + ((gapsS Y).getD (Int.toNat s.c) []).length) 1 (by simp only [List.length_append, List.length_map, wholeFrom_length]; rw [hc]; omega) (by rw [hc]; omega) (by omega)) ?_))))))))
        refine And.intro rfl (And.intro rfl (And.intro rfl (And.intro rfl ?_)))
        refine Or.inr (Exists.intro [] (Exists.intro 81 (Exists.intro [.vec 1000 .atom ((am s.R ++ wholeFrom (wt fOv s.R) ((gapsS X).getD (Int.toNat s.c) []).length) ++ ((gapsS Y).getD (Int.toNat s.c) []).map (fun b => (⟨-1, (b.toNat : Int)⟩ : Atom))), .i .i64 ((((wt fOv s.R) + ((gapsS X).getD (Int.toNat s.c) []).length) : Nat) : Int), .i .i64 ((1 : Nat) : Int)] (Exists.intro [] (Exists.intro (.vec 1000 .atom (((am s.R ++ wholeFrom (wt fOv s.R) ((gapsS X).getD (Int.toNat s.c) []).length) ++ ((gapsS Y).getD (Int.toNat s.c) []).map (fun b => (⟨-1, (b.toNat : Int)⟩ : Atom))) ++ wholeFrom ((wt fOv s.R) + ((gapsS X).getD (Int.toNat s.c) []).length) 1)) (Exists.intro [] (Exists.intro [(1000, 101)] (And.intro (spec81 ((am s.R ++ wholeFrom (wt fOv s.R) ((gapsS X).getD (Int.toNat s.c) []).length) ++ ((gapsS Y).getD (Int.toNat s.c) []).map (fun b => (⟨-1, (b.toNat : Int)⟩ : Atom))) ((wt fOv s.R) + ((gapsS X).getD (Int.toNat s.c) []).length) 1 (by simp only [List.length_append, List.length_map, wholeFrom_length]; rw [hc]; omega) (by rw [hc]; omega) (by omega)) ?_))))))))
        refine And.intro rfl (And.intro rfl (And.intro rfl (And.intro rfl ?_)))
        refine And.intro i3 ?_
        refine And.intro (fun _ => ?_) (fun h => absurd (hsb.symm.trans h) (by simp))
        refine And.intro ⟨by show (-9223372036854775808 : Int) ≤ (((wt fOv s.L) + ((gapsS Y).getD (Int.toNat s.c) []).length) : Nat) + (1 : Int); omega, by show (((wt fOv s.L) + ((gapsS Y).getD (Int.toNat s.c) []).length) : Nat) + (1 : Int) ≤ (9223372036854775807 : Int); rw [hc]; omega⟩ ?_
        refine And.intro i2 ?_
        refine And.intro (fun _ => ?_) (fun h => absurd (hsa.symm.trans h) (by simp))
        refine And.intro ⟨by show (-9223372036854775808 : Int) ≤ (((wt fOv s.R) + ((gapsS X).getD (Int.toNat s.c) []).length) : Nat) + (1 : Int); omega, by show (((wt fOv s.R) + ((gapsS X).getD (Int.toNat s.c) []).length) : Nat) + (1 : Int) ≤ (9223372036854775807 : Int); rw [hc]; omega⟩ ?_
        refine And.intro ⟨by show (-9223372036854775808 : Int) ≤ _; omega, by show _ ≤ (9223372036854775807 : Int); omega⟩ ?_
        refine Exists.intro [] (Exists.intro ⟨s.c + 1, s.L ++ segL ((gapsS X).getD s.c []) ((gapsS Y).getD s.c []) true true, s.R ++ segR ((gapsS X).getD s.c []) ((gapsS Y).getD s.c []) true true⟩ (And.intro hnext (And.intro ?_ ?_)))
        · refine And.intro (And.intro (Or.inl rfl) (And.intro (Or.inl rfl) (And.intro (Or.inl rfl) (And.intro (Or.inl rfl) (And.intro (Or.inl rfl) (And.intro (Or.inl ?_) (And.intro (Or.inl ?_) (And.intro (Or.inl ?_) (And.intro (Or.inl ?_) (And.intro (Or.inl rfl) (And.intro (Or.inl rfl) (And.intro (Or.inl rfl) trivial)))))))))))) trivial
          · rw [sl.1, hc]
          · rw [sr.1, hc]
          · rw [sl.2, hc]; rfl
          · rw [sr.2, hc]; rfl
        · show n + 1 - (s.c + 1) < n + 1 - s.c
          omega
      · rw [hc] at hsa hsb
        rw [hsa, hsb] at sl sr hnext
        simp only [Bool.false_eq_true, if_true, if_false, List.append_nil, Nat.add_zero] at sl sr
        rw [← hc] at hsa hsb
        refine And.intro (fun _ => ?_) (fun h => absurd (hsa.symm.trans h) (by simp))
        refine And.intro i3 ?_
        refine And.intro (fun h => absurd ((show (bif true then ((stays Y).getD (Int.toNat (s.c : Int)) false) else false) = false from hsb).symm.trans h) (by simp)) (fun _ => ?_)
        refine And.intro i3 ?_
        refine And.intro (fun h => absurd (hsb.symm.trans h) (by simp)) (fun _ => ?_)
        refine And.intro i2 ?_
        refine And.intro (fun _ => ?_) (fun h => absurd (hsa.symm.trans h) (by simp))
        refine And.intro ⟨by show (-9223372036854775808 : Int) ≤ (((wt fOv s.R) + ((gapsS X).getD (Int.toNat s.c) []).length) : Nat) + (1 : Int); omega, by show (((wt fOv s.R) + ((gapsS X).getD (Int.toNat s.c) []).length) : Nat) + (1 : Int) ≤ (9223372036854775807 : Int); rw [hc]; omega⟩ ?_
        refine And.intro ⟨by show (-9223372036854775808 : Int) ≤ _; omega, by show _ ≤ (9223372036854775807 : Int); omega⟩ ?_
        refine Exists.intro [] (Exists.intro ⟨s.c + 1, s.L ++ segL ((gapsS X).getD s.c []) ((gapsS Y).getD s.c []) true false, s.R ++ segR ((gapsS X).getD s.c []) ((gapsS Y).getD s.c []) true false⟩ (And.intro hnext (And.intro ?_ ?_)))
        · refine And.intro (And.intro (Or.inl rfl) (And.intro (Or.inl rfl) (And.intro (Or.inl rfl) (And.intro (Or.inl rfl) (And.intro (Or.inl rfl) (And.intro (Or.inl ?_) (And.intro (Or.inl ?_) (And.intro (Or.inl ?_) (And.intro (Or.inl ?_) (And.intro (Or.inl rfl) (And.intro (Or.inl rfl) (And.intro (Or.inl rfl) trivial)))))))))))) trivial
          · rw [sl.1, hc]
          · rw [sr.1, hc]
          · rw [sl.2, hc]; rfl
          · rw [sr.2, hc]; rfl
        · show n + 1 - (s.c + 1) < n + 1 - s.c
          omega
      · rw [hc] at hsa hsb
        rw [hsa, hsb] at sl sr hnext
        simp only [Bool.false_eq_true, if_true, if_false, List.append_nil, Nat.add_zero] at sl sr
        rw [← hc] at hsa hsb
        refine And.intro (fun h => absurd (hsa.symm.trans h) (by simp)) (fun _ => ?_)
        refine And.intro (fun h => absurd h (by simp)) (fun _ => ?_)
        refine And.intro i3 ?_
        refine And.intro (fun _ => ?_) (fun h => absurd (hsb.symm.trans h) (by simp))
        refine And.intro ⟨by show (-9223372036854775808 : Int) ≤ (((wt fOv s.L) + ((gapsS Y).getD (Int.toNat s.c) []).length) : Nat) + (1 : Int); omega, by show (((wt fOv s.L) + ((gapsS Y).getD (Int.toNat s.c) []).length) : Nat) + (1 : Int) ≤ (9223372036854775807 : Int); rw [hc]; omega⟩ ?_
        refine And.intro i2 ?_
        refine And.intro (fun h => absurd (hsa.symm.trans h) (by simp)) (fun _ => ?_)
        refine And.intro ⟨by show (-9223372036854775808 : Int) ≤ _; omega, by show _ ≤ (9223372036854775807 : Int); omega⟩ ?_
        refine Exists.intro [] (Exists.intro ⟨s.c + 1, s.L ++ segL ((gapsS X).getD s.c []) ((gapsS Y).getD s.c []) false true, s.R ++ segR ((gapsS X).getD s.c []) ((gapsS Y).getD s.c []) false true⟩ (And.intro hnext (And.intro ?_ ?_)))
        · refine And.intro (And.intro (Or.inl rfl) (And.intro (Or.inl rfl) (And.intro (Or.inl rfl) (And.intro (Or.inl rfl) (And.intro (Or.inl rfl) (And.intro (Or.inl ?_) (And.intro (Or.inl ?_) (And.intro (Or.inl ?_) (And.intro (Or.inl ?_) (And.intro (Or.inl rfl) (And.intro (Or.inl rfl) (And.intro (Or.inl rfl) trivial)))))))))))) trivial
          · rw [sl.1, hc]
          · rw [sr.1, hc]
          · rw [sl.2, hc]; rfl
          · rw [sr.2, hc]; rfl
        · show n + 1 - (s.c + 1) < n + 1 - s.c
          omega
      · rw [hc] at hsa hsb
        rw [hsa, hsb] at sl sr hnext
        simp only [Bool.false_eq_true, if_false, List.append_nil, Nat.add_zero] at sl sr
        rw [← hc] at hsa hsb
        refine And.intro (fun h => absurd (hsa.symm.trans h) (by simp)) (fun _ => ?_)
        refine And.intro (fun h => absurd h (by simp)) (fun _ => ?_)
        refine And.intro i3 ?_
        refine And.intro (fun h => absurd (hsb.symm.trans h) (by simp)) (fun _ => ?_)
        refine And.intro i2 ?_
        refine And.intro (fun h => absurd (hsa.symm.trans h) (by simp)) (fun _ => ?_)
        refine And.intro ⟨by show (-9223372036854775808 : Int) ≤ _; omega, by show _ ≤ (9223372036854775807 : Int); omega⟩ ?_
        refine Exists.intro [] (Exists.intro ⟨s.c + 1, s.L ++ segL ((gapsS X).getD s.c []) ((gapsS Y).getD s.c []) false false, s.R ++ segR ((gapsS X).getD s.c []) ((gapsS Y).getD s.c []) false false⟩ (And.intro hnext (And.intro ?_ ?_)))
        · refine And.intro (And.intro (Or.inl rfl) (And.intro (Or.inl rfl) (And.intro (Or.inl rfl) (And.intro (Or.inl rfl) (And.intro (Or.inl rfl) (And.intro (Or.inl ?_) (And.intro (Or.inl ?_) (And.intro (Or.inl ?_) (And.intro (Or.inl ?_) (And.intro (Or.inl rfl) (And.intro (Or.inl rfl) (And.intro (Or.inl rfl) trivial)))))))))))) trivial
          · rw [sl.1, hc]
          · rw [sr.1, hc]
          · rw [sl.2, hc]; rfl
          · rw [sr.2, hc]; rfl
        · show n + 1 - (s.c + 1) < n + 1 - s.c
          omega
theorem spec29 (a b : List Part) (ha : (chk a).2.2 = 0) (hb : (chk b).2.2 = 0) (hab : sumOv b = sumOv a) : PSpec Try.prog 29 [.rd .part a, .rd .part b] (.tup [.rd .part (done ((trT a b).1.foldl addP .init)), .rd .part (done ((trT a b).2.foldl addP .init))]) :=
  pspec_of_vc Γ_good Try.func29 rfl Try.call29 Try.results29 Try.ntmps29 (Nat.le_of_ble_eq_true rfl) (walk29 a b ha hb hab)
end Go.Proofs.Ytjlbaagnoppfgaa
