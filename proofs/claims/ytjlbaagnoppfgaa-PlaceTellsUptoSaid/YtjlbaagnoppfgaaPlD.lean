/-
  A part of the proof that 'typecaselaw.PlaceTells' returns true: the law. No conditions.
-/
import Derived.Test.YtjlbaagnoppfgaaPlC
namespace Go.Proofs.Ytjlbaagnoppfgaa
open Go Go.SX Go.Spl
set_option maxRecDepth 100000
set_option maxHeartbeats 0
theorem rng64 {n : Int} (h1 : -9223372036854775808 ≤ n) (h2 : n ≤ 9223372036854775807) : Rng .i64 n := ⟨h1, h2⟩
theorem upTo_hit {l : List Int} {a x : Int} {i : Nat} (hs : l.Pairwise (· < ·)) (h : l[i]? = some x) (hx : x ≤ a) : upTo (l.take (i + 1)) a = i + 1 := by
  have hi := (List.getElem?_eq_some_iff.1 h).1
  refine upTo_eq (by rw [List.length_take]; omega) (fun m y hm hy => ?_) (fun y hy => ?_)
  · rw [List.getElem?_take, if_pos hm] at hy
    rcases Nat.lt_or_ge m i with h1 | h1
    · have := inc_lt hs hy h h1; omega
    · have : m = i := by omega
      subst this; rw [h] at hy; injection hy with hy; omega
  · rw [List.getElem?_take, if_neg (by omega)] at hy; cases hy
theorem upTo_miss {l : List Int} {a x : Int} {i : Nat} (h : l[i]? = some x) (hx : a < x) : upTo (l.take (i + 1)) a = upTo (l.take i) a := by
  have hd : decide (x ≤ a) = false := by simp; omega
  have e : [x].takeWhile (fun x => decide (x ≤ a)) = [] := by rw [List.takeWhile_cons, hd]; rfl
  have e2 : l.take (i + 1) = l.take i ++ [x] := by rw [List.take_add_one, h]; rfl
  unfold upTo
  rw [e2, List.takeWhile_append, e]
  split
  · rename_i h1; rw [List.append_nil, h1]
  · rfl
theorem walk9 (s : Str) (p n c : Int) (hs : s.length ≤ 1048576) (hc : c ≤ 9223372036854775807) (hn : -9223372036854775808 ≤ n) : vc Try.prog Γ 166 [0, 1, 2, 3, 8, 9, 10, 11, 12, 13, 14, 15, 16, 17, 18, 19, 20, 37, 45, 55, 56, 57, 58, 59, 65, 86, 107, 132, 145] (Try.f9.body.getD .skip) (postK Γ [.tmp 8] (fun v => v = .b true)) ⟨argSlots 0 [.s s, .i .i64 p, .i .i64 n, .i .i64 c], []⟩ := by
  have hsl := starts_len s
  have hsp := starts_pos s
  have hll := (lok s).len
  refine Or.inl (Exists.intro _ (And.intro (spec43 s hs) ?_))
  refine Or.inl (Exists.intro _ (And.intro (spec44 s p hs) ?_))
  by_cases hp : p < 0 ∨ s.length < p
  rw [ofRes, if_pos hp]
  refine Or.inl (Exists.intro _ (And.intro (spec45 s hs) ?_))
  refine Or.inl (Exists.intro _ (And.intro (spec15 (starts s) (starts s)) ?_))
  (repeat' (first | (refine And.intro (fun h => ?_) (fun h => ?_) <;> (try simp [-List.getD_eq_getElem?_getD, -Int.pred_toNat] at h) <;> (try (exfalso; omega))) | (refine And.intro (rng64 (by omega) (by omega)) ?_) | (refine And.intro ⟨by omega, by omega⟩ ?_) | (refine And.intro ⟨by omega, by omega, by omega⟩ ?_) | (intro _)))
  rotate_left 2
  rw [ofRes, if_neg hp]
  refine Or.inl (Exists.intro _ (And.intro (spec45 s hs) ?_))
  refine Or.inl (Exists.intro _ (And.intro (spec15 (starts s) (starts s)) ?_))
  (repeat' (first | (refine And.intro (fun h => ?_) (fun h => ?_) <;> (try simp [-List.getD_eq_getElem?_getD, -Int.pred_toNat] at h) <;> (try (exfalso; omega))) | (refine And.intro (rng64 (by omega) (by omega)) ?_) | (refine And.intro ⟨by omega, by omega⟩ ?_) | (refine And.intro ⟨by omega, by omega, by omega⟩ ?_) | (intro _)))
  have hu1 := upTo_pos s (p := p) (by omega)
  have hu2 := upTo_le (starts s) p
  refine Exists.intro [] (Exists.intro [] (Exists.intro [] (Exists.intro Nat (Exists.intro (fun k => k ≤ (starts s).length) (Exists.intro (fun k => ⟨[(0, .s s), (1, .i .i64 p), (2, .i .i64 n), (3, .i .i64 c), (9, .rd .int (starts s)), (10, .rd .str (lines s)), (11, .i .i64 (upTo (starts s) p)), (12, .i .i64 (p - (starts s).getD (upTo (starts s) p - 1) 0 + 1)), (13, .i .i64 0), (14, .i .i64 ((upTo ((starts s).take k) p - 1 : Nat) : Int)), (56, .rd .int (starts s)), (57, .i .i64 (starts s).length), (58, .i .i64 k)], []⟩) (Exists.intro (fun k => (starts s).length - k) (Exists.intro 0 (And.intro (Nat.zero_le _) (And.intro ?_ ?_)))))))))
  · (repeat' (first | exact trivial | exact Or.inl rfl | refine And.intro ?_ ?_))
  intro k hk
  refine And.intro (fun h => ?_) (fun h => ?_)
  · have hk : k < (starts s).length := by have := of_decide_eq_true h; omega
    have hg := getI hk
    (refine And.intro ⟨by omega, by omega⟩ ?_)
    have hkk : (starts s).getD (Int.toNat k) 0 = (starts s).getD k 0 := by rw [Int.toNat_natCast]
    refine And.intro (fun h => ?_) (fun h => ?_)
    · have h : (starts s).getD (Int.toNat k) 0 ≤ p := of_decide_eq_true h
      have hu := upTo_hit (a := p) (x := (starts s).getD k 0) (lok s).inc hg (by omega)
      (refine And.intro (rng64 (by omega) (by omega)) ?_)
      refine Exists.intro [] (Exists.intro (k + 1) (And.intro hk (And.intro ?_ ?_)))
      · (repeat' (first | exact trivial | exact Or.inl rfl | refine And.intro ?_ ?_))
        refine Or.inl ?_
        show AV.i .i64 (k : Int) = AV.i .i64 ((upTo ((starts s).take (k + 1)) p - 1 : Nat) : Int)
        rw [hu]; rfl
      · show (starts s).length - (k + 1) < (starts s).length - k
        omega
    · have h : ¬ (starts s).getD (Int.toNat k) 0 ≤ p := of_decide_eq_false h
      have hu := upTo_miss (a := p) (x := (starts s).getD k 0) hg (by omega)
      (refine And.intro (rng64 (by omega) (by omega)) ?_)
      refine Exists.intro [] (Exists.intro (k + 1) (And.intro hk (And.intro ?_ ?_)))
      · (repeat' (first | exact trivial | exact Or.inl rfl | refine And.intro ?_ ?_))
        refine Or.inl ?_
        show AV.i .i64 ((upTo ((starts s).take k) p - 1 : Nat) : Int) = AV.i .i64 ((upTo ((starts s).take (k + 1)) p - 1 : Nat) : Int)
        rw [hu]
      · show (starts s).length - (k + 1) < (starts s).length - k
        omega
  have hk : k = (starts s).length := by have := of_decide_eq_false h; omega
  subst hk
  rw [List.take_length]
  have hx := (lok s).le _ (List.mem_of_getElem? (getI (l := starts s) (k := upTo (starts s) p - 1) (by omega)))
  have e : (Int.toNat ((upTo (starts s) p - 1 : Nat) : Int)) = upTo (starts s) p - 1 := Int.toNat_natCast _
  have hx2 : (starts s).getD (Int.toNat ((upTo (starts s) p - 1 : Nat) : Int)) (dflt .int) = (starts s).getD (upTo (starts s) p - 1) 0 := by rw [e]
  (repeat' (first | (refine And.intro (fun h => ?_) (fun h => ?_) <;> (try simp [-List.getD_eq_getElem?_getD, -Int.pred_toNat] at h) <;> (try (exfalso; omega))) | (refine And.intro (rng64 (by omega) (by omega)) ?_) | (refine And.intro ⟨by omega, by omega⟩ ?_) | (refine And.intro ⟨by omega, by omega, by omega⟩ ?_) | (intro _)))
  all_goals (
    refine Or.inl (Exists.intro _ (And.intro (spec46 s n c hs hc) ?_))
    by_cases hn2 : n < 1 ∨ (starts s).length < n
    · have e1 : atRes s n c = .tup [.i .i64 0, .i .i64 1] := by rw [atRes, if_pos (by omega)]
      rw [e1]
      refine Or.inl (Exists.intro _ (And.intro (spec47 s n hs) ?_))
      rw [lineRes, if_pos hn2]
      (repeat' (first | (refine And.intro (fun h => ?_) (fun h => ?_) <;> (try simp [-List.getD_eq_getElem?_getD, -Int.pred_toNat] at h) <;> (try (exfalso; omega))) | (refine And.intro (rng64 (by omega) (by omega)) ?_) | (refine And.intro ⟨by omega, by omega⟩ ?_) | (refine And.intro ⟨by omega, by omega, by omega⟩ ?_) | (intro _)))
      all_goals (show AV.b _ = AV.b true; rfl)
    · have hk : (n - 1).toNat < (starts s).length := by omega
      have hx := (lok s).le _ (List.mem_of_getElem? (getI hk))
      have hl := line_le s (n - 1).toNat
      have hl2 : ((lines s).getD (n - 1).toNat (dflt .str)).length = ((lines s).getD (n - 1).toNat []).length := rfl
      have hx3 : (starts s).getD (n - 1).toNat (dflt .int) = (starts s).getD (n - 1).toNat 0 := rfl
      by_cases hc2 : c < 1 ∨ ((lines s).getD (n - 1).toNat []).length < c - 1
      · rw [atRes, if_pos (by omega)]
        refine Or.inl (Exists.intro _ (And.intro (spec47 s n hs) ?_))
        rw [lineRes, if_neg hn2]
        (repeat' (first | (refine And.intro (fun h => ?_) (fun h => ?_) <;> (try simp [-List.getD_eq_getElem?_getD, -Int.pred_toNat] at h) <;> (try (exfalso; omega))) | (refine And.intro (rng64 (by omega) (by omega)) ?_) | (refine And.intro ⟨by omega, by omega⟩ ?_) | (refine And.intro ⟨by omega, by omega, by omega⟩ ?_) | (intro _)))
        all_goals (show AV.b _ = AV.b true; rfl)
      · rw [atRes, if_neg (by omega)]
        refine Or.inl (Exists.intro _ (And.intro (spec47 s n hs) ?_))
        rw [lineRes, if_neg hn2]
        (repeat' (first | (refine And.intro (fun h => ?_) (fun h => ?_) <;> (try simp [-List.getD_eq_getElem?_getD, -Int.pred_toNat] at h) <;> (try (exfalso; omega))) | (refine And.intro (rng64 (by omega) (by omega)) ?_) | (refine And.intro ⟨by omega, by omega⟩ ?_) | (refine And.intro ⟨by omega, by omega, by omega⟩ ?_) | (intro _)))
        all_goals exact congrArg AV.b (beq_self_eq_true _)
    )
theorem spec9 (s : Str) (p n c : Int) (hs : s.length ≤ 1048576) (hc : c ≤ 9223372036854775807) (hn : -9223372036854775808 ≤ n) : PSpec Try.prog 9 [.s s, .i .i64 p, .i .i64 n, .i .i64 c] (.b true) :=
  pspec_of_vc Γ_good Try.func9 rfl Try.call9 Try.results9 Try.ntmps9 (Nat.le_of_ble_eq_true rfl) (walk9 s p n c hs hc hn)
end Go.Proofs.Ytjlbaagnoppfgaa
