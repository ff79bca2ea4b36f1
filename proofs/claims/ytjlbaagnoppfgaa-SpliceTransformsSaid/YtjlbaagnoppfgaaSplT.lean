/-
  A part of the proof that 'typecaselaw.SpliceTransforms' returns true, whatever the input: what is put and what stays, by places. No conditions.
-/
import Derived.Test.YtjlbaagnoppfgaaSplS
namespace Go.Proofs.Ytjlbaagnoppfgaa
open Go Go.SX Go.Spl
set_option maxRecDepth 100000
set_option maxHeartbeats 0
theorem gapsS_op {o : Prim} (h : o = .keep ∨ o = .cut) (x : List Prim) : gapsS (x ++ [o]) = gapsS x ++ [[]] := by
  induction x with
  | nil => rcases h with rfl | rfl <;> rfl
  | cons p x ih =>
    obtain ⟨q, r, hg⟩ := gapsS_ne x
    cases p with
    | put c => simp only [List.cons_append, gapsS, ih, hg]
    | keep => simp only [List.cons_append, gapsS, ih]
    | cut => simp only [List.cons_append, gapsS, ih]
theorem gapsS_put (x : List Prim) (c : UInt8) : gapsS (x ++ [.put c]) = (gapsS x).set (wt fOv x) ((gapsS x).getD (wt fOv x) [] ++ [c]) := by
  induction x with
  | nil => rfl
  | cons p x ih =>
    obtain ⟨q, r, hg⟩ := gapsS_ne x
    cases p with
    | put d =>
      simp only [List.cons_append, gapsS, ih, hg, wt, fOv, Nat.zero_add]
      cases wt fOv x with
      | zero => simp
      | succ k => simp
    | keep => simp only [List.cons_append, gapsS, ih, wt, fOv, Nat.add_comm 1]; simp
    | cut => simp only [List.cons_append, gapsS, ih, wt, fOv, Nat.add_comm 1]; simp
theorem stays_append (x y : List Prim) : stays (x ++ y) = stays x ++ stays y := by
  induction x with
  | nil => rfl
  | cons p x ih => cases p <;> simp [stays, ih]
def PT (x : List Prim) (n : Nat) : List Str := gapsS x ++ List.replicate (n - wt fOv x) []
def ST (x : List Prim) (n : Nat) : List Bool := stays x ++ List.replicate (n - wt fOv x) false
theorem PT_op {o : Prim} (h : o = .keep ∨ o = .cut) {x : List Prim} {n : Nat} (hn : wt fOv x < n) : PT (x ++ [o]) n = PT x n := by
  have hw : wt fOv (x ++ [o]) = wt fOv x + 1 := by rw [wt_append]; rcases h with rfl | rfl <;> rfl
  rw [PT, PT, hw, gapsS_op h, List.append_assoc]
  congr 1
  obtain ⟨m, hm⟩ : ∃ m, n - wt fOv x = m + 1 := ⟨n - wt fOv x - 1, by omega⟩
  rw [hm, show n - (wt fOv x + 1) = m by omega, List.replicate_succ]
  rfl
theorem PT_ops {o : Prim} (h : o = .keep ∨ o = .cut) (m : Nat) : ∀ {x : List Prim} {n : Nat}, wt fOv x + m ≤ n → PT (x ++ List.replicate m o) n = PT x n := by
  induction m with
  | zero => intro x n _; simp
  | succ m ih =>
    intro x n hn
    have hw : wt fOv (x ++ [o]) = wt fOv x + 1 := by rw [wt_append]; rcases h with rfl | rfl <;> rfl
    rw [List.replicate_succ, show x ++ o :: List.replicate m o = (x ++ [o]) ++ List.replicate m o by simp, ih (by omega), PT_op h (by omega)]
theorem PT_put (x : List Prim) (n : Nat) (c : UInt8) : PT (x ++ [.put c]) n = (PT x n).set (wt fOv x) ((PT x n).getD (wt fOv x) [] ++ [c]) := by
  have hw : wt fOv (x ++ [.put c]) = wt fOv x := by rw [wt_append]; rfl
  have hl := gapsS_len x
  rw [PT, PT, hw, gapsS_put, List.set_append, if_pos (by omega)]
  congr 3
  rw [List.getD_eq_getElem?_getD, List.getD_eq_getElem?_getD, List.getElem?_append_left (by omega)]
theorem PT_puts (s : Str) : ∀ (x : List Prim) (n : Nat), PT (x ++ s.map Prim.put) n = (PT x n).set (wt fOv x) ((PT x n).getD (wt fOv x) [] ++ s) := by
  induction s with
  | nil =>
    intro x n
    have hl : wt fOv x < (PT x n).length := by rw [PT, List.length_append, gapsS_len]; omega
    simp [hl]
  | cons c s ih =>
    intro x n
    have hl : wt fOv x < (PT x n).length := by rw [PT, List.length_append, gapsS_len]; omega
    have hw : wt fOv (x ++ [.put c]) = wt fOv x := by rw [wt_append]; rfl
    rw [List.map_cons, show x ++ Prim.put c :: s.map Prim.put = (x ++ [.put c]) ++ s.map Prim.put by simp, ih, PT_put, hw, List.set_set]
    congr 1
    simp [hl]
theorem ST_keep {x : List Prim} {n : Nat} (hn : wt fOv x < n) : ST (x ++ [.keep]) n = (ST x n).set (wt fOv x) true := by
  have hw : wt fOv (x ++ [.keep]) = wt fOv x + 1 := by rw [wt_append]; rfl
  have hl := stays_len x
  obtain ⟨m, hm⟩ : ∃ m, n - wt fOv x = m + 1 := ⟨n - wt fOv x - 1, by omega⟩
  rw [ST, ST, hw, stays_append, hm, show n - (wt fOv x + 1) = m by omega, List.set_append, if_neg (by omega), hl, Nat.sub_self]
  simp [stays, List.replicate_succ]
theorem ST_cuts (m : Nat) {x : List Prim} {n : Nat} (hn : wt fOv x + m ≤ n) : ST (x ++ List.replicate m Prim.cut) n = ST x n := by
  have hw : wt fOv (x ++ List.replicate m Prim.cut) = wt fOv x + m := by rw [wt_append, wt_rep]; simp [fOv]
  have hs : ∀ m, stays (List.replicate m Prim.cut) = List.replicate m false := by
    intro m; induction m with
    | zero => rfl
    | succ m ih => simp only [List.replicate_succ, stays, ih]
  rw [ST, ST, hw, stays_append, hs, List.append_assoc, List.replicate_append_replicate]
  congr 2
  omega
theorem ST_puts (s : Str) (x : List Prim) (n : Nat) : ST (x ++ s.map Prim.put) n = ST x n := by
  have hw : wt fOv (x ++ s.map Prim.put) = wt fOv x := by rw [wt_append, wt_puts fOv 0 (fun _ => rfl)]; simp
  have hs : ∀ s : Str, stays (s.map Prim.put) = [] := by
    intro s; induction s with
    | nil => rfl
    | cons c s ih => simp only [List.map_cons, stays, ih]
  rw [ST, ST, hw, stays_append, hs, List.append_nil]
theorem PT_full (x : List Prim) : PT x (wt fOv x) = gapsS x := by simp [PT]
theorem ST_full (x : List Prim) : ST x (wt fOv x) = stays x := by simp [ST]
theorem PT_nil (n : Nat) : PT [] n = List.replicate (n + 1) [] := by simp [PT, gapsS, wt, List.replicate_succ]
theorem ST_nil (n : Nat) : ST [] n = List.replicate n false := by simp [ST, stays, wt]
theorem PT_len {x : List Prim} {n : Nat} (h : wt fOv x ≤ n) : (PT x n).length = n + 1 := by rw [PT, List.length_append, gapsS_len, List.length_replicate]; omega
theorem ST_len {x : List Prim} {n : Nat} (h : wt fOv x ≤ n) : (ST x n).length = n := by rw [ST, List.length_append, stays_len, List.length_replicate]; omega
theorem walk25 (c : List Part) (hc : (chk c).2.2 = 0) : vc Try.prog Γ 18 [0, 2, 3] (Try.f25.body.getD .skip) (postK Γ [.tmp 2] (fun v => v = .rd .part (norm c))) ⟨argSlots 0 [.rd .part c], []⟩ := by
  obtain ⟨ha1, ha2, ha3, ha4, ha5⟩ := chk_inv hc
  obtain ⟨wa1, wa2⟩ := wt_sums ha2
  have hlen0 : (wholeFrom 0 (wt fOv (exs c))).length = wt fOv (exs c) := wholeFrom_length _ _
  have hlen1 : (atomsOf (wholeFrom 0 (wt fOv (exs c))) c).length = wt fMk (exs c) := by rw [atomsOf_eq, at_length _ _ (by omega)]
  refine Or.inl (Exists.intro (resChk (chk c)) (And.intro (spec19 c) ?_))
  rw [ha3, ← wa1]
  refine Or.inl (Exists.intro _ (And.intro (spec75 (wt fOv (exs c)) (by omega)) ?_))
  refine Or.inl (Exists.intro _ (And.intro (spec74 (wholeFrom 0 (wt fOv (exs c))) c ha2 ha1 (by omega)) ?_))
  refine Or.inl (Exists.intro _ (And.intro (spec73 (atomsOf (wholeFrom 0 (wt fOv (exs c))) c) (wt fOv (exs c)) (by omega) (by omega) ?_) ?_))
  · intro x hx
    rw [atomsOf_eq] at hx
    rcases at_mem _ _ _ hx with hx | hx
    · have := whole_pos _ _ _ hx; omega
    · omega
  · show AV.rd .part (normalOf (atomsOf (wholeFrom 0 (wt fOv (exs c))) c) (wt fOv (exs c))) = AV.rd .part (norm c)
    rw [atomsOf_eq, normal_eq _ _ rfl, norm_done ha2]
theorem spec25 (c : List Part) (hc : (chk c).2.2 = 0) : PSpec Try.prog 25 [.rd .part c] (.rd .part (norm c)) :=
  pspec_of_vc Γ_good Try.func25 rfl Try.call25 Try.results25 Try.ntmps25 (Nat.le_of_ble_eq_true rfl) (walk25 c hc)
end Go.Proofs.Ytjlbaagnoppfgaa
