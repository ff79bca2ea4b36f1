/-
  A part of the proof that 'typecaselaw.SpliceComposes' returns true, whatever the input: the builder is done; the size of a part; the next of a feed, and what is taken of it. No conditions.
-/
import Derived.Test.YtjlbaagnoppfgaaSplB
namespace Go.Proofs.Ytjlbaagnoppfgaa
open Go Go.SX Go.Spl
set_option maxRecDepth 100000
set_option maxHeartbeats 0
theorem walk72 (b : Bld) (hb : Bd b) : vc Try.prog Γ 9 [0, 2, 1000, 1001] (Try.f72.body.getD .skip) (postBK Γ [.tmp 2] (.vec 1001 .part (done b)) []) ⟨argSlots 0 [.pt 1000 0], [(1000, bcells b)]⟩ := by
  refine Or.inr (Exists.intro [] (Exists.intro 114 (Exists.intro [.pt 1000 0] (Exists.intro [(1000, bcells b)] (Exists.intro (.tup []) (Exists.intro [(1000, bcells (flush b))] (Exists.intro [] (And.intro (spec114 b hb.out) ?_))))))))
  refine And.intro rfl (And.intro rfl (And.intro rfl (And.intro rfl (And.intro rfl ?_))))
  refine Exists.intro [] (And.intro rfl trivial)
theorem spec72 (b : Bld) (hb : Bd b) : CSpec Try.prog 72 [.pt 1000 0] [(1000, bcells b)] (.vec 1001 .part (done b)) [] :=
  cspec_of_vc Γ_good Try.func72 rfl Try.call72 Try.results72 Try.ntmps72 (Nat.le_of_ble_eq_true rfl) (Nat.le_of_ble_eq_true rfl) (by rfl) (walk72 b hb)
theorem walk70 (p : Part) (h0 : 0 ≤ p.n) (h1 : p.n ≤ 1000000000) (h2 : p.s.length ≤ 1000000000) : vc Try.prog Γ 9 [1, 2] (Try.f70.body.getD .skip) (postK Γ [.tmp 2] (fun v => v = .i .i64 (p.n + p.s.length))) ⟨argSlots 0 [pv p], []⟩ := by
  intro hl
  refine And.intro ⟨by show (-9223372036854775808 : Int) ≤ _; omega, by show _ ≤ (9223372036854775807 : Int); omega⟩ ?_
  show _ = _
  rfl
theorem spec70 (p : Part) (h0 : 0 ≤ p.n) (h1 : p.n ≤ 1000000000) (h2 : p.s.length ≤ 1000000000) : PSpec Try.prog 70 [pv p] (.i .i64 (p.n + p.s.length)) :=
  pspec_of_vc Γ_good Try.func70 rfl Try.call70 Try.results70 Try.ntmps70 (Nat.le_of_ble_eq_true rfl) (walk70 p h0 h1 h2)
/-- the head of a feed -/
def hd (l : List Part) (k : Nat) : Part := if k < l.length then l.getD k default else ⟨0, 0, []⟩
theorem walk67 (l : List Part) (k : Nat) (hk : k ≤ l.length) : vc Try.prog Γ 16 [0, 2, 8, 1000, 1001] (Try.f67.body.getD .skip) (postBK Γ [.cell 2 119] (pv (hd l k)) [(1000, [.vs 1001 .part l k])]) ⟨argSlots 0 [.pt 1000 0], [(1000, [.vs 1001 .part l k])]⟩ := by
  intro _ hl
  refine And.intro (fun h => ?_) (fun h => ?_)
  · have hz : ¬ k < l.length := by have : (((l.length - k : Nat) : Int) = 0) := by simpa using h
                                   omega
    refine Exists.intro [] (And.intro ?_ (And.intro (And.intro (Or.inl rfl) trivial) trivial))
    show AV.agg [.i .i64 0, .i .i64 0, .s []] = pv (hd l k)
    rw [hd, if_neg hz]
    rfl
  · have hz : k < l.length := by have : ¬ (((l.length - k : Nat) : Int) = 0) := by simpa using h
                                 omega
    refine And.intro ⟨by omega, by omega⟩ ?_
    refine Exists.intro [] (And.intro ?_ (And.intro (And.intro (Or.inl rfl) trivial) trivial))
    show pv (l.getD (k + (0 : Int).toNat) default) = pv (hd l k)
    rw [hd, if_pos hz]
    rfl
theorem spec67 (l : List Part) (k : Nat) (hk : k ≤ l.length) : CSpec Try.prog 67 [.pt 1000 0] [(1000, [.vs 1001 .part l k])] (pv (hd l k)) [(1000, [.vs 1001 .part l k])] :=
  cspec_of_vc Γ_good Try.func67 rfl Try.call67 Try.results67 Try.ntmps67 (Nat.le_of_ble_eq_true rfl) (Nat.le_of_ble_eq_true rfl) (by rfl) (walk67 l k hk)
/-- n of the head are taken: the part, and what is left -/
def tkP (p : Part) (n : Nat) : Part := if p.kind = 3 ∧ n < p.s.length then ⟨p.kind, p.n, p.s.take n⟩ else if p.kind ≠ 3 ∧ (n : Int) < p.n then ⟨p.kind, n, p.s⟩ else p
def tkL (l : List Part) (k n : Nat) : List Part :=
  let p := l.getD k default
  if p.kind = 3 ∧ n < p.s.length then l.set k ⟨p.kind, p.n, p.s.drop n⟩ else if p.kind ≠ 3 ∧ (n : Int) < p.n then l.set k ⟨p.kind, p.n - n, p.s⟩ else l
def tkK (l : List Part) (k n : Nat) : Nat :=
  let p := l.getD k default
  if p.kind = 3 ∧ n < p.s.length then k else if p.kind ≠ 3 ∧ (n : Int) < p.n then k else k + 1
theorem walk69 (l : List Part) (k n : Nat) (hk : k < l.length) (hn : n ≤ 1000000000) (hp0 : 0 ≤ (l.getD k default).n) (hp1 : (l.getD k default).n ≤ 1000000000) : vc Try.prog Γ 70 [0, 1, 4, 5, 20, 46, 1000, 1001] (Try.f69.body.getD .skip) (postBK Γ [.cell 4 119] (pv (tkP (l.getD k default) n)) [(1000, [.vs 1001 .part (tkL l k n) (tkK l k n)])])
    ⟨argSlots 0 [.pt 1000 0, .i .i64 n], [(1000, [.vs 1001 .part l k])]⟩ := by
  refine And.intro ⟨by omega, by omega⟩ ?_
  refine And.intro (fun h => ?_) (fun h => ?_)
  · have h3 : (l.getD k default).kind = 3 := by simpa using h
    intro hl
    refine And.intro (fun h => ?_) (fun h => ?_)
    · have h4 : (n : Int) < ((l.getD k default).s.length : Int) := of_decide_eq_true h
      have h5 : n < (l.getD k default).s.length := by omega
      refine Exists.intro [.blk [0, 1, 2, 3, 4, 5, 6, 7, 8, 9], .one 10] (And.intro (by kernel_rfl) ?_)
      refine And.intro ⟨by omega, by show (n : Int) ≤ ((l.getD k default).s.length : Int); omega, Int.le_refl _⟩ ?_
      refine And.intro ⟨by omega, by omega⟩ ?_
      refine And.intro ⟨by omega, by omega, by show (n : Int) ≤ ((l.getD k default).s.length : Int); omega⟩ ?_
      refine Exists.intro [] (And.intro ?_ (And.intro (And.intro (Or.inl ?_) trivial) trivial))
      · show pv ⟨(l.getD k default).kind, (l.getD k default).n, ((l.getD k default).s.take (Int.toNat n)).drop 0⟩ = pv (tkP (l.getD k default) n)
        rw [tkP, if_pos ⟨h3, h5⟩, Int.toNat_natCast, List.drop_zero]
      · show AV.vs 1001 .part (l.set k ⟨(l.getD k default).kind, (l.getD k default).n, ((l.getD k default).s.take (Int.toNat ((l.getD k default).s.length : Int))).drop (Int.toNat n)⟩) k = AV.vs 1001 .part (tkL l k n) (tkK l k n)
        simp only [tkL, tkK]
        rw [if_pos ⟨h3, h5⟩, if_pos ⟨h3, h5⟩, Int.toNat_natCast, Int.toNat_natCast, List.take_length]
    · have h4 : ¬ (n : Int) < ((l.getD k default).s.length : Int) := of_decide_eq_false h
      refine And.intro (fun h => absurd h3 (by simpa using h)) (fun h => ?_)
      refine And.intro (fun h => absurd h (by simp)) (fun _ => ?_)
      refine And.intro ⟨by omega, by omega⟩ ?_
      refine Exists.intro [] (And.intro ?_ (And.intro (And.intro (Or.inl ?_) trivial) trivial))
      · show pv (l.getD k default) = pv (tkP (l.getD k default) n)
        rw [tkP, if_neg (by omega), if_neg (by omega)]
      · show AV.vs 1001 .part l (k + 1) = AV.vs 1001 .part (tkL l k n) (tkK l k n)
        simp only [tkL, tkK]
        rw [if_neg (by omega), if_neg (by omega), if_neg (by omega), if_neg (by omega)]
  · have h3 : (l.getD k default).kind ≠ 3 := by simpa using h
    refine And.intro (fun h => absurd h (by simp)) (fun _ => ?_)
    refine And.intro (fun h => ?_) (fun h => absurd (by simpa using h) h3)
    refine And.intro (fun h => ?_) (fun h => ?_)
    · have h4 : (n : Int) < (l.getD k default).n := of_decide_eq_true h
      refine And.intro ⟨by omega, by omega⟩ ?_
      refine And.intro ⟨by show (-9223372036854775808 : Int) ≤ (l.getD k default).n - n; omega, by show (l.getD k default).n - n ≤ (9223372036854775807 : Int); omega⟩ ?_
      refine And.intro ⟨by omega, by omega⟩ ?_
      refine Exists.intro [] (And.intro ?_ (And.intro (And.intro (Or.inl ?_) trivial) trivial))
      · show pv ⟨(l.getD k default).kind, n, (l.getD k default).s⟩ = pv (tkP (l.getD k default) n)
        rw [tkP, if_neg (fun h => h3 h.1), if_pos ⟨h3, h4⟩]
      · show AV.vs 1001 .part (l.set k ⟨(l.getD k default).kind, (l.getD k default).n - n, (l.getD k default).s⟩) k = AV.vs 1001 .part (tkL l k n) (tkK l k n)
        simp only [tkL, tkK]
        rw [if_neg (fun h => h3 h.1), if_pos ⟨h3, h4⟩, if_neg (fun h => h3 h.1), if_pos ⟨h3, h4⟩]
    · have h4 : ¬ (n : Int) < (l.getD k default).n := of_decide_eq_false h
      refine And.intro ⟨by omega, by omega⟩ ?_
      refine Exists.intro [] (And.intro ?_ (And.intro (And.intro (Or.inl ?_) trivial) trivial))
      · show pv (l.getD k default) = pv (tkP (l.getD k default) n)
        rw [tkP, if_neg (by omega), if_neg (by omega)]
      · show AV.vs 1001 .part l (k + 1) = AV.vs 1001 .part (tkL l k n) (tkK l k n)
        simp only [tkL, tkK]
        rw [if_neg (by omega), if_neg (by omega), if_neg (by omega), if_neg (by omega)]
theorem spec69 (l : List Part) (k n : Nat) (hk : k < l.length) (hn : n ≤ 1000000000) (hp0 : 0 ≤ (l.getD k default).n) (hp1 : (l.getD k default).n ≤ 1000000000) :
    CSpec Try.prog 69 [.pt 1000 0, .i .i64 n] [(1000, [.vs 1001 .part l k])] (pv (tkP (l.getD k default) n)) [(1000, [.vs 1001 .part (tkL l k n) (tkK l k n)])] :=
  cspec_of_vc Γ_good Try.func69 rfl Try.call69 Try.results69 Try.ntmps69 (Nat.le_of_ble_eq_true rfl) (Nat.le_of_ble_eq_true rfl) (by rfl) (walk69 l k n hk hn hp0 hp1)
end Go.Proofs.Ytjlbaagnoppfgaa
