/-
  A part of the proof that 'typecaselaw.SpliceComposes' returns true, whatever the input: the builder takes a part. No conditions.
-/
import Derived.Test.YtjlbaagnoppfgaaSplA

namespace Go.Proofs.Ytjlbaagnoppfgaa
open Go Go.SX Go.Spl
set_option maxRecDepth 100000
set_option maxHeartbeats 0
structure Bd (b : Bld) : Prop where
  out : b.out.length ≤ 100000000
  cut0 : 0 ≤ b.cut
  cut : b.cut ≤ 100000000
  put : b.put.length ≤ 100000000
  ns : ∀ q ∈ b.out, 0 ≤ q.n ∧ q.n ≤ 100000000
def pv (p : Part) : AV := .agg [.i .i64 p.kind, .i .i64 p.n, .s p.s]
theorem tail_app {l : List Part} {p : Part} (h : ∀ q, l.getLast? = some q → q.kind ≠ 1) : tail l p = l ++ [p] := by
  unfold tail
  split
  · rename_i q hq; rw [if_neg (h q hq)]
  · rfl
theorem last_getD {l : List Part} (h : 1 ≤ l.length) {q : Part} (hq : l.getLast? = some q) : q = l.getD (l.length - 1) default := by
  rw [List.getLast?_eq_getElem?] at hq
  rw [List.getD_eq_getElem?_getD, hq]
  rfl
theorem tail_set {l : List Part} {p : Part} (h : 1 ≤ l.length) (hk : (l.getD (l.length - 1) default).kind = 1) :
    tail l p = l.set (l.length - 1) ⟨(l.getD (l.length - 1) default).kind, (l.getD (l.length - 1) default).n + p.n, (l.getD (l.length - 1) default).s⟩ := by
  unfold tail
  cases hl : l.getLast? with
  | none => rw [List.getLast?_eq_none_iff] at hl; subst hl; simp at h
  | some q =>
    have e := last_getD h hl
    show (if q.kind = 1 then l.dropLast ++ [⟨q.kind, q.n + p.n, q.s⟩] else l ++ [p]) = _
    rw [← e] at hk ⊢
    rw [if_pos hk]
    obtain ⟨ys, rfl⟩ := List.getLast?_eq_some_iff.1 hl
    simp
theorem flush_ns {b : Bld} (hb : Bd b) : ∀ q ∈ (flush b).out, 0 ≤ q.n ∧ q.n ≤ 100000000 := by
  intro q hq
  simp only [flush, List.mem_append] at hq
  have h0 := hb.cut0
  have h1 := hb.cut
  rcases hq with (hq | hq) | hq
  · exact hb.ns q hq
  · split at hq
    · rw [List.mem_singleton] at hq; subst hq; simp
    · cases hq
  · split at hq
    · rw [List.mem_singleton] at hq; subst hq; exact ⟨h0, h1⟩
    · cases hq
theorem walk68 (b : Bld) (p : Part) (hb : Bd b) (hp : Ok p) (hn : p.n ≤ 100000000) (hs : p.s.length ≤ 100000000) :
    vc Try.prog Γ 78 [0, 3, 4, 6, 7, 18, 29, 33, 54, 1000, 1001] (Try.f68.body.getD .skip) (postBK Γ [] (.tup []) [(1000, bcells (add b p))]) ⟨argSlots 0 [.pt 1000 0, pv p], [(1000, bcells b)]⟩ := by
  have hn0 := hp.n0
  have hc0 := hb.cut0
  have hc1 := hb.cut
  have hpl := hb.put
  have hol := hb.out
  refine And.intro (fun h => ?_) (fun h => ?_)
  · have hk : p.kind = 3 := by simpa using h
    refine Exists.intro [.blk [0, 1, 2, 3, 4, 5, 6, 7, 8], .one 9] (And.intro (by kernel_rfl) ?_)
    refine And.intro (by unfold maxLen; omega) ?_
    refine Exists.intro [] (And.intro rfl (And.intro (And.intro (Or.inl ?_) (And.intro (Or.inl ?_) (And.intro (Or.inl ?_) trivial))) trivial))
    · show AV.vec 1001 .part b.out = AV.vec 1001 .part (add b p).out
      simp [add, hk]
    · show AV.i .i64 b.cut = AV.i .i64 (add b p).cut
      simp [add, hk]
    · show AV.s (b.put ++ p.s) = AV.s (add b p).put
      simp [add, hk]
  · have hk3 : p.kind ≠ 3 := by simpa using h
    refine And.intro (fun h => ?_) (fun h => ?_)
    · have hk : p.kind = 2 := by simpa using h
      refine Exists.intro [.blk [0, 1, 2, 3, 4, 5, 6, 7, 8], .one 9] (And.intro (by kernel_rfl) ?_)
      refine And.intro ⟨by show (-9223372036854775808 : Int) ≤ _; omega, by show _ ≤ (9223372036854775807 : Int); omega⟩ ?_
      refine Exists.intro [] (And.intro rfl (And.intro (And.intro (Or.inl ?_) (And.intro (Or.inl ?_) (And.intro (Or.inl ?_) trivial))) trivial))
      · show AV.vec 1001 .part b.out = AV.vec 1001 .part (add b p).out
        simp [add, hk]
      · show AV.i .i64 (b.cut + p.n) = AV.i .i64 (add b p).cut
        simp [add, hk]
      · show AV.s b.put = AV.s (add b p).put
        simp [add, hk]
    · have hk2 : p.kind ≠ 2 := by simpa using h
      have hk : p.kind = 1 := by have := hp.kind; omega
      refine And.intro (fun h => ?_) (fun h => ?_)
      · refine And.intro (fun h => ?_) (fun h => ?_)
        · have hn : p.n = 0 := by simpa using h
          refine Exists.intro [] (And.intro rfl (And.intro (And.intro (Or.inl ?_) (And.intro (Or.inl ?_) (And.intro (Or.inl ?_) trivial))) trivial))
          · show AV.vec 1001 .part b.out = AV.vec 1001 .part (add b p).out
            simp [add, hk, hn]
          · show AV.i .i64 b.cut = AV.i .i64 (add b p).cut
            simp [add, hk, hn]
          · show AV.s b.put = AV.s (add b p).put
            simp [add, hk, hn]
        · have hn : p.n ≠ 0 := by simpa using h
          refine Or.inr (Exists.intro [] (Exists.intro 114 (Exists.intro [.pt 1000 0] (Exists.intro [(1000, bcells b)] (Exists.intro (.tup []) (Exists.intro [(1000, bcells (flush b))] (Exists.intro [] (And.intro (spec114 b hb.out) ?_))))))))
          refine And.intro rfl (And.intro rfl (And.intro rfl (And.intro rfl (And.intro rfl ?_))))
          have hfl : (flush b).out.length ≤ b.out.length + 2 := by
            unfold flush; simp only [List.length_append]; split <;> split <;> simp
          intro hl
          refine And.intro ⟨by omega, by omega⟩ ?_
          have hadd : add b p = ⟨tail (flush b).out p, 0, []⟩ := by simp [add, hk, hn]
          refine And.intro (fun h => ?_) (fun h => ?_)
          · have hpos : 1 ≤ (flush b).out.length := by have := of_decide_eq_true h; omega
            have hge : (((flush b).out.length : Int) - 1).toNat = (flush b).out.length - 1 := by omega
            refine And.intro ⟨by omega, by omega⟩ ?_
            refine And.intro (fun h => ?_) (fun h => ?_)
            · refine Exists.intro [.blk [0, 1, 2, 3, 4, 5, 6, 7, 8, 9, 10, 11, 12], .one 13] (And.intro (by kernel_rfl) ?_)
              have hq : 0 ≤ ((flush b).out.getD (((flush b).out.length : Int) - 1).toNat (dflt .part)).n ∧ ((flush b).out.getD (((flush b).out.length : Int) - 1).toNat (dflt .part)).n ≤ 100000000 := by
                rw [hge]
                have hlt : (flush b).out.length - 1 < (flush b).out.length := by omega
                have hm : (flush b).out.getD ((flush b).out.length - 1) (dflt .part) ∈ (flush b).out := by
                  rw [List.getD_eq_getElem?_getD, List.getElem?_eq_getElem hlt]; exact List.getElem_mem hlt
                exact flush_ns hb _ hm
              refine And.intro ⟨by omega, by omega⟩ ?_
              refine And.intro ⟨by show (-9223372036854775808 : Int) ≤ _; omega, by show _ ≤ (9223372036854775807 : Int); omega⟩ ?_
              refine And.intro ⟨by omega, by omega⟩ ?_
              have hk' : ((flush b).out.getD ((flush b).out.length - 1) default).kind = 1 := by rw [← hge]; simpa using h
              refine Exists.intro [] (And.intro rfl (And.intro (And.intro (Or.inl ?_) (And.intro (Or.inl ?_) (And.intro (Or.inl ?_) trivial))) trivial))
              · show AV.vec 1001 .part ((flush b).out.set (((flush b).out.length : Int) - 1).toNat ⟨((flush b).out.getD (((flush b).out.length : Int) - 1).toNat default).kind, ((flush b).out.getD (((flush b).out.length : Int) - 1).toNat default).n + p.n, ((flush b).out.getD (((flush b).out.length : Int) - 1).toNat default).s⟩) = AV.vec 1001 .part (add b p).out
                rw [hadd, hge, tail_set hpos hk']
              · show AV.i .i64 0 = AV.i .i64 (add b p).cut
                rw [hadd]
              · show AV.s [] = AV.s (add b p).put
                rw [hadd]
            · have hk' : ((flush b).out.getD ((flush b).out.length - 1) default).kind ≠ 1 := by rw [← hge]; simpa using h
              refine Exists.intro [.take 0, .blk [1, 2, 3, 4, 5, 6] [74], .one 7, .blk [8, 9], .one 10] (And.intro (by kernel_rfl) ?_)
              refine And.intro (by show ((flush b).out.length + 1) * 32 ≤ _; omega) ?_
              refine Exists.intro [(75, 1001)] (And.intro rfl (And.intro (And.intro (Or.inl ?_) (And.intro (Or.inl ?_) (And.intro (Or.inl ?_) trivial))) trivial))
              · show AV.vec 1001 .part ((flush b).out ++ [⟨p.kind, p.n, p.s⟩]) = AV.vec 1001 .part (add b p).out
                rw [hadd, tail_app ?_]
                intro q hq; rw [last_getD hpos hq]; exact hk'
              · show AV.i .i64 0 = AV.i .i64 (add b p).cut
                rw [hadd]
              · show AV.s [] = AV.s (add b p).put
                rw [hadd]
          · have hz : (flush b).out = [] := by
              have := of_decide_eq_false h
              exact List.eq_nil_of_length_eq_zero (by omega)
            refine And.intro (fun h => absurd h (by simp)) (fun _ => ?_)
            refine Exists.intro [.take 0, .blk [1, 2, 3, 4, 5, 6] [74], .one 7, .blk [8, 9], .one 10] (And.intro (by kernel_rfl) ?_)
            refine And.intro (by show ((flush b).out.length + 1) * 32 ≤ _; omega) ?_
            refine Exists.intro [(75, 1001)] (And.intro rfl (And.intro (And.intro (Or.inl ?_) (And.intro (Or.inl ?_) (And.intro (Or.inl ?_) trivial))) trivial))
            · show AV.vec 1001 .part ((flush b).out ++ [⟨p.kind, p.n, p.s⟩]) = AV.vec 1001 .part (add b p).out
              rw [hadd, tail_app ?_]
              intro q hq; rw [hz] at hq; cases hq
            · show AV.i .i64 0 = AV.i .i64 (add b p).cut
              rw [hadd]
            · show AV.s [] = AV.s (add b p).put
              rw [hadd]
      · exact absurd hk (by simpa using h)
theorem spec68 (b : Bld) (p : Part) (hb : Bd b) (hp : Ok p) (hn : p.n ≤ 100000000) (hs : p.s.length ≤ 100000000) : CSpec Try.prog 68 [.pt 1000 0, pv p] [(1000, bcells b)] (.tup []) [(1000, bcells (add b p))] :=
  cspec_of_vc Γ_good Try.func68 rfl Try.call68 Try.results68 Try.ntmps68 (Nat.le_of_ble_eq_true rfl) (Nat.le_of_ble_eq_true rfl) (by rfl) (walk68 b p hb hp hn hs)
end Go.Proofs.Ytjlbaagnoppfgaa
