/-
  A part of the proof of the laws of whole numbers: sums and differences of the document's numbers, walked. No conditions.
-/
import Derived.Test.YtjlbaagnoppfgaaBigRefA
namespace Go.Proofs.Ytjlbaagnoppfgaa
set_option linter.unusedSectionVars false
set_option linter.unusedSimpArgs false
set_option linter.unusedVariables false
open Go Go.SX Go.Bg
set_option maxRecDepth 100000
set_option maxHeartbeats 0
theorem cast_getD {l : List Int} (h : Dg 10000 l) (k : Nat) : ((l.getD k 0).toNat : Int) = l.getD k 0 := by have := (h.getD (by decide) k).1; omega
theorem plus_next {a b o : List Int} {k c : Nat} (ha : Dg 10000 a) (hb : Dg 10000 b) (ho : Dg 10000 o) (hk : o.length = k) (hc : c ≤ 1) (hv : vl 10000 o + 10000 ^ k * c = vl 10000 (a.take k) + vl 10000 (b.take k))
    (hkl : k ≤ a.length + b.length + 1) (hg : k < a.length ∨ k < b.length ∨ 0 < c) (hm : (k ≤ a.length ∨ k ≤ b.length) ∨ c = 0) :
    let t := c + ((a.getD k 0).toNat + (b.getD k 0).toNat)
    Dg 10000 (o ++ [((t % 10000 : Nat) : Int)]) ∧ (o ++ [((t % 10000 : Nat) : Int)]).length = k + 1 ∧ t / 10000 ≤ 1 ∧ vl 10000 (o ++ [((t % 10000 : Nat) : Int)]) + 10000 ^ (k + 1) * (t / 10000) = vl 10000 (a.take (k + 1)) + vl 10000 (b.take (k + 1)) ∧ ((k + 1 ≤ a.length ∨ k + 1 ≤ b.length) ∨ t / 10000 = 0) := by
  intro t
  have g1 := ha.getD (by decide) k
  have g2 := hb.getD (by decide) k
  refine ⟨ho.snoc ⟨by omega, by omega⟩, by simp [hk], by omega, ?_, ?_⟩
  · rw [vl_snoc, vl_take_succ, vl_take_succ, hk, Int.toNat_natCast, Nat.pow_succ, Nat.mul_assoc, Nat.add_assoc, ← Nat.mul_add, Nat.mod_add_div, show t = c + ((a.getD k 0).toNat + (b.getD k 0).toNat) from rfl, Nat.mul_add, Nat.mul_add]
    omega
  · rcases Nat.lt_or_ge k a.length with h | h
    · exact .inl (.inl h)
    rcases Nat.lt_or_ge k b.length with h' | h'
    · exact .inl (.inr h')
    refine .inr ?_
    have e1 : a.getD k 0 = 0 := by rw [List.getD_eq_getElem?_getD, List.getElem?_eq_none h]; rfl
    have e2 : b.getD k 0 = 0 := by rw [List.getD_eq_getElem?_getD, List.getElem?_eq_none h']; rfl
    rw [show t = c + ((a.getD k 0).toNat + (b.getD k 0).toNat) from rfl, e1, e2]
    omega
section
variable [G : Globs]
theorem s_atN (l : List Int) (hl : Dg 10000 l) (i : Nat) : PSpec Try.prog 87 [.rd .int l, .i .i64 i] (.i .i64 ((l.getD i 0).toNat : Int)) := by
  have := s_at l i
  rwa [← cast_getD hl] at this
theorem w_plus (a b : List Int) (ha : Dg 10000 a) (hb : Dg 10000 b) (hla : a.length ≤ 1000000) (hlb : b.length ≤ 1000000) : vc Try.prog Γ 42 [0, 1, 4, 5, 6, 7, 21] (Try.f83.body.getD .skip) (postK Γ [.tmp 4] (fun v => v = .rd .int (dg 10000 (vl 10000 a + vl 10000 b)))) ⟨argSlots 0 [.rd .int a, .rd .int b], []⟩ := by
  refine Exists.intro [(5, 5, .int)] (Exists.intro [] (Exists.intro [] (Exists.intro (Nat × Nat × List Int) (Exists.intro (fun x => Dg 10000 x.2.2 ∧ x.2.2.length = x.1 ∧ x.2.1 ≤ 1 ∧ vl 10000 x.2.2 + 10000 ^ x.1 * x.2.1 = vl 10000 (a.take x.1) + vl 10000 (b.take x.1) ∧ ((x.1 ≤ a.length ∨ x.1 ≤ b.length) ∨ x.2.1 = 0) ∧ x.1 ≤ 1000001) (Exists.intro (fun ⟨k, c, o⟩ => ⟨[(0, .rd .int a), (1, .rd .int b), (5, .vec 5 .int o), (6, .i .i64 c), (7, .i .i64 k)], []⟩) (Exists.intro (fun x => 1000002 - x.1) (Exists.intro (0, 0, []) (And.intro ⟨Dg.nil _, rfl, by simp, rfl, by simp, by simp⟩ (And.intro ?_ ?_)))))))))
  · (repeat' (first | exact trivial | exact Or.inl rfl | exact Or.inr (Or.inl ⟨rfl, _, rfl⟩) | refine And.intro ?_ ?_))
  · rintro ⟨k, c, o⟩ ⟨h1, h2, h3, h4, h5, h6⟩
    dsimp only at h1 h2 h3 h4 h5 h6
    have nx := plus_next (k := k) (c := c) ha hb h1 h2 h3 h4
    have g1 := ha.getD (by decide) k
    have g2 := hb.getD (by decide) k
    repeat' (first | (refine And.intro (fun h => ?_) (fun h => ?_) <;> (try simp [-List.getD_eq_getElem?_getD, -Int.pred_toNat] at h)) | intro _)
    all_goals first | (exfalso; omega) | skip
    all_goals first
      | (have hx : a.length ≤ k ∧ b.length ≤ k ∧ c = 0 := ⟨by omega, by omega, by omega⟩
         obtain ⟨x1, x2, rfl⟩ := hx
         rw [List.take_of_length_le x1, List.take_of_length_le x2, Nat.mul_zero, Nat.add_zero] at h4
         refine Or.inl (Exists.intro _ (And.intro (s_cut o h1) ?_))
         exact congrArg (fun n => AV.rd .int (dg 10000 n)) h4)
      | skip
    all_goals
      have nx := nx (by omega) (by omega) h5
      generalize hxe : (a.getD k 0).toNat = x at nx
      generalize hye : (b.getD k 0).toNat = y at nx
      have hxl : x < 10000 := by omega
      have hyl : y < 10000 := by omega
      have qa := s_atN a ha k
      have qb := s_atN b hb k
      rw [hxe] at qa
      rw [hye] at qb
      refine Or.inl (Exists.intro _ (And.intro (qa) ?_))
      refine Or.inl (Exists.intro _ (And.intro (qb) ?_))
      (refine And.intro (rng64 (by omega) (by omega)) ?_)
      (refine And.intro (rng64 (by omega) (by omega)) ?_)
      refine And.intro (by decide) ?_
      refine And.intro (by show (o.length + 1) * 8 ≤ _; omega) ?_
      refine And.intro (by decide) ?_
      refine And.intro (rng64 (by rw [show (c : Int) + ((x : Int) + (y : Int)) = ((c + (x + y) : Nat) : Int) from rfl, tdiv10k]; omega) (by rw [show (c : Int) + ((x : Int) + (y : Int)) = ((c + (x + y) : Nat) : Int) from rfl, tdiv10k]; omega)) ?_
      (refine And.intro (rng64 (by omega) (by omega)) ?_)
      refine Exists.intro [(37, 5)] (Exists.intro (k + 1, (c + (x + y)) / 10000, o ++ [(((c + (x + y)) % 10000 : Nat) : Int)]) (And.intro ⟨nx.1, nx.2.1, nx.2.2.1, nx.2.2.2.1, nx.2.2.2.2, by omega⟩ (And.intro ?_ ?_)))
      · (repeat' (first | exact trivial | exact Or.inl rfl | exact Or.inr (Or.inl ⟨rfl, _, rfl⟩) | refine And.intro ?_ ?_))
      · show 1000002 - (k + 1) < 1000002 - k
        omega
theorem s_plus (a b : List Int) (ha : Dg 10000 a) (hb : Dg 10000 b) (hla : a.length ≤ 1000000) (hlb : b.length ≤ 1000000) : PSpec Try.prog 83 [.rd .int a, .rd .int b] (.rd .int (dg 10000 (vl 10000 a + vl 10000 b))) :=
  pspec_of_vc Γ_good Try.func83 rfl Try.call83 Try.results83 Try.ntmps83 (Nat.le_of_ble_eq_true rfl) (w_plus a b ha hb hla hlb)
end
end Go.Proofs.Ytjlbaagnoppfgaa
