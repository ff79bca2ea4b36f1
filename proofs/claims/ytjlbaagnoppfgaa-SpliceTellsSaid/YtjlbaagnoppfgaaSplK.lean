/-
  A part of the proof that 'typecaselaw.SpliceComposes' returns true, whatever the input: the document's atoms. No conditions.
-/
import Derived.Test.YtjlbaagnoppfgaaSplJ
namespace Go.Proofs.Ytjlbaagnoppfgaa
open Go Go.SX Go.Spl
set_option maxRecDepth 100000
set_option maxHeartbeats 0
structure AS where
  ov : List Atom
  out : List Atom
  k : Nat
structure AI (ov0 : List Atom) (c : List Part) (s : AS) : Prop where
  k : s.k ≤ c.length
  eq : s.out ++ atomsOf s.ov (c.drop s.k) = atomsOf ov0 c
  ov : wt fOv (exs (c.drop s.k)) ≤ s.ov.length
  out : s.out.length ≤ 20000 * s.k
theorem walk74 (ov0 : List Atom) (c : List Part) (h : ∀ p ∈ c, pfault p = 0) (hl : c.length ≤ 400) (hov : wt fOv (exs c) ≤ ov0.length) :
    vc Try.prog Γ 54 [0, 1, 4, 5, 7, 8, 9, 10, 11, 12, 16, 17, 29, 35, 41] (Try.f74.body.getD .skip) (postK Γ [.tmp 4] (fun v => v = .rd .atom (atomsOf ov0 c))) ⟨argSlots 0 [.rd .atom ov0, .rd .part c], []⟩ := by
  intro _
  refine Exists.intro [(5, 40, .atom)] (Exists.intro [] (Exists.intro [] (Exists.intro AS (Exists.intro (AI ov0 c) (Exists.intro (fun s => ⟨[(0, .rd .atom s.ov), (5, .vec 40 .atom s.out), (9, .rd .part c), (10, .i .i64 c.length), (11, .i .i64 s.k)], []⟩) (Exists.intro (fun s => c.length - s.k) (Exists.intro ⟨ov0, [], 0⟩ (And.intro ⟨Nat.zero_le _, rfl, hov, by simp⟩ (And.intro ?_ ?_)))))))))
  · repeat' (first | exact trivial | exact Or.inl rfl | refine And.intro ?_ ?_)
  · intro s hs
    have hsk := hs.k
    refine And.intro (fun h1 => ?_) (fun h1 => ?_)
    · have hk : s.k < c.length := by have := of_decide_eq_true h1; omega
      refine And.intro ⟨by omega, by omega⟩ ?_
      have hp : c.getD (Int.toNat s.k) (dflt .part) = c.getD s.k default := by rw [Int.toNat_natCast]
      have hm : c.getD s.k default ∈ c := by rw [List.getD_eq_getElem?_getD, List.getElem?_eq_getElem hk]; exact List.getElem_mem hk
      have hpf := h _ hm
      obtain ⟨b1, b2, b3, b4, b5, b6, b7⟩ := pf_bounds hpf
      have hd := drop_cons hk
      have hov := hs.ov
      have heq := hs.eq
      have hout := hs.out
      rw [hd, exs_cons, wt_append] at hov
      rw [hd, atomsOf] at heq
      refine And.intro (fun h2 => ?_) (fun h2 => ?_)
      · have hk1 : (c.getD s.k default).kind = 1 := by rw [← hp]; simpa using h2
        rw [if_pos hk1] at heq
        rw [ex_keep hk1, wt_rep] at hov
        simp only [fOv, Nat.one_mul] at hov
        have hlt : (s.ov.take (c.getD s.k default).n.toNat).length = (c.getD s.k default).n.toNat := by rw [List.length_take]; omega
        refine And.intro ⟨by omega, by show (0 : Int) ≤ (c.getD s.k default).n; omega, by show (c.getD s.k default).n ≤ (s.ov.length : Int); omega⟩ ?_
        refine And.intro (by show (s.out.length + (s.ov.take (c.getD s.k default).n.toNat).length) * 16 ≤ _; rw [hlt]; omega) ?_
        refine And.intro ⟨by show (0 : Int) ≤ (c.getD s.k default).n; omega, by show (c.getD s.k default).n ≤ (s.ov.length : Int); omega, Int.le_refl _⟩ ?_
        refine And.intro ⟨by show (-9223372036854775808 : Int) ≤ _; omega, by show _ ≤ (9223372036854775807 : Int); omega⟩ ?_
        refine Exists.intro [(24, 40)] (Exists.intro ⟨s.ov.drop (c.getD s.k default).n.toNat, s.out ++ s.ov.take (c.getD s.k default).n.toNat, s.k + 1⟩ (And.intro ⟨hk, ?_, ?_, ?_⟩ (And.intro ?_ ?_)))
        · rw [List.append_assoc]; exact heq
        · simp only [List.length_drop]; omega
        · simp only [List.length_append, hlt]; omega
        · refine And.intro (And.intro (Or.inl ?_) (And.intro (Or.inl ?_) (And.intro (Or.inl rfl) (And.intro (Or.inl rfl) (And.intro (Or.inl rfl) trivial))))) trivial
          · show AV.rd .atom ((s.ov.take (Int.toNat (s.ov.length : Int))).drop (c.getD s.k default).n.toNat) = AV.rd .atom (s.ov.drop (c.getD s.k default).n.toNat)
            rw [Int.toNat_natCast, List.take_length]
          · show AV.vec 40 .atom (s.out ++ (s.ov.take (c.getD s.k default).n.toNat).drop 0) = AV.vec 40 .atom (s.out ++ s.ov.take (c.getD s.k default).n.toNat)
            rw [List.drop_zero]
        · show c.length - (s.k + 1) < c.length - s.k
          omega
      · have hk1 : (c.getD s.k default).kind ≠ 1 := by rw [← hp]; simpa using h2
        refine And.intro (fun h3 => ?_) (fun h3 => ?_)
        · have hk2 : (c.getD s.k default).kind = 2 := by rw [← hp]; simpa using h3
          rw [if_neg hk1, if_pos hk2] at heq
          rw [ex_cut hk2, wt_rep] at hov
          simp only [fOv, Nat.one_mul] at hov
          refine And.intro ⟨by show (0 : Int) ≤ (c.getD s.k default).n; omega, by show (c.getD s.k default).n ≤ (s.ov.length : Int); omega, Int.le_refl _⟩ ?_
          refine And.intro ⟨by show (-9223372036854775808 : Int) ≤ _; omega, by show _ ≤ (9223372036854775807 : Int); omega⟩ ?_
          refine Exists.intro [] (Exists.intro ⟨s.ov.drop (c.getD s.k default).n.toNat, s.out, s.k + 1⟩ (And.intro ⟨hk, heq, ?_, ?_⟩ (And.intro ?_ ?_)))
          · simp only [List.length_drop]; omega
          · simp only; omega
          · refine And.intro (And.intro (Or.inl ?_) (And.intro (Or.inl rfl) (And.intro (Or.inl rfl) (And.intro (Or.inl rfl) (And.intro (Or.inl rfl) trivial))))) trivial
            show AV.rd .atom ((s.ov.take (Int.toNat (s.ov.length : Int))).drop (c.getD s.k default).n.toNat) = AV.rd .atom (s.ov.drop (c.getD s.k default).n.toNat)
            rw [Int.toNat_natCast, List.take_length]
          · show c.length - (s.k + 1) < c.length - s.k
            omega
        · have hk2 : (c.getD s.k default).kind ≠ 2 := by rw [← hp]; simpa using h3
          refine And.intro (fun h4 => ?_) (fun h4 => ?_)
          · have hk3 : (c.getD s.k default).kind = 3 := by rw [← hp]; simpa using h4
            rw [if_neg hk1, if_neg hk2, if_pos hk3] at heq
            rw [ex_put hk3, wt_puts fOv 0 (fun _ => rfl)] at hov
            simp only [Nat.zero_mul, Nat.zero_add] at hov
            refine Exists.intro [] (Exists.intro [] (Exists.intro [] (Exists.intro Nat (Exists.intro (fun i => i ≤ (c.getD s.k default).s.length) (Exists.intro (fun i => ⟨[(0, .rd .atom s.ov), (5, .vec 40 .atom (s.out ++ ((c.getD s.k default).s.take i).map (fun b => ⟨-1, (b.toNat : Int)⟩))), (7, .pt 7 0), (8, .i .i64 i), (9, .rd .part c), (10, .i .i64 c.length), (11, .i .i64 s.k)],
              [(7, [.i .i64 (c.getD s.k default).kind, .i .i64 (c.getD s.k default).n, .s (c.getD s.k default).s])]⟩) (Exists.intro (fun i => (c.getD s.k default).s.length - i) (Exists.intro 0 (And.intro (Nat.zero_le _) (And.intro ?_ ?_)))))))))
            · refine And.intro (And.intro (Or.inl rfl) (And.intro (Or.inl ?_) (And.intro (Or.inl rfl) (And.intro (Or.inl rfl) (And.intro (Or.inl rfl) (And.intro (Or.inl rfl) (And.intro (Or.inl rfl) trivial))))))) (And.intro (And.intro (Or.inl rfl) (And.intro (Or.inl rfl) (And.intro (Or.inl rfl) trivial))) trivial)
              simp
            · intro i hi hsl
              have hlt : (((c.getD s.k default).s.take i).map (fun b => (⟨-1, (b.toNat : Int)⟩ : Atom))).length = i := by rw [List.length_map, List.length_take]; omega
              refine And.intro (fun h5 => ?_) (fun h5 => ?_)
              · have hi : i < (c.getD s.k default).s.length := by have := of_decide_eq_true h5; omega
                refine And.intro ⟨by omega, by omega⟩ ?_
                refine And.intro (by show ((s.out ++ ((c.getD s.k default).s.take i).map (fun b => (⟨-1, (b.toNat : Int)⟩ : Atom))).length + 1) * 16 ≤ _; rw [List.length_append, hlt]; omega) ?_
                refine And.intro ⟨by show (-9223372036854775808 : Int) ≤ _; omega, by show _ ≤ (9223372036854775807 : Int); omega⟩ ?_
                refine Exists.intro [(51, 40)] (Exists.intro (i + 1) (And.intro hi (And.intro ?_ ?_)))
                · refine And.intro (And.intro (Or.inl rfl) (And.intro (Or.inl ?_) (And.intro (Or.inl rfl) (And.intro (Or.inl rfl) (And.intro (Or.inl rfl) (And.intro (Or.inl rfl) (And.intro (Or.inl rfl) trivial))))))) (And.intro (And.intro (Or.inl rfl) (And.intro (Or.inl rfl) (And.intro (Or.inl rfl) trivial))) trivial)
                  show AV.vec 40 .atom ((s.out ++ ((c.getD s.k default).s.take i).map (fun b => (⟨-1, (b.toNat : Int)⟩ : Atom))) ++ [(⟨-1, (((c.getD s.k default).s.getD (Int.toNat i) 0).toNat : Int)⟩ : Atom)]) = AV.vec 40 .atom (s.out ++ ((c.getD s.k default).s.take (i + 1)).map (fun b => (⟨-1, (b.toNat : Int)⟩ : Atom)))
                  rw [List.take_add_one, List.map_append, List.append_assoc, Int.toNat_natCast, List.getElem?_eq_getElem hi]
                  simp [hi, -List.getD_eq_getElem?_getD]
                  rw [List.getD_eq_getElem?_getD, List.getElem?_eq_getElem hi]
                  rfl
                · show (c.getD s.k default).s.length - (i + 1) < (c.getD s.k default).s.length - i
                  omega
              · have hi : i = (c.getD s.k default).s.length := by have := of_decide_eq_false h5; omega
                subst hi
                rw [List.take_length] at *
                refine And.intro ⟨by show (-9223372036854775808 : Int) ≤ _; omega, by show _ ≤ (9223372036854775807 : Int); omega⟩ ?_
                refine Exists.intro [] (Exists.intro ⟨s.ov, s.out ++ (c.getD s.k default).s.map (fun b => ⟨-1, (b.toNat : Int)⟩), s.k + 1⟩ (And.intro ⟨hk, ?_, hov, ?_⟩ (And.intro ?_ ?_)))
                · rw [List.append_assoc]; exact heq
                · simp only [List.length_append, List.length_map]; omega
                · repeat' (first | exact trivial | exact Or.inl rfl | refine And.intro ?_ ?_)
                · show c.length - (s.k + 1) < c.length - s.k
                  omega
          · have hk3 : (c.getD s.k default).kind ≠ 3 := by rw [← hp]; simpa using h4
            omega
    · have hk : s.k = c.length := by have := of_decide_eq_false h1; omega
      show AV.rd .atom s.out = AV.rd .atom (atomsOf ov0 c)
      have := hs.eq
      rw [hk, List.drop_length, atomsOf, List.append_nil] at this
      rw [this]
theorem spec74 (ov0 : List Atom) (c : List Part) (h : ∀ p ∈ c, pfault p = 0) (hl : c.length ≤ 400) (hov : wt fOv (exs c) ≤ ov0.length) : PSpec Try.prog 74 [.rd .atom ov0, .rd .part c] (.rd .atom (atomsOf ov0 c)) :=
  pspec_of_vc Γ_good Try.func74 rfl Try.call74 Try.results74 Try.ntmps74 (Nat.le_of_ble_eq_true rfl) (walk74 ov0 c h hl hov)
end Go.Proofs.Ytjlbaagnoppfgaa
