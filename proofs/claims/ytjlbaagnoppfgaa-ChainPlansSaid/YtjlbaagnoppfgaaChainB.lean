/-
  A part of the proof that 'typecaselaw.ChainPlans' returns true: the program's plan, walked. No conditions.
-/
import Derived.Test.YtjlbaagnoppfgaaChainA
namespace Go.Proofs.Ytjlbaagnoppfgaa
set_option linter.unusedSectionVars false
set_option linter.unusedSimpArgs false
set_option linter.unusedVariables false
open Go Go.SX Go.Ch
set_option maxRecDepth 100000
set_option maxHeartbeats 0
/-- what the search has found -/
structure Fnd (l : List Link) (t : Int) (F : List (Int × Int)) : Prop where
  iff : ∀ n (e : Nat), @mpGet .int .int F n = some ((e : Nat) : Int) ↔ Dist l t n e
  nat : ∀ n (e : Int), @mpGet .int .int F n = some e → ∃ k : Nat, e = k
theorem Fnd.none {l : List Link} {t : Int} {F : List (Int × Int)} (h : Fnd l t F) {n : Int} (hn : @mpGet .int .int F n = Option.none) (d : Nat) : Rb l t d n = false := by
  cases hr : Rb l t d n with
  | false => rfl
  | true =>
    obtain ⟨k, _, hd⟩ := Rb.dist hr
    rw [(h.iff n k).2 hd] at hn
    cases hn
section
variable [G : Globs]
theorem w_pl1 (x : Link) (a : Int) (F : List (Int × Int)) (l : List Link) (t : Int) (d : Nat) (hF : Fnd l t F) (hx : x ∈ l) (ha : Dist l t a (d + 1)) (hd : d ≤ 1000000) : vc Try.prog Γ 29 [1, 2, 3, 4, 5, 6, 1000, 1001, 1002] (Try.f63.body.getD .skip) (postBK Γ [.tmp 4] (.b (decide (x.fr = a) && Rb l t d x.to)) [(1000, [.ob 1002 1002 (.mp .int .int F)]), (1001, [.i .i64 a])]) ⟨argSlots 0 [.agg [.i .i64 x.fr, .i .i64 x.to, .rd .move x.moves], .pt 1000 0, .pt 1001 0], [(1000, [.ob 1002 1002 (.mp .int .int F)]), (1001, [.i .i64 a])]⟩ := by
  have hFa := (hF.iff a (d + 1)).2 ha
  refine And.intro (fun h1 => ?_) (fun h1 => ?_)
  · have h1 : x.fr = a := eq_of_beq h1
    cases hk : @mpGet .int .int F x.to with
    | none =>
      (conv => whnf)
      refine And.intro (fun h9 => absurd h9 Bool.false_ne_true) (fun _ => ?_)
      refine Exists.intro [] (And.intro ?_ (by (repeat' (first | exact trivial | exact Or.inl rfl | exact Or.inr (Or.inl ⟨rfl, _, rfl⟩) | exact Or.inr (Or.inr (Or.inr ⟨_, _, _, rfl, rfl⟩)) | refine And.intro ?_ ?_))))
      show AV.b false = _
      rw [hF.none hk d, Bool.and_false]
    | some e =>
      obtain ⟨k, rfl⟩ := hF.nat _ _ hk
      (conv => whnf)
      refine And.intro (fun _ => ?_) (fun h9 => Bool.noConfusion h9)
      (conv => whnf)
      rw [hFa]
      refine And.intro (show Rng .i64 ((((d + 1 : Nat) : Int)) - 1) from ?_) ?_
      · show (-9223372036854775808 : Int) ≤ _ ∧ _ ≤ (9223372036854775807 : Int)
        constructor <;> omega
      refine Exists.intro [] (And.intro ?_ (by (repeat' (first | exact trivial | exact Or.inl rfl | exact Or.inr (Or.inl ⟨rfl, _, rfl⟩) | exact Or.inr (Or.inr (Or.inr ⟨_, _, _, rfl, rfl⟩)) | refine And.intro ?_ ?_))))
      show AV.b (decide ((k : Int) = ((d + 1 : Nat) : Int) - 1)) = _
      have hkd : Dist l t x.to k := (hF.iff _ _).1 hk
      have : decide ((k : Int) = ((d + 1 : Nat) : Int) - 1) = Rb l t d x.to := by
        cases hr : Rb l t d x.to with
        | true =>
          have := (ha.step hx h1 hr).uniq hkd
          exact decide_eq_true (by omega)
        | false =>
          refine decide_eq_false fun e => ?_
          have : k = d := by omega
          subst this
          rw [hkd.1] at hr
          cases hr
      rw [this, decide_eq_true h1, Bool.true_and]
  · have h1 : x.fr ≠ a := ne_of_beq_false h1
    refine And.intro (fun h9 => absurd h9 (by decide)) (fun _ => ?_)
    refine Exists.intro [] (And.intro ?_ (by (repeat' (first | exact trivial | exact Or.inl rfl | exact Or.inr (Or.inl ⟨rfl, _, rfl⟩) | exact Or.inr (Or.inr (Or.inr ⟨_, _, _, rfl, rfl⟩)) | refine And.intro ?_ ?_))))
    show AV.b false = _
    rw [decide_eq_false h1, Bool.false_and]
theorem s_pl1 (x : Link) (a : Int) (F : List (Int × Int)) (l : List Link) (t : Int) (d : Nat) (hF : Fnd l t F) (hx : x ∈ l) (ha : Dist l t a (d + 1)) (hd : d ≤ 1000000) : CSpec Try.prog 63 [.agg [.i .i64 x.fr, .i .i64 x.to, .rd .move x.moves], .pt 1000 0, .pt 1001 0] [(1000, [.ob 1002 1002 (.mp .int .int F)]), (1001, [.i .i64 a])] (.b (decide (x.fr = a) && Rb l t d x.to)) [(1000, [.ob 1002 1002 (.mp .int .int F)]), (1001, [.i .i64 a])] :=
  cspec_of_vc Γ_good Try.func63 rfl Try.call63 Try.results63 Try.ntmps63 (Nat.le_of_ble_eq_true rfl) (Nat.le_of_ble_eq_true rfl) (by rfl) (w_pl1 x a F l t d hF hx ha hd)
theorem w_ix1 (a : Int) (F : List (Int × Int)) (l : List Link) (t : Int) (d : Nat) (hF : Fnd l t F) (ha : Dist l t a (d + 1)) (hd : d ≤ 1000000) (hlen : l.length ≤ 100) : vc Try.prog Γ 19 [0, 1, 4, 5, 7, 8, 9, 16, 1000, 1001, 1002] (Try.f62.body.getD .skip) (postBK Γ [.tmp 4] (.i .i64 (l.findIdx (fun x => decide (x.fr = a) && Rb l t d x.to) : Nat)) [(1000, [.ob 1002 1002 (.mp .int .int F)]), (1001, [.i .i64 a])]) ⟨argSlots 0 [.rd .link l, .fn 63 [.pt 1000 0, .pt 1001 0]], [(1000, [.ob 1002 1002 (.mp .int .int F)]), (1001, [.i .i64 a])]⟩ := by
  intro _
  have hex := way_idx ha
  generalize hI : l.findIdx (fun x => decide (x.fr = a) && Rb l t d x.to) = I at hex ⊢
  refine Exists.intro [] (Exists.intro [] (Exists.intro [] (Exists.intro Nat (Exists.intro (fun i => i ≤ I) (Exists.intro (fun i => ⟨[(0, .rd .link l), (1, .fn 63 [.pt 1000 0, .pt 1001 0]), (7, .i .i64 l.length), (8, .i .i64 i)], [(1000, [.ob 1002 1002 (.mp .int .int F)]), (1001, [.i .i64 a])]⟩) (Exists.intro (fun i => l.length - i) (Exists.intro 0 (And.intro (Nat.zero_le _) (And.intro ?_ ?_)))))))))
  · (repeat' (first | exact trivial | exact Or.inl rfl | exact Or.inr (Or.inl ⟨rfl, _, rfl⟩) | exact Or.inr (Or.inr (Or.inr ⟨_, _, _, rfl, rfl⟩)) | refine And.intro ?_ ?_))
  · intro i hiI
    refine And.intro (fun he => ?_) (fun he => ?_)
    · have hi : i < l.length := by omega
      clear he
      refine And.intro ⟨by omega, by omega⟩ ?_
      have hx : l.getD (Int.toNat (i : Int)) (dflt .link) = l[i] := by rw [Int.toNat_natCast, List.getD_eq_getElem?_getD, List.getElem?_eq_getElem hi]; rfl
      have hm : l[i] ∈ l := List.getElem_mem hi
      rw [← hx] at hm
      refine Or.inr (Or.inl (Exists.intro [] (Exists.intro _ (Exists.intro _ (Exists.intro _ (Exists.intro _ (Exists.intro _ (Exists.intro [] (And.intro (s_pl1 (l.getD (Int.toNat (i : Int)) (dflt .link)) a F l t d hF hm ha hd) ?_)))))))))
      refine (And.intro rfl (And.intro rfl (And.intro rfl (And.intro rfl (And.intro rfl (And.intro rfl ?_))))))
      rw [hx]
      refine And.intro (fun h9 => ?_) (fun h9 => ?_)
      · have h9 := Bool.and_eq_true_iff.1 h9
        obtain rfl : i = I := idx_eq hi hI hiI (of_decide_eq_true h9.1) h9.2
        refine Exists.intro [] (And.intro rfl (by (repeat' (first | exact trivial | exact Or.inl rfl | exact Or.inr (Or.inl ⟨rfl, _, rfl⟩) | exact Or.inr (Or.inr (Or.inr ⟨_, _, _, rfl, rfl⟩)) | refine And.intro ?_ ?_))))
      · have hne : i ≠ I := idx_ne hi hI (fun h8 => by rw [decide_eq_true h8.1, h8.2] at h9; exact Bool.noConfusion h9)
        (refine And.intro (rng64 (by omega) (by omega)) ?_)
        refine Exists.intro [] (Exists.intro (i + 1) (And.intro (by omega) (And.intro ?_ ?_)))
        · (repeat' (first | exact trivial | exact Or.inl rfl | exact Or.inr (Or.inl ⟨rfl, _, rfl⟩) | exact Or.inr (Or.inr (Or.inr ⟨_, _, _, rfl, rfl⟩)) | refine And.intro ?_ ?_))
        · show l.length - (i + 1) < l.length - i
          omega
    · exfalso
      have : ¬ (i : Int) < (l.length : Int) := of_decide_eq_false he
      omega
theorem s_ix1 (a : Int) (F : List (Int × Int)) (l : List Link) (t : Int) (d : Nat) (hF : Fnd l t F) (ha : Dist l t a (d + 1)) (hd : d ≤ 1000000) (hlen : l.length ≤ 100) : CSpec Try.prog 62 [.rd .link l, .fn 63 [.pt 1000 0, .pt 1001 0]] [(1000, [.ob 1002 1002 (.mp .int .int F)]), (1001, [.i .i64 a])] (.i .i64 (l.findIdx (fun x => decide (x.fr = a) && Rb l t d x.to) : Nat)) [(1000, [.ob 1002 1002 (.mp .int .int F)]), (1001, [.i .i64 a])] :=
  cspec_of_vc Γ_good Try.func62 rfl Try.call62 Try.results62 Try.ntmps62 (Nat.le_of_ble_eq_true rfl) (Nat.le_of_ble_eq_true rfl) (by rfl) (w_ix1 a F l t d hF ha hd hlen)
end
end Go.Proofs.Ytjlbaagnoppfgaa
