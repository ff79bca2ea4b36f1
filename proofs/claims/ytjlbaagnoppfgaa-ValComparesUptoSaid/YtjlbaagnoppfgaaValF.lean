/-
  A part of the proof that 'typecaselaw.ValCompares' returns true: entries beside entries, walked. No conditions.
-/
import Derived.Test.YtjlbaagnoppfgaaValE
namespace Go.Proofs.Ytjlbaagnoppfgaa
set_option linter.unusedSectionVars false
set_option linter.unusedSimpArgs false
set_option linter.unusedVariables false
open Go Go.SX Go.Vl
set_option maxRecDepth 100000
set_option maxHeartbeats 0
section
variable [G : Globs]
theorem pspec_im {P : Program} {f : FuncId} {args args' : List AV} {r : AV} (h : PSpec P f args r) (hle : ∀ (O : Nat → Prop) (w : World) (vs : List Value), All2 (Im O w) args' vs → All2 (Im O w) args vs) : PSpec P f args' r :=
  ⟨h.1, fun O w vs hO hG hargs => h.2 O w vs hO hG (hle O w vs hargs)⟩
theorem im_nl {O : Nat → Prop} {w : World} {a b c d e : AV} {u : Value} (h : Im O w (.agg [a, b, c, d, .nl, e]) u) : Im O w (.agg [a, b, c, d, .rd .val [], e]) u := by
  cases h with
  | agg _ vs h1 h2 h3 =>
    refine .agg _ vs h1 h2 fun j av y hav hy => ?_
    match j with
    | 0 => exact h3 0 av y hav hy
    | 1 => exact h3 1 av y hav hy
    | 2 => exact h3 2 av y hav hy
    | 3 => exact h3 3 av y hav hy
    | 4 =>
      have := h3 4 .nl y rfl hy
      simp at hav
      subst hav
      cases this
      exact .rd0 _ _ _ (Nat.zero_le _)
    | 5 => exact h3 5 av y hav hy
    | j + 6 => simp at hav
theorem w_sameE (l m : List Ent) (hl : VB ⟨6, 0, 0, [], [], l⟩) (hm : VB ⟨6, 0, 0, [], [], m⟩) : vc Try.prog Γ 10 [0, 1, 4] (Try.f54.body.getD .skip) (postK Γ [.tmp 4] (fun v => v = .b (decide (cmpE l m = 0)))) ⟨argSlots 0 [.rd .ent l, .rd .ent m], []⟩ := by
  have h := pspec_im (s_same ⟨6, 0, 0, [], [], l⟩ ⟨6, 0, 0, [], [], m⟩ hl hm) (args' := [.agg [.i .i64 6, .i .i64 0, .i .u64 0, .s [], .nl, .rd .ent l], .agg [.i .i64 6, .i .i64 0, .i .u64 0, .s [], .nl, .rd .ent m]]) (fun O w vs hv => by
    obtain ⟨u1, r1, rfl, h1, h2⟩ := hv.cons_inv
    obtain ⟨u2, r2, rfl, h3, h4⟩ := h2.cons_inv
    exact All2.cons (im_nl h1) (All2.cons (im_nl h3) h4))
  rw [show cmpV ⟨6, 0, 0, [], [], l⟩ ⟨6, 0, 0, [], [], m⟩ = cmpE l m by rw [cmpV_eq]; simp only [cmpI_self, cmpS_self, cmpL_self, orI_zero]] at h
  refine Or.inl (Exists.intro _ (And.intro (h) ?_))
  rfl
theorem s_sameE (l m : List Ent) (hl : VB ⟨6, 0, 0, [], [], l⟩) (hm : VB ⟨6, 0, 0, [], [], m⟩) : PSpec Try.prog 54 [.rd .ent l, .rd .ent m] (.b (decide (cmpE l m = 0))) :=
  pspec_of_vc Γ_good Try.func54 rfl Try.call54 Try.results54 Try.ntmps54 (Nat.le_of_ble_eq_true rfl) (w_sameE l m hl hm)
end
end Go.Proofs.Ytjlbaagnoppfgaa
