/-
  Verification conditions with cuts: where ways meet again, the state is told once.
-/
import Derived.Test.YtjlbaagnoppfgaaSxLaw
namespace Go.SX
set_option linter.unusedSectionVars false
variable [Globs]
/-- what a condition comes to: the code's own weakest precondition -/
structure VCs (P : Program) (Γ : Ctx) (N : Nat) (L : List Nat) (c : Code) (Q : Exit → St → Prop) (s : St) : Prop where
  ok : ∀ (W0 : World) (F : Fr) (X : Nat → Prop) (Q' : Exit → Act → World → Prop) (a : Act) (w : World), (∀ e s a w, Q e s → Inv W0 F X N s a w → Q' e a w) → Inv W0 F X N s a w → c.wp P Q' a w
section
variable {P : Program} {N : Nat} {Γ : Ctx} {L : List Nat} {s : St}
theorem VCs.of_vc (hΓ : Γ.good P) {c : Code} {Q : Exit → St → Prop} (h : vc P Γ N L c Q s) : VCs P Γ N L c Q s := ⟨fun _ _ _ Q' a w hQ hI => vc_ok hΓ c Q Q' s a w hQ h hI⟩
/-- the first part is walked, the second one is walked behind each of its ends -/
theorem VCs.seq (hΓ : Γ.good P) {x y : Code} {Q : Exit → St → Prop} (h : vc P Γ N L x (fun e s' => match e with
    | .normal => VCs P Γ N L y Q s'
    | e => Q e s') s) : VCs P Γ N L (.seq x y) Q s := ⟨fun W0 F X Q' a w hQ hI =>
  wp_seq (vc_ok hΓ x _ _ s a w (fun e s' a' w' hq hI' => by
    cases e with
    | normal => exact hq.ok W0 F X Q' a' w' hQ hI'
    | _ => exact hQ _ _ _ _ hq hI') h hI)⟩
/-- a cut: behind the first part the state is as told -/
theorem VCs.cut (hΓ : Γ.good P) {x y : Code} {Q : Exit → St → Prop} (σ : Type) (I : σ → Prop) (S : σ → St) (h : vc P Γ N L x (fun e s' => match e with
    | .normal => ∃ v, I v ∧ Wk s' (S v)
    | e => Q e s') s) (h2 : ∀ v, I v → VCs P Γ N L y Q (S v)) : VCs P Γ N L (.seq x y) Q s := ⟨fun W0 F X Q' a w hQ hI =>
  wp_seq (vc_ok hΓ x _ _ s a w (fun e s' a' w' hq hI' => by
    cases e with
    | normal =>
      obtain ⟨v, hv, hw⟩ := hq
      obtain ⟨β, hI'⟩ := hI'
      exact (h2 v hv).ok W0 F X Q' a' w' hQ ⟨β, hI'.wk hw⟩
    | _ => exact hQ _ _ _ _ hq hI') h hI)⟩
/-- a contract out of it -/
theorem pspec_of_VCs (_hΓ : Γ.good P) {f : FuncId} {fn : Func} {c : Code} (hf : P.funcs[f]? = some fn) (hb : fn.body = some c) (hcall : ∀ (vs : Array Value) (w : World), (callFunc f vs).run P w = .ok (.enter f vs) w)
    {rs : Array ResultVar} (hrs : fn.results = rs) (hN : fn.ntmps = N) {args : List AV} {r : AV} (hlen : args.length ≤ N)
    (hvc : VCs P Γ N L c (postK Γ rs.toList (fun v => v = r)) ⟨argSlots 0 args, []⟩) (hΓ : Γ.good P) : PSpec P f args r := by
  refine ⟨hcall, fun O w vs hO hG hargs => ?_⟩
  refine calls_of_wp hf hb ?_
  have hsz : vs.length = args.length := hargs.1.symm
  have hI : InvB w Fr.none O N ⟨argSlots 0 args, []⟩ (fun _ => none) { tmps := vs.toArray ++ Array.replicate (fn.ntmps - vs.toArray.size) undef, defers := [] } w := by
    have hNm : ∀ n, ¬ Nm ⟨argSlots 0 args, []⟩ n := by
      rintro n (⟨cs, h⟩ | ⟨m, h⟩ | ⟨b, cs, h, _⟩)
      · cases h
      · have := look_args args 0 m
        rw [Nat.zero_add] at this
        simp only [this] at h
        by_cases hm : m < args.length
        · rw [List.getD_eq_getElem?_getD, List.getElem?_eq_getElem hm] at h
          have := (hargs.2 m _ _ (List.getElem?_eq_getElem hm) (List.getElem?_eq_getElem (by rw [hsz]; exact hm))).ids_nil
          rw [show (some args[m]).getD AV.x = args[m] from rfl, this] at h
          cases h
        · rw [List.getD_eq_getElem?_getD, List.getElem?_eq_none (by omega)] at h
          simp [ids, ids0] at h
      · cases h
    refine ⟨Stp.refl _ _, fun n => ?_, ?_, fun n cs h => (by cases h), fun n m g hn => absurd hn (hNm n), fun n g hn => absurd hn (hNm n), rfl, fun k hk => ⟨hO k hk, id⟩, fun n cs g h => (by cases h), fun _ _ => rfl, hG.step (Stp.refl (fun _ => False) w) (fun _ _ h => h.elim) fun k _ hk => hk.elim id fun h => h.elim⟩
    · have h1 := look_args args 0 n
      rw [Nat.zero_add] at h1
      show Rel _ _ _ (look (argSlots 0 args) n) _
      rw [h1]
      by_cases hm : n < args.length
      · have hmv : n < vs.length := by rw [hsz]; exact hm
        have h2 := hargs.2 n _ _ (List.getElem?_eq_getElem hm) (List.getElem?_eq_getElem hmv)
        rw [List.getD_eq_getElem?_getD, List.getElem?_eq_getElem hm]
        have h3 : (vs.toArray ++ Array.replicate (fn.ntmps - vs.toArray.size) undef).getD n undef = vs[n] := by
          rw [Array.getD_eq_getD_getElem?, Array.getElem?_append_left (by simpa using hmv)]
          simp [hmv]
        rw [h3]
        refine Rel.im (h2.mono fun k hk => ?_)
        rcases hk with hk | ⟨m, hm', _⟩
        · exact hk
        · exact absurd hm' (hNm m)
      · rw [List.getD_eq_getElem?_getD, List.getElem?_eq_none (by omega)]
        exact Rel.x
    · show (vs.toArray ++ Array.replicate (fn.ntmps - vs.toArray.size) undef).size = N
      simp only [Array.size_append, List.size_toArray, Array.size_replicate, hN, hsz]
      omega
  refine hvc.ok w Fr.none O _ _ _ (fun e s a w' hq ⟨β, hI'⟩ => ?_) ⟨_, hI⟩
  have key : retK Γ s rs.toList (fun v => v = r) → a.defers = [] ∧ ∃ v, (results fn a.tmps).run P w' = .ok v w' ∧ ∃ v', Ending.returned v = .returned v' ∧ Stp (fun _ => False) w w' ∧ Im O w' r v' := by
    intro h
    rw [← hrs] at h
    obtain ⟨v, u, rfl, h1, h2⟩ := ret_ok hΓ hI' h
    exact ⟨hI'.defers, u, h2, u, rfl, hI'.ext, h1⟩
  cases e with
  | normal => exact key hq
  | ret => exact key hq
  | _ => exact hq.elim
end
end Go.SX
