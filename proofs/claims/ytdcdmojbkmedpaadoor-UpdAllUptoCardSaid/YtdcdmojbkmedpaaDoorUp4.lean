/-
  A part of a proof: plain laws and walks, one after the other. No conditions.
-/
import Derived.Test.YtdcdmojbkmedpaaDoorUp3
import Derived.Deep.Slices
import Derived.Carry
import Derived.DataReads
import Derived.Laws.Bits64
import Derived.Laws.Bits64b
import Derived.Laws.IdiomCopy
import Derived.Lib.Overlaps
import Derived.Lib.AppendZerosOnto
import Derived.WalkKit
import Derived.Shelf.Spec.SlicesInsert
set_option linter.constructorNameAsVariable false
set_option linter.unusedVariables false
set_option linter.unusedSimpArgs false
set_option linter.unusedSectionVars false
section
namespace Go.SX
set_option linter.unusedSectionVars false
variable [Globs]
section
variable {P : Program} {N : Nat} {Γ : Ctx} {L : List Nat} {W0 : World} {F : Fr} {X : Nat → Prop} {s : St} {β : Nat → Option Nat} {a : Act} {w : World}
/-- the same, but that a nil slice may stand for an empty one -/
def RL1 : AV → AV → Prop
  | .agg cs, .agg ds => AVles cs ds
  | c, d => AVle c d
def RLs : List AV → List AV → Prop
  | [], [] => True
  | a :: r, b :: t => RL1 a b ∧ RLs r t
  | _, _ => False
def RL : AV → AV → Prop
  | .tup cs, .tup ds => RLs cs ds
  | c, d => RL1 c d
theorem im_RL1 {O : Nat → Prop} {c d : AV} {u : Value} (h : Im O w c u) (hle : RL1 c d) : Im O w d u := by
  unfold RL1 at hle
  split at hle
  · cases h with
    | agg _ vs h1 h2 h3 =>
      have := all_le (show All2 (Im O w) _ vs from ⟨h1, h3⟩) hle
      exact .agg _ vs this.1 h2 this.2
  · exact im_le h hle
theorem im_RLs {O : Nat → Prop} : ∀ {cs ds : List AV} {us : List Value}, All2 (Im O w) cs us → RLs cs ds → All2 (Im O w) ds us
  | [], [], us, h, _ => h
  | [], _ :: _, _, _, hle => hle.elim
  | _ :: _, [], _, _, hle => hle.elim
  | c :: r, d :: t, us, h, hle => by
    obtain ⟨u, us', rfl, h1, h2⟩ := h.cons_inv
    exact All2.cons (im_RL1 h1 hle.1) (im_RLs h2 hle.2)
theorem im_RL {O : Nat → Prop} {c d : AV} {u : Value} (h : Im O w c u) (hle : RL c d) : Im O w d u := by
  unfold RL at hle
  split at hle
  · cases h with
    | tup _ vs h1 h2 =>
      have := im_RLs (show All2 (Im O w) _ vs from ⟨h1, h2⟩) hle
      exact .tup _ vs this.1 this.2
  · exact im_RL1 h hle
/-- a contract called with nil slices in place of empty ones -/
theorem PSpec.arg {f : FuncId} {args args' : List AV} {r : AV} (h : PSpec P f args r) (hle : RLs args' args) : PSpec P f args' r :=
  ⟨h.1, fun O w vs h1 h2 h3 => h.2 O w vs h1 h2 (im_RLs h3 hle)⟩
theorem pspec_of_vcL (hΓ : Γ.good P) {f : FuncId} {fn : Func} {c : Code} (hf : P.funcs[f]? = some fn) (hb : fn.body = some c) (hcall : ∀ (vs : Array Value) (w : World), (callFunc f vs).run P w = .ok (.enter f vs) w)
    {rs : Array ResultVar} (hrs : fn.results = rs) (hN : fn.ntmps = N) {args : List AV} {r : AV} {L : List Nat} (hlen : args.length ≤ N)
    (hvc : vc P Γ N L c (postK Γ rs.toList (fun v => RL v r)) ⟨argSlots 0 args, []⟩) : PSpec P f args r := by
  refine ⟨hcall, fun O w vs hO hG hargs => ?_⟩
  refine calls_of_wp hf hb ?_
  have hsz : vs.length = args.length := hargs.1.symm
  have hI : InvB w Fr.none O N ⟨argSlots 0 args, []⟩ (fun _ => none) { tmps := vs.toArray ++ Array.replicate (fn.ntmps - vs.toArray.size) undef, defers := [] } w := by
    have hNm : ∀ n, ¬ Nm ⟨argSlots 0 args, []⟩ n := by
      rintro n (⟨cs, h⟩ | ⟨m, h⟩ | ⟨b, cs, h, _⟩)
      · cases h
      · have := look_args args 0 m
        rw [Nat.zero_add] at this
        simp only [this] at h
        by_cases hm : m < args.length
        · rw [List.getD_eq_getElem?_getD, List.getElem?_eq_getElem hm] at h
          have := (hargs.2 m _ _ (List.getElem?_eq_getElem hm) (List.getElem?_eq_getElem (by rw [hsz]; exact hm))).ids_nil
          rw [show (some args[m]).getD AV.x = args[m] from rfl, this] at h
          cases h
        · rw [List.getD_eq_getElem?_getD, List.getElem?_eq_none (by omega)] at h
          simp [ids, ids0] at h
      · cases h
    refine ⟨Stp.refl _ _, fun n => ?_, ?_, fun n cs h => (by cases h), fun n m g hn => absurd hn (hNm n), fun n g hn => absurd hn (hNm n), rfl, fun k hk => ⟨hO k hk, id⟩, fun n cs g h => (by cases h), fun _ _ => rfl, hG.step (Stp.refl (fun _ => False) w) (fun _ _ h => h.elim) fun k _ hk => hk.elim id fun h => h.elim⟩
    · have h1 := look_args args 0 n
      rw [Nat.zero_add] at h1
      show Rel _ _ _ (look (argSlots 0 args) n) _
      rw [h1]
      by_cases hm : n < args.length
      · have hmv : n < vs.length := by rw [hsz]; exact hm
        have h2 := hargs.2 n _ _ (List.getElem?_eq_getElem hm) (List.getElem?_eq_getElem hmv)
        rw [List.getD_eq_getElem?_getD, List.getElem?_eq_getElem hm]
        have h3 : (vs.toArray ++ Array.replicate (fn.ntmps - vs.toArray.size) undef).getD n undef = vs[n] := by
          rw [Array.getD_eq_getD_getElem?, Array.getElem?_append_left (by simpa using hmv)]
          simp [hmv]
        rw [h3]
        refine Rel.im (h2.mono fun k hk => ?_)
        rcases hk with hk | ⟨m, hm', _⟩
        · exact hk
        · exact absurd hm' (hNm m)
      · rw [List.getD_eq_getElem?_getD, List.getElem?_eq_none (by omega)]
        exact Rel.x
    · show (vs.toArray ++ Array.replicate (fn.ntmps - vs.toArray.size) undef).size = N
      simp only [Array.size_append, List.size_toArray, Array.size_replicate, hN, hsz]
      omega
  refine vc_ok (W0 := w) (F := Fr.none) (X := O) hΓ c _ _ _ _ _ (fun e s a w' hq ⟨β, hI'⟩ => ?_) hvc ⟨_, hI⟩
  have key : retK Γ s rs.toList (fun v => RL v r) → a.defers = [] ∧ ∃ v, (results fn a.tmps).run P w' = .ok v w' ∧ ∃ v', Ending.returned v = .returned v' ∧ Stp (fun _ => False) w w' ∧ Im O w' r v' := by
    intro h
    rw [← hrs] at h
    obtain ⟨v, u, hv, h1, h2⟩ := ret_ok hΓ hI' h
    exact ⟨hI'.defers, u, h2, u, rfl, hI'.ext, im_RL h1 hv⟩
  cases e with
  | normal => exact key hq
  | ret => exact key hq
  | _ => exact hq.elim

theorem pspec_of_VCsL (_hΓ : Γ.good P) {f : FuncId} {fn : Func} {c : Code} (hf : P.funcs[f]? = some fn) (hb : fn.body = some c) (hcall : ∀ (vs : Array Value) (w : World), (callFunc f vs).run P w = .ok (.enter f vs) w)
    {rs : Array ResultVar} (hrs : fn.results = rs) (hN : fn.ntmps = N) {args : List AV} {r : AV} (hlen : args.length ≤ N)
    (hvc : VCs P Γ N L c (postK Γ rs.toList (fun v => RL v r)) ⟨argSlots 0 args, []⟩) (hΓ : Γ.good P) : PSpec P f args r := by
  refine ⟨hcall, fun O w vs hO hG hargs => ?_⟩
  refine calls_of_wp hf hb ?_
  have hsz : vs.length = args.length := hargs.1.symm
  have hI : InvB w Fr.none O N ⟨argSlots 0 args, []⟩ (fun _ => none) { tmps := vs.toArray ++ Array.replicate (fn.ntmps - vs.toArray.size) undef, defers := [] } w := by
    have hNm : ∀ n, ¬ Nm ⟨argSlots 0 args, []⟩ n := by
      rintro n (⟨cs, h⟩ | ⟨m, h⟩ | ⟨b, cs, h, _⟩)
      · cases h
      · have := look_args args 0 m
        rw [Nat.zero_add] at this
        simp only [this] at h
        by_cases hm : m < args.length
        · rw [List.getD_eq_getElem?_getD, List.getElem?_eq_getElem hm] at h
          have := (hargs.2 m _ _ (List.getElem?_eq_getElem hm) (List.getElem?_eq_getElem (by rw [hsz]; exact hm))).ids_nil
          rw [show (some args[m]).getD AV.x = args[m] from rfl, this] at h
          cases h
        · rw [List.getD_eq_getElem?_getD, List.getElem?_eq_none (by omega)] at h
          simp [ids, ids0] at h
      · cases h
    refine ⟨Stp.refl _ _, fun n => ?_, ?_, fun n cs h => (by cases h), fun n m g hn => absurd hn (hNm n), fun n g hn => absurd hn (hNm n), rfl, fun k hk => ⟨hO k hk, id⟩, fun n cs g h => (by cases h), fun _ _ => rfl, hG.step (Stp.refl (fun _ => False) w) (fun _ _ h => h.elim) fun k _ hk => hk.elim id fun h => h.elim⟩
    · have h1 := look_args args 0 n
      rw [Nat.zero_add] at h1
      show Rel _ _ _ (look (argSlots 0 args) n) _
      rw [h1]
      by_cases hm : n < args.length
      · have hmv : n < vs.length := by rw [hsz]; exact hm
        have h2 := hargs.2 n _ _ (List.getElem?_eq_getElem hm) (List.getElem?_eq_getElem hmv)
        rw [List.getD_eq_getElem?_getD, List.getElem?_eq_getElem hm]
        have h3 : (vs.toArray ++ Array.replicate (fn.ntmps - vs.toArray.size) undef).getD n undef = vs[n] := by
          rw [Array.getD_eq_getD_getElem?, Array.getElem?_append_left (by simpa using hmv)]
          simp [hmv]
        rw [h3]
        refine Rel.im (h2.mono fun k hk => ?_)
        rcases hk with hk | ⟨m, hm', _⟩
        · exact hk
        · exact absurd hm' (hNm m)
      · rw [List.getD_eq_getElem?_getD, List.getElem?_eq_none (by omega)]
        exact Rel.x
    · show (vs.toArray ++ Array.replicate (fn.ntmps - vs.toArray.size) undef).size = N
      simp only [Array.size_append, List.size_toArray, Array.size_replicate, hN, hsz]
      omega
  refine hvc.ok w Fr.none O _ _ _ (fun e s a w' hq ⟨β, hI'⟩ => ?_) ⟨_, hI⟩
  have key : retK Γ s rs.toList (fun v => RL v r) → a.defers = [] ∧ ∃ v, (results fn a.tmps).run P w' = .ok v w' ∧ ∃ v', Ending.returned v = .returned v' ∧ Stp (fun _ => False) w w' ∧ Im O w' r v' := by
    intro h
    rw [← hrs] at h
    obtain ⟨v, u, hv, h1, h2⟩ := ret_ok hΓ hI' h
    exact ⟨hI'.defers, u, h2, u, rfl, hI'.ext, im_RL h1 hv⟩
  cases e with
  | normal => exact key hq
  | ret => exact key hq
  | _ => exact hq.elim
end
end Go.SX
end
section
namespace Go.Proofs.YtdcdmojbkmedpaaDoor
set_option linter.unusedSectionVars false
set_option linter.unusedSimpArgs false
set_option linter.unusedVariables false
open Go Go.SX
theorem rng64 {n : Int} (h1 : -9223372036854775808 ≤ n) (h2 : n ≤ 9223372036854775807) : Rng .i64 n := ⟨h1, h2⟩
theorem tmodN (c m : Nat) : (c : Int).tmod (m : Int) = ((c % m : Nat) : Int) := rfl
theorem tdivN (c m : Nat) : (c : Int).tdiv (m : Int) = ((c / m : Nat) : Int) := rfl
theorem len_le {n : Nat} (h : n ≤ maxLen) : n ≤ 9223372036854775807 := by unfold maxLen at h; omega
/-- what a loop's condition tells -/
theorem ltD {i n : Nat} (h : decide ((i : Int) < (n : Int)) = true) : i < n := by have := of_decide_eq_true h; omega
theorem geD {i n : Nat} (hi : i ≤ n) (h : decide ((i : Int) < (n : Int)) = false) : i = n := by have := of_decide_eq_false h; omega
theorem getI {τ : Ty} {l : List (den τ)} {i : Nat} (h : i < l.length) : l.getD (Int.toNat (i : Int)) (dflt τ) = l[i] := by rw [Int.toNat_natCast, List.getD_eq_getElem?_getD, List.getElem?_eq_getElem h]; rfl
theorem take_snoc {α : Type} {l : List α} {i : Nat} (h : i < l.length) : l.take (i + 1) = l.take i ++ [l[i]] := by rw [List.take_add_one, List.getElem?_eq_getElem h]; rfl
section
variable [G : Globs]
/-- a nil slice for an empty one -/
theorem pspec_le {P : Program} {f : FuncId} {args args' : List AV} {r : AV} (h : PSpec P f args r) (hle : AVles args' args) : PSpec P f args' r :=
  ⟨h.1, fun O w vs hO hG hargs => h.2 O w vs hO hG (all_le hargs hle)⟩
end
end Go.Proofs.YtdcdmojbkmedpaaDoor
end
section
namespace Go.Vl
set_option linter.unusedSectionVars false
set_option linter.unusedSimpArgs false
set_option linter.unusedVariables false
open Go.SX
def orI (a b : Int) : Int := if a = 0 then b else a
def cmpI (a b : Int) : Int := if a = b then 0 else if a < b then -1 else 1
def cmpS (a b : Str) : Int := if a = b then 0 else if Op.bytesLess a b = true then -1 else 1
def rank (f : Int) : Int := if f < 9223372036854775808 then f + 9223372036854775808 else 18446744073709551615 - f
mutual
def cmpV : Val → Val → Int
  | ⟨k, n, f, s, l, e⟩, b => orI (cmpI k b.kind) (orI (cmpI n b.n) (orI (cmpI (rank f) (rank b.f)) (orI (cmpS s b.s) (orI (cmpL l b.l) (cmpE e b.e)))))
def cmpL : List Val → List Val → Int
  | [], [] => 0
  | [], _ :: _ => -1
  | _ :: _, [] => 1
  | x :: xs, y :: ys => orI (cmpV x y) (cmpL xs ys)
def cmpE : List (Str × Val) → List (Str × Val) → Int
  | [], [] => 0
  | [], _ :: _ => -1
  | _ :: _, [] => 1
  | x :: xs, y :: ys => orI (cmpP x y) (cmpE xs ys)
def cmpP : Str × Val → Str × Val → Int
  | (a, x), q => orI (cmpS a q.1) (cmpV x q.2)
end
theorem less_irrefl : ∀ a : Str, Op.bytesLess a a = false
  | [] => rfl
  | c :: r => by
    rw [Op.bytesLess, less_irrefl r]
    simp
theorem cmpI_self (a : Int) : cmpI a a = 0 := if_pos rfl
theorem cmpS_self (a : Str) : cmpS a a = 0 := if_pos rfl
theorem cmpI_zero {a b : Int} : cmpI a b = 0 ↔ a = b := by
  unfold cmpI
  split
  · simp [*]
  · split <;> simp [*]
theorem cmpS_zero {a b : Str} : cmpS a b = 0 ↔ a = b := by
  unfold cmpS
  split
  · simp [*]
  · split <;> simp [*]
theorem cmpV_eq (a b : Val) : cmpV a b = orI (cmpI a.kind b.kind) (orI (cmpI a.n b.n) (orI (cmpI (rank a.f) (rank b.f)) (orI (cmpS a.s b.s) (orI (cmpL a.l b.l) (cmpE a.e b.e))))) := by
  cases a
  rw [cmpV]
theorem cmpP_eq (p q : Str × Val) : cmpP p q = orI (cmpS p.1 q.1) (cmpV p.2 q.2) := by
  cases p
  rw [cmpP]
theorem orI_ne {a b : Int} (h : a ≠ 0) : orI a b = a := if_neg h
theorem orI_right {a : Int} : orI a 0 = a := by unfold orI; split <;> simp [*]
theorem orI_zero {b : Int} : orI 0 b = b := if_pos rfl
theorem cmpL_drop {l m : List Val} {k : Nat} (hl : k < l.length) (hm : k < m.length) : cmpL (l.drop k) (m.drop k) = orI (cmpV l[k] m[k]) (cmpL (l.drop (k + 1)) (m.drop (k + 1))) := by
  rw [List.drop_eq_getElem_cons hl, List.drop_eq_getElem_cons hm, cmpL]
theorem cmpL_short {l m : List Val} {k : Nat} (hl : k < l.length) (hm : m.length ≤ k) : cmpL (l.drop k) (m.drop k) = 1 := by
  rw [List.drop_eq_getElem_cons hl, List.drop_eq_nil_of_le hm, cmpL]
theorem cmpL_long {l m : List Val} {k : Nat} (hl : l.length ≤ k) (hm : k < m.length) : cmpL (l.drop k) (m.drop k) = -1 := by
  rw [List.drop_eq_getElem_cons hm, List.drop_eq_nil_of_le hl, cmpL]
theorem cmpL_end {l m : List Val} {k : Nat} (hl : l.length ≤ k) (hm : m.length ≤ k) : cmpL (l.drop k) (m.drop k) = 0 := by
  rw [List.drop_eq_nil_of_le hm, List.drop_eq_nil_of_le hl, cmpL]
theorem cmpE_drop {l m : List (Str × Val)} {k : Nat} (hl : k < l.length) (hm : k < m.length) : cmpE (l.drop k) (m.drop k) = orI (cmpP l[k] m[k]) (cmpE (l.drop (k + 1)) (m.drop (k + 1))) := by
  rw [List.drop_eq_getElem_cons hl, List.drop_eq_getElem_cons hm, cmpE]
theorem cmpE_short {l m : List (Str × Val)} {k : Nat} (hl : k < l.length) (hm : m.length ≤ k) : cmpE (l.drop k) (m.drop k) = 1 := by
  rw [List.drop_eq_getElem_cons hl, List.drop_eq_nil_of_le hm, cmpE]
theorem cmpE_long {l m : List (Str × Val)} {k : Nat} (hl : l.length ≤ k) (hm : k < m.length) : cmpE (l.drop k) (m.drop k) = -1 := by
  rw [List.drop_eq_getElem_cons hm, List.drop_eq_nil_of_le hl, cmpE]
theorem cmpE_end {l m : List (Str × Val)} {k : Nat} (hl : l.length ≤ k) (hm : m.length ≤ k) : cmpE (l.drop k) (m.drop k) = 0 := by
  rw [List.drop_eq_nil_of_le hm, List.drop_eq_nil_of_le hl, cmpE]
/-- smaller values -/
theorem val_sz_l {v x : Val} (h : x ∈ v.l) : SizeOf.sizeOf x < SizeOf.sizeOf v := by
  cases v
  have := List.sizeOf_lt_of_mem h
  simp only [Val.mk.sizeOf_spec] at this ⊢
  omega
theorem val_sz_e {v : Val} {p : Str × Val} (h : p ∈ v.e) : SizeOf.sizeOf p.2 < SizeOf.sizeOf v := by
  cases v
  have := List.sizeOf_lt_of_mem h
  obtain ⟨a, x⟩ := p
  simp only [Val.mk.sizeOf_spec, Prod.mk.sizeOf_spec] at this ⊢
  omega
mutual
theorem cmpV_self : ∀ v : Val, cmpV v v = 0
  | ⟨k, n, f, s, l, e⟩ => by
    rw [cmpV]
    simp only [cmpI_self, cmpS_self, cmpL_self l, cmpE_self e, orI_zero]
theorem cmpL_self : ∀ l : List Val, cmpL l l = 0
  | [] => by rw [cmpL]
  | x :: xs => by rw [cmpL, cmpV_self x, cmpL_self xs, orI_zero]
theorem cmpE_self : ∀ l : List (Str × Val), cmpE l l = 0
  | [] => by rw [cmpE]
  | x :: xs => by rw [cmpE, cmpP_self x, cmpE_self xs, orI_zero]
theorem cmpP_self : ∀ p : Str × Val, cmpP p p = 0
  | (a, x) => by rw [cmpP, cmpV_self x, cmpS_self, orI_zero]
end
/-- the first that is not 0 -/
def firstN : List Int → Int
  | [] => 0
  | x :: r => orI x (firstN r)
theorem firstN_drop {l : List Int} {k : Nat} (h : k < l.length) : firstN (l.drop k) = orI l[k] (firstN (l.drop (k + 1))) := by
  rw [List.drop_eq_getElem_cons h, firstN]
theorem val_eta (v : Val) : (⟨v.kind, v.n, v.f, v.s, v.l, v.e⟩ : Val) = v := by cases v; rfl
abbrev Ent := Str × Val
def keyIs (k : Str) (p : Ent) : Bool := p.1 == k
def keyGt (k : Str) (p : Ent) : Bool := !(Op.bytesLess p.1 k || p.1 == k)
/-- the place of the first, or -1 -/
def ixI (l : List Ent) (q : Ent → Bool) : Int := if l.findIdx q < l.length then (l.findIdx q : Nat) else -1
def withoutE (l : List Ent) (k : Str) : List Ent := l.filter fun p => !keyIs k p
theorem ix_hit {l : List Ent} {q : Ent → Bool} {i : Nat} (hi : i < l.length) (hf : i ≤ l.findIdx q) (h : q l[i] = true) : ixI l q = i := by
  have : l.findIdx q = i := by
    rcases Nat.lt_or_ge i (l.findIdx q) with h1 | h1
    · have := List.not_of_lt_findIdx h1
      rw [h] at this
      cases this
    · omega
  rw [ixI, this, if_pos hi]
theorem ix_miss {l : List Ent} {q : Ent → Bool} {i : Nat} (hi : i < l.length) (hf : i ≤ l.findIdx q) (h : q l[i] = false) : i + 1 ≤ l.findIdx q := by
  rcases Nat.lt_or_ge i (l.findIdx q) with h1 | h1
  · exact h1
  · have e : l.findIdx q = i := by omega
    have := List.findIdx_getElem (w := by rw [e]; exact hi) (xs := l) (p := q)
    simp only [e] at this
    rw [h] at this
    cases this
theorem ix_none {l : List Ent} {q : Ent → Bool} (hf : l.length ≤ l.findIdx q) : ixI l q = -1 := by
  rw [ixI, if_neg (by omega)]
theorem filter_next {l : List Ent} {k : Str} {i : Nat} (hi : i < l.length) (h : keyIs k l[i] = false) : withoutE (l.take (i + 1)) k = withoutE (l.take i) k ++ [l[i]] := by
  rw [List.take_add_one, List.getElem?_eq_getElem hi, withoutE, withoutE, List.filter_append]
  simp [h]
theorem filter_skip {l : List Ent} {k : Str} {i : Nat} (hi : i < l.length) (h : keyIs k l[i] = true) : withoutE (l.take (i + 1)) k = withoutE (l.take i) k := by
  rw [List.take_add_one, List.getElem?_eq_getElem hi, withoutE, withoutE, List.filter_append]
  simp [h]
theorem filter_len {l : List Ent} {k : Str} {i : Nat} : (withoutE (l.take i) k).length ≤ l.length := by
  refine Nat.le_trans (List.length_filter_le _ _) ?_
  rw [List.length_take]
  omega
/-- an entry put in its place -/
def putE (l : List Ent) (k : Str) (a : Val) : List Ent := (withoutE l k).take ((withoutE l k).findIdx (keyGt k)) ++ (k, a) :: (withoutE l k).drop ((withoutE l k).findIdx (keyGt k))
end Go.Vl
end
section
namespace Go.Ck
set_option linter.unusedSectionVars false
set_option linter.unusedSimpArgs false
set_option linter.unusedVariables false
open Go.SX Go.Vl Go.Ut
/-- bits of no number, but for the one that may stand -/
def oddF (f : Int) : Prop := (f / 4503599627370496) % 2048 = 2047 ∧ f % 4503599627370496 ≠ 0 ∧ f ≠ 9221120237041090561
def kindBad (v : Val) : Prop :=
  (v.kind < 0 ∨ 6 < v.kind) ∨ (v.kind ≠ 1 ∧ v.kind ≠ 2 ∧ v.n ≠ 0) ∨ (v.kind = 1 ∧ v.n ≠ 0 ∧ v.n ≠ 1) ∨ (v.kind ≠ 3 ∧ v.f ≠ 0) ∨ oddF v.f ∨ (v.kind ≠ 4 ∧ v.s ≠ []) ∨ (v.kind ≠ 5 ∧ 0 < v.l.length) ∨ (v.kind ≠ 6 ∧ 0 < v.e.length)
instance (f : Int) : Decidable (oddF f) := by unfold oddF; infer_instance
instance (v : Val) : Decidable (kindBad v) := by unfold kindBad; infer_instance
/-- what is wrong with it, but for its entries and parts -/
def ownF (v : Val) (above : Int) : Int :=
  if 20 ≤ above then 5 else if kindBad v then 10 else if 4000 < v.s.length ∨ 200 < v.l.length ∨ 200 < v.e.length then 2 else if 0 ≤ bad v.s then 3 else 0
/-- a key, behind another one -/
def keyF (p : Option Str) (k : Str) : Int :=
  if 100 < k.length then 2 else if 0 ≤ bad k then 3 else match p with
    | some q => if Op.bytesLess q k = true then 0 else 14
    | none => 0
def entF : Option Str → List (Str × Val) → Int
  | _, [] => 0
  | p, x :: r => orI (keyF p x.1) (entF (some x.1) r)
def oneF (v : Val) (above : Int) : Int := orI (ownF v above) (entF none v.e)
/-- the document's: what is wrong with it, but for its depth and parts -/
def docF (v : Val) : Int := if kindBad v then 10 else if 4000 < v.s.length ∨ 200 < v.l.length ∨ 200 < v.e.length then 2 else if 0 ≤ bad v.s then 3 else entF none v.e
theorem docF_kind {v : Val} (h : kindBad v) : 10 = docF v := by rw [docF, if_pos h]
theorem docF_large {v : Val} (h : ¬ kindBad v) (h2 : 4000 < v.s.length ∨ 200 < v.l.length ∨ 200 < v.e.length) : 2 = docF v := by rw [docF, if_neg h, if_pos h2]
theorem docF_text {v : Val} (h : ¬ kindBad v) (h2 : ¬ (4000 < v.s.length ∨ 200 < v.l.length ∨ 200 < v.e.length)) (h3 : 0 ≤ bad v.s) : 3 = docF v := by rw [docF, if_neg h, if_neg h2, if_pos h3]
theorem docF_ent {v : Val} (h : ¬ kindBad v) (h2 : ¬ (4000 < v.s.length ∨ 200 < v.l.length ∨ 200 < v.e.length)) (h3 : ¬ 0 ≤ bad v.s) : docF v = entF none v.e := by rw [docF, if_neg h, if_neg h2, if_neg h3]
theorem oneF_doc (v : Val) (a : Int) : oneF v a = if 20 ≤ a then 5 else docF v := by
  unfold oneF ownF docF
  by_cases h : 20 ≤ a
  · rw [if_pos h, if_pos h]; rfl
  · rw [if_neg h, if_neg h]
    by_cases h1 : kindBad v
    · rw [if_pos h1, if_pos h1]; rfl
    · rw [if_neg h1, if_neg h1]
      by_cases h2 : 4000 < v.s.length ∨ 200 < v.l.length ∨ 200 < v.e.length
      · rw [if_pos h2, if_pos h2]; rfl
      · rw [if_neg h2, if_neg h2]
        by_cases h3 : 0 ≤ bad v.s
        · rw [if_pos h3, if_pos h3]; rfl
        · rw [if_neg h3, if_neg h3]; rfl
/-- the entries, one by one -/
def keyAt (e : List (Str × Val)) (i : Nat) : Option Str := if 0 < i then some (e.getD (i - 1) ([], default)).1 else none
theorem entF_drop {e : List (Str × Val)} {i : Nat} (h : i < e.length) : entF (keyAt e i) (e.drop i) = orI (keyF (keyAt e i) e[i].1) (entF (keyAt e (i + 1)) (e.drop (i + 1))) := by
  rw [List.drop_eq_getElem_cons h, entF]
  have : keyAt e (i + 1) = some e[i].1 := by
    unfold keyAt
    rw [if_pos (by omega), Nat.add_sub_cancel, List.getD_eq_getElem?_getD, List.getElem?_eq_getElem h]
    rfl
  rw [this]
theorem entF_stop {e : List (Str × Val)} {i : Nat} (h : i < e.length) (h2 : keyF (keyAt e i) e[i].1 ≠ 0) : entF (keyAt e i) (e.drop i) = keyF (keyAt e i) e[i].1 := by
  rw [entF_drop h, orI_ne h2]
theorem entF_go {e : List (Str × Val)} {i : Nat} (h : i < e.length) (h2 : keyF (keyAt e i) e[i].1 = 0) : entF (keyAt e i) (e.drop i) = entF (keyAt e (i + 1)) (e.drop (i + 1)) := by
  rw [entF_drop h, h2, orI_zero]
theorem entF_end (p : Option Str) {e : List (Str × Val)} {i : Nat} (h : e.length ≤ i) : entF p (e.drop i) = 0 := by
  rw [List.drop_eq_nil_of_le h, entF]
/-- the key ahead -/
def lastK (e : List (Str × Val)) (i : Nat) : Str := if 0 < i then (e.getD (i - 1) ([], default)).1 else []
theorem lastK_succ {e : List (Str × Val)} {i : Nat} (h : i < e.length) : lastK e (i + 1) = e[i].1 := by
  unfold lastK
  rw [if_pos (by omega), Nat.add_sub_cancel, List.getD_eq_getElem?_getD, List.getElem?_eq_getElem h]
  rfl
theorem keyF_large {p : Option Str} {k : Str} (h : 100 < k.length) : keyF p k = 2 := by unfold keyF; rw [if_pos h]
theorem keyF_text {p : Option Str} {k : Str} (h : ¬ 100 < k.length) (h2 : 0 ≤ bad k) : keyF p k = 3 := by unfold keyF; rw [if_neg h, if_pos h2]
theorem keyF_order {e : List (Str × Val)} {i : Nat} {k : Str} (h : ¬ 100 < k.length) (h2 : ¬ 0 ≤ bad k) (h0 : 0 < i) (h3 : Op.bytesLess (lastK e i) k = false) : keyF (keyAt e i) k = 14 := by
  unfold keyF keyAt; rw [if_neg h, if_neg h2, if_pos h0]
  rw [lastK, if_pos h0] at h3
  simp only [h3]
  rfl
theorem keyF_ok {e : List (Str × Val)} {i : Nat} {k : Str} (h : ¬ 100 < k.length) (h2 : ¬ 0 ≤ bad k) (h3 : 0 < i → Op.bytesLess (lastK e i) k = true) : keyF (keyAt e i) k = 0 := by
  unfold keyF keyAt; rw [if_neg h, if_neg h2]
  by_cases h0 : 0 < i
  · have h3 := h3 h0
    rw [lastK, if_pos h0] at h3
    rw [if_pos h0]
    simp only [h3]
    rfl
  · rw [if_neg h0]
/-- the parts, in order -/
def partsOf (v : Val) : List Val := v.l ++ v.e.map (·.2)
mutual
/-- what is wrong, and how many were come to -/
def chkV : Val → Int → Int → Int × Int
  | ⟨k, n, f, s, l, e⟩, above, m =>
    if 2000 < m + 1 then (2, m + 1) else if oneF ⟨k, n, f, s, l, e⟩ above ≠ 0 then (oneF ⟨k, n, f, s, l, e⟩ above, m + 1) else
      match chkL l (above + 1) (m + 1) with
      | (r, m') => if r ≠ 0 then (r, m') else chkE e (above + 1) m'
def chkL : List Val → Int → Int → Int × Int
  | [], _, m => (0, m)
  | x :: xs, above, m => match chkV x above m with
    | (r, m') => if r ≠ 0 then (r, m') else chkL xs above m'
def chkE : List (Str × Val) → Int → Int → Int × Int
  | [], _, m => (0, m)
  | x :: xs, above, m => match chkQ x above m with
    | (r, m') => if r ≠ 0 then (r, m') else chkE xs above m'
def chkQ : Str × Val → Int → Int → Int × Int
  | (_, x), above, m => chkV x above m
end
theorem chkE_eq : ∀ (e : List (Str × Val)) (a m : Int), chkE e a m = chkL (e.map (·.2)) a m
  | [], a, m => by rw [chkE, List.map_nil, chkL]
  | (k, x) :: r, a, m => by
    rw [chkE, chkQ, List.map_cons, chkL]
    cases chkV x a m
    simp only [chkE_eq r]
theorem chkL_append : ∀ (l k : List Val) (a m : Int), chkL (l ++ k) a m = match chkL l a m with
    | (r, m') => if r ≠ 0 then (r, m') else chkL k a m'
  | [], k, a, m => by simp [chkL]
  | x :: r, k, a, m => by
    rw [List.cons_append, chkL, chkL]
    cases h : chkV x a m with
    | mk e m1 =>
      simp only [chkL_append r k]
      by_cases c : e ≠ 0
      · simp [c]
      · simp [c]
theorem chkV_eq (v : Val) (a m : Int) : chkV v a m = if 2000 < m + 1 then (2, m + 1) else if oneF v a ≠ 0 then (oneF v a, m + 1) else chkL (partsOf v) (a + 1) (m + 1) := by
  obtain ⟨k, n, f, s, l, e⟩ := v
  rw [chkV, partsOf, chkL_append]
  simp only [chkE_eq]
theorem chkL_snoc {l : List Val} {a m m' : Int} (h : chkL l a m = (0, m')) (x : Val) : chkL (l ++ [x]) a m = chkV x a m' := by
  rw [chkL_append, h]
  simp only [ne_eq, not_true_eq_false, if_false, chkL]
  cases chkV x a m' with
  | mk e m2 => by_cases c : e = 0 <;> simp [c]
theorem chkL_stop {l : List Val} {a m m' e : Int} {x : Val} (h : chkL l a m = (0, m')) (he : (chkV x a m').1 = e) (h0 : e ≠ 0) (r : List Val) : chkL (l ++ x :: r) a m = chkV x a m' := by
  rw [chkL_append, h]
  simp only [ne_eq, not_true_eq_false, if_false, chkL]
  cases hx : chkV x a m' with
  | mk e' m2 =>
    rw [hx] at he
    simp only at he
    subst he
    simp [h0]
/-! how the count runs -/
mutual
theorem chkV_le : ∀ (v : Val) (a m : Int), 0 ≤ m → m ≤ 2000 → m ≤ (chkV v a m).2 ∧ (chkV v a m).2 ≤ 2001 ∧ ((chkV v a m).1 = 0 → (chkV v a m).2 ≤ 2000)
  | ⟨k, n, f, s, l, e⟩, a, m, h0, h => by
    rw [chkV]
    by_cases c : 2000 < m + 1
    · rw [if_pos c]
      exact ⟨by simp only; omega, by simp only; omega, fun h => by simp at h⟩
    · rw [if_neg c]
      by_cases d : oneF ⟨k, n, f, s, l, e⟩ a ≠ 0
      · rw [if_pos d]
        exact ⟨by simp only; omega, by simp only; omega, fun h => absurd h d⟩
      · rw [if_neg d]
        have h1 := chkL_le l (a + 1) (m + 1) (by omega) (by omega)
        cases hx : chkL l (a + 1) (m + 1) with
        | mk r m' =>
          rw [hx] at h1
          simp only at h1 ⊢
          by_cases g : r ≠ 0
          · rw [if_pos g]; exact ⟨by simp only; omega, by simp only; omega, fun h => absurd h g⟩
          · rw [if_neg g]
            have h2 := chkE_le e (a + 1) m' (by omega) (h1.2.2 (by simpa using g))
            exact ⟨by omega, h2.2.1, h2.2.2⟩
theorem chkL_le : ∀ (l : List Val) (a m : Int), 0 ≤ m → m ≤ 2000 → m ≤ (chkL l a m).2 ∧ (chkL l a m).2 ≤ 2001 ∧ ((chkL l a m).1 = 0 → (chkL l a m).2 ≤ 2000)
  | [], a, m, h0, h => by rw [chkL]; exact ⟨Int.le_refl _, by simp only; omega, fun _ => h⟩
  | x :: xs, a, m, h0, h => by
    rw [chkL]
    have h1 := chkV_le x a m h0 h
    cases hx : chkV x a m with
    | mk r m' =>
      rw [hx] at h1
      simp only at h1 ⊢
      by_cases g : r ≠ 0
      · rw [if_pos g]; exact ⟨h1.1, h1.2.1, fun h => absurd h g⟩
      · rw [if_neg g]
        have h2 := chkL_le xs a m' (by omega) (h1.2.2 (by simpa using g))
        exact ⟨by omega, h2.2.1, h2.2.2⟩
theorem chkE_le : ∀ (l : List (Str × Val)) (a m : Int), 0 ≤ m → m ≤ 2000 → m ≤ (chkE l a m).2 ∧ (chkE l a m).2 ≤ 2001 ∧ ((chkE l a m).1 = 0 → (chkE l a m).2 ≤ 2000)
  | [], a, m, h0, h => by rw [chkE]; exact ⟨Int.le_refl _, by simp only; omega, fun _ => h⟩
  | x :: xs, a, m, h0, h => by
    rw [chkE]
    have h1 := chkQ_le x a m h0 h
    cases hx : chkQ x a m with
    | mk r m' =>
      rw [hx] at h1
      simp only at h1 ⊢
      by_cases g : r ≠ 0
      · rw [if_pos g]; exact ⟨h1.1, h1.2.1, fun h => absurd h g⟩
      · rw [if_neg g]
        have h2 := chkE_le xs a m' (by omega) (h1.2.2 (by simpa using g))
        exact ⟨by omega, h2.2.1, h2.2.2⟩
theorem chkQ_le : ∀ (x : Str × Val) (a m : Int), 0 ≤ m → m ≤ 2000 → m ≤ (chkQ x a m).2 ∧ (chkQ x a m).2 ≤ 2001 ∧ ((chkQ x a m).1 = 0 → (chkQ x a m).2 ≤ 2000)
  | (_, x), a, m, h0, h => by rw [chkQ]; exact chkV_le x a m h0 h
end
/-- a list of places, one by one -/
def chkT : List VPlace → Int → Int
  | [], _ => 0
  | x :: r, m => match chkV x.v x.above m with
    | (e, m') => if e ≠ 0 then e else chkT r m'
theorem chkT_append (l : List Val) (a : Int) (r : List VPlace) : ∀ m, chkT (l.map (fun v => (⟨v, a⟩ : VPlace)) ++ r) m = match chkL l a m with
    | (e, m') => if e ≠ 0 then e else chkT r m' := by
  induction l with
  | nil => intro m; simp [chkL]
  | cons x t ih =>
    intro m
    rw [List.map_cons, List.cons_append, chkT, chkL]
    cases chkV x a m with
    | mk e m' =>
      simp only
      by_cases c : e ≠ 0
      · simp [c]
      · rw [if_neg c, if_neg c, ih]
theorem chkT_step (x : VPlace) (r : List VPlace) (m : Int) : chkT (x :: r) m = if 2000 < m + 1 then 2 else if oneF x.v x.above ≠ 0 then oneF x.v x.above else chkT ((partsOf x.v).map (fun v => (⟨v, x.above + 1⟩ : VPlace)) ++ r) (m + 1) := by
  rw [chkT, chkV_eq]
  by_cases c : 2000 < m + 1
  · simp [c]
  · rw [if_neg c, if_neg c]
    by_cases d : oneF x.v x.above ≠ 0
    · rw [if_pos d, if_pos d]
      simp [d]
    · rw [if_neg d, if_neg d, chkT_append]
/-! how deep, and how many -/
mutual
def sizV : Val → Int × Int
  | ⟨_, _, _, _, l, e⟩ => let p := sizL l (0, 1); let q := sizE e p; (q.1 + 1, q.2)
def sizL : List Val → Int × Int → Int × Int
  | [], p => p
  | x :: xs, p => sizL xs (let q := sizV x; (if p.1 < q.1 then q.1 else p.1, p.2 + q.2))
def sizE : List (Str × Val) → Int × Int → Int × Int
  | [], p => p
  | x :: xs, p => sizE xs (let q := sizQ x; (if p.1 < q.1 then q.1 else p.1, p.2 + q.2))
def sizQ : Str × Val → Int × Int
  | (_, x) => sizV x
end
def addS (p q : Int × Int) : Int × Int := (if p.1 < q.1 then q.1 else p.1, p.2 + q.2)
def foldS (l : List Val) (p : Int × Int) : Int × Int := l.foldl (fun p x => addS p (sizV x)) p
theorem sizL_eq : ∀ (l : List Val) (p : Int × Int), sizL l p = foldS l p
  | [], p => by rw [sizL]; rfl
  | x :: r, p => by rw [sizL, sizL_eq r]; rfl
theorem sizE_eq : ∀ (l : List (Str × Val)) (p : Int × Int), sizE l p = foldS (l.map (·.2)) p
  | [], p => by rw [sizE]; rfl
  | (k, x) :: r, p => by rw [sizE, sizQ, sizE_eq r]; rfl
theorem sizV_eq (v : Val) : sizV v = ((foldS (partsOf v) (0, 1)).1 + 1, (foldS (partsOf v) (0, 1)).2) := by
  obtain ⟨k, n, f, s, l, e⟩ := v
  rw [sizV]
  simp only [sizL_eq, sizE_eq, partsOf, foldS, List.foldl_append]
theorem foldS_snoc (l : List Val) (x : Val) (p : Int × Int) : foldS (l ++ [x]) p = addS (foldS l p) (sizV x) := by
  rw [foldS, List.foldl_append]; rfl
theorem parts_sz {v x : Val} (h : x ∈ partsOf v) : SizeOf.sizeOf x < SizeOf.sizeOf v := by
  rcases List.mem_append.1 h with h | h
  · exact val_sz_l h
  · obtain ⟨p, hp, rfl⟩ := List.mem_map.1 h
    exact val_sz_e hp
theorem fold_ok : ∀ (l : List Val) (p : Int × Int), (∀ x ∈ l, 1 ≤ (sizV x).1 ∧ (sizV x).1 ≤ (sizV x).2) → 0 ≤ p.1 → p.1 < p.2 → p.1 ≤ (foldS l p).1 ∧ (foldS l p).1 < (foldS l p).2 ∧ p.2 + (l.length : Int) ≤ (foldS l p).2
  | [], p, _, h0, h1 => ⟨Int.le_refl _, h1, by simp [foldS]⟩
  | x :: r, p, h, h0, h1 => by
    have hx := h x (.head _)
    have e : foldS (x :: r) p = foldS r (addS p (sizV x)) := rfl
    have h2 : (addS p (sizV x)).2 = p.2 + (sizV x).2 := rfl
    have h3 : p.1 ≤ (addS p (sizV x)).1 ∧ (addS p (sizV x)).1 < p.2 + (sizV x).2 := by
      unfold addS
      simp only
      split <;> omega
    have := fold_ok r (addS p (sizV x)) (fun y hy => h y (.tail _ hy)) (by omega) (by omega)
    rw [e, List.length_cons]
    omega
theorem fold_mem : ∀ (l : List Val) (p : Int × Int), (∀ x ∈ l, 1 ≤ (sizV x).1 ∧ (sizV x).1 ≤ (sizV x).2) → 0 ≤ p.1 → p.1 < p.2 → ∀ x ∈ l, (sizV x).2 < (foldS l p).2
  | [], _, _, _, _ => fun x hx => nomatch hx
  | y :: r, p, h, h0, h1 => fun x hx => by
    have hy := h y (.head _)
    have e : foldS (y :: r) p = foldS r (addS p (sizV y)) := rfl
    have h2 : (addS p (sizV y)).2 = p.2 + (sizV y).2 := rfl
    have h3 : p.1 ≤ (addS p (sizV y)).1 ∧ (addS p (sizV y)).1 < p.2 + (sizV y).2 := by
      unfold addS
      simp only
      split <;> omega
    rw [e]
    rcases List.mem_cons.1 hx with rfl | hx
    · have := fold_ok r (addS p (sizV x)) (fun z hz => h z (.tail _ hz)) (by omega) (by omega)
      omega
    · exact fold_mem r _ (fun z hz => h z (.tail _ hz)) (by omega) (by omega) x hx
theorem siz_ok : ∀ (n : Nat) (v : Val), SizeOf.sizeOf v < n → 1 ≤ (sizV v).1 ∧ (sizV v).1 ≤ (sizV v).2 := by
  intro n
  induction n with
  | zero => intro v h; exact absurd h (Nat.not_lt_zero _)
  | succ n ih =>
    intro v h
    have hp : ∀ x ∈ partsOf v, 1 ≤ (sizV x).1 ∧ (sizV x).1 ≤ (sizV x).2 := fun x hx => ih x (by have := parts_sz hx; omega)
    have := fold_ok (partsOf v) (0, 1) hp (by decide) (by decide)
    rw [sizV_eq]
    simp only at this ⊢
    omega
theorem siz_pos (v : Val) : 1 ≤ (sizV v).1 ∧ (sizV v).1 ≤ (sizV v).2 := siz_ok _ v (Nat.lt_succ_self _)
/-- what is true of a value's parts -/
theorem siz_parts (v : Val) : ((partsOf v).length : Int) + 1 ≤ (sizV v).2 ∧ ∀ x ∈ partsOf v, (sizV x).2 < (sizV v).2 := by
  have h := fold_ok (partsOf v) (0, 1) (fun x _ => siz_pos x) (by decide) (by decide)
  have h2 := fold_mem (partsOf v) (0, 1) (fun x _ => siz_pos x) (by decide) (by decide)
  rw [sizV_eq]
  simp only at h ⊢
  exact ⟨by omega, h2⟩
theorem siz_len (v : Val) : (v.l.length : Int) + (v.e.length : Int) + 1 ≤ (sizV v).2 := by
  have := (siz_parts v).1
  unfold partsOf at this
  rw [List.length_append, List.length_map] at this
  omega
theorem siz_pre {v : Val} {l k : List Val} (h : partsOf v = l ++ k) : 0 ≤ (foldS l (0, 1)).1 ∧ (foldS l (0, 1)).1 < (foldS l (0, 1)).2 ∧ (foldS l (0, 1)).2 ≤ (sizV v).2 := by
  have h1 := fold_ok l (0, 1) (fun x _ => siz_pos x) (by decide) (by decide)
  have h2 := fold_ok k (foldS l (0, 1)) (fun x _ => siz_pos x) (by simp only at h1; omega) h1.2.1
  have e : foldS (partsOf v) (0, 1) = foldS k (foldS l (0, 1)) := by rw [h]; exact List.foldl_append
  rw [sizV_eq, e]
  simp only at h1 h2 ⊢
  omega
/-- how many values a list of places holds -/
def sumT : List VPlace → Int
  | [] => 0
  | p :: r => (sizV p.v).2 + sumT r
theorem sumT_append (l k : List VPlace) : sumT (l ++ k) = sumT l + sumT k := by
  induction l with
  | nil => simp [sumT]
  | cons p r ih => rw [List.cons_append, sumT, sumT, ih]; omega
theorem sumT_len (l : List VPlace) : (l.length : Int) ≤ sumT l := by
  induction l with
  | nil => simp [sumT]
  | cons p r ih =>
    have h1 := siz_pos p.v
    rw [sumT, List.length_cons]
    omega
theorem fold_sum : ∀ (l : List Val) (p : Int × Int) (a : Int), (foldS l p).2 = p.2 + sumT (l.map fun v => (⟨v, a⟩ : VPlace))
  | [], p, a => by simp [foldS, sumT]
  | x :: r, p, a => by
    have e : foldS (x :: r) p = foldS r (addS p (sizV x)) := rfl
    rw [e, fold_sum r _ a, List.map_cons, sumT]
    exact Int.add_assoc _ _ _
def placesOf (x : VPlace) : List VPlace := (partsOf x.v).map fun v => (⟨v, x.above + 1⟩ : VPlace)
theorem sumT_parts (x : VPlace) : sumT (placesOf x) = (sizV x.v).2 - 1 := by
  have := fold_sum (partsOf x.v) (0, 1) (x.above + 1)
  rw [sizV_eq]
  simp only at this ⊢
  rw [this, placesOf]
  omega
theorem vplace_eta (v : Val) (a : Int) : (⟨⟨v.kind, v.n, v.f, v.s, v.l, v.e⟩, a⟩ : VPlace) = ⟨v, a⟩ := by cases v; rfl
end Go.Ck
end
section
namespace Go.Up
set_option linter.unusedSectionVars false
set_option linter.unusedSimpArgs false
set_option linter.unusedVariables false
open Go.SX Go.Vl Go.Ut Go.Ck
def zeroV : Val := ⟨0, 0, 0, [], [], []⟩
/-- what is wrong with a path -/
def stepF (p : PStep) : Int := if p.i < -1 ∨ (0 ≤ p.i ∧ p.key ≠ []) then 1 else if 100 < p.key.length then 2 else if 0 ≤ bad p.key then 3 else 0
def stepsF : List PStep → Int
  | [] => 0
  | p :: r => orI (stepF p) (stepsF r)
def pathF (p : List PStep) : Int := if 20 < p.length then 5 else stepsF p
theorem stepsF_drop {p : List PStep} {i : Nat} (h : i < p.length) : stepsF (p.drop i) = orI (stepF p[i]) (stepsF (p.drop (i + 1))) := by
  rw [List.drop_eq_getElem_cons h, stepsF]
theorem stepsF_mem : ∀ {p : List PStep}, stepsF p = 0 → ∀ q ∈ p, stepF q = 0
  | x :: r, h, q, hq => by
    rw [stepsF] at h
    have h1 : stepF x = 0 := by
      by_cases c : stepF x = 0
      · exact c
      · rw [orI_ne c] at h; exact h
    rw [h1, orI_zero] at h
    rcases List.mem_cons.1 hq with rfl | hq
    · exact h1
    · exact stepsF_mem h q hq
/-- the part at a step -/
def partV (v : Val) (p : PStep) : Val × Int :=
  if p.i < 0 then (if v.kind ≠ 6 then (zeroV, 10) else if ixI v.e (keyIs p.key) < 0 then (zeroV, 8) else ((v.e.getD (ixI v.e (keyIs p.key)).toNat ([], default)).2, 0))
  else if v.kind ≠ 5 then (zeroV, 10) else if (v.l.length : Int) ≤ p.i then (zeroV, 8) else (v.l.getD p.i.toNat default, 0)
/-- what a path leads to -/
def ledV : Val → List PStep → Val × Int
  | v, [] => (v, 0)
  | v, p :: r => if (partV v p).2 ≠ 0 then (zeroV, (partV v p).2) else ledV (partV v p).1 r
theorem ledV_append : ∀ (l k : List PStep) (v : Val), (ledV v l).2 = 0 → ledV v (l ++ k) = ledV (ledV v l).1 k
  | [], k, v, _ => by rw [List.nil_append, ledV]
  | p :: r, k, v, h => by
    rw [List.cons_append, ledV, ledV]
    rw [ledV] at h
    by_cases c : (partV v p).2 ≠ 0
    · rw [if_pos c] at h
      exact absurd h c
    · rw [if_neg c, if_neg c]
      rw [if_neg c] at h
      exact ledV_append r k _ h
theorem ledV_one (v : Val) (p : PStep) : ledV v [p] = if (partV v p).2 ≠ 0 then (zeroV, (partV v p).2) else ((partV v p).1, 0) := by
  rw [ledV, ledV]
theorem ix_bound {l : List Ent} {q : Ent → Bool} (h : ¬ ixI l q < 0) : 0 ≤ ixI l q ∧ (ixI l q).toNat < l.length ∧ ixI l q = ((ixI l q).toNat : Int) := by
  unfold ixI at h ⊢
  split
  · omega
  · rename_i c; rw [if_neg c] at h; omega
/-- a part is the empty value or one of the parts -/
theorem partV_mem (v : Val) (p : PStep) (h : 0 ≤ p.i ∨ p.i < 0) : (partV v p).1 = zeroV ∨ (partV v p).1 ∈ partsOf v := by
  unfold partV
  split
  · split
    · exact .inl rfl
    · split
      · exact .inl rfl
      · rename_i c
        right
        have hb := (ix_bound c).2.1
        refine List.mem_append_right _ (List.mem_map.2 ⟨v.e[(ixI v.e (keyIs p.key)).toNat], List.getElem_mem hb, ?_⟩)
        simp only
        rw [List.getD_eq_getElem?_getD, List.getElem?_eq_getElem hb]
        rfl
  · split
    · exact .inl rfl
    · split
      · exact .inl rfl
      · rename_i c d e
        right
        have hb : p.i.toNat < v.l.length := by omega
        refine List.mem_append_left _ ?_
        simp only
        rw [List.getD_eq_getElem?_getD, List.getElem?_eq_getElem hb]
        exact List.getElem_mem hb
/-- what holds of a value and its parts holds of what a path leads to -/
theorem ledV_keep {R : Val → Prop} (h0 : R zeroV) (hp : ∀ v, R v → ∀ x ∈ partsOf v, R x) : ∀ (l : List PStep) (v : Val), R v → R (ledV v l).1
  | [], v, h => by rw [ledV]; exact h
  | p :: r, v, h => by
    rw [ledV]
    split
    · exact h0
    · refine ledV_keep h0 hp r _ ?_
      rcases partV_mem v p (by omega) with e | e
      · rw [e]; exact h0
      · exact hp v h _ e
def setAt (v : Val) (p : PStep) (w : Val) : Val := if p.i < 0 then { v with e := putE v.e p.key w } else { v with l := v.l.set p.i.toNat w }
/-- an update at its last step -/
def lastU (v : Val) (p : PStep) (o : OpR) : Val × Int :=
  if o.kind = 2 then
    (if (partV v p).2 = 10 then (v, 10) else if p.i < 0 then (if (partV v p).2 = 0 then (v, 9) else ({ v with e := putE v.e p.key o.v }, 0)) else if (v.l.length : Int) < p.i then (v, 8) else ({ v with l := v.l.take p.i.toNat ++ o.v :: v.l.drop p.i.toNat }, 0))
  else if (partV v p).2 ≠ 0 then (v, (partV v p).2)
  else if o.kind = 3 then (if p.i < 0 then ({ v with e := withoutE v.e p.key }, 0) else ({ v with l := v.l.take p.i.toNat ++ v.l.drop (p.i.toNat + 1) }, 0))
  else if ¬ p.i < 0 then (v, 10) else if o.key ≠ p.key ∧ 0 ≤ ixI v.e (keyIs o.key) then (v, 9) else ({ v with e := putE (withoutE v.e p.key) o.key (partV v p).1 }, 0)
def upV : Val → List PStep → OpR → Val × Int
  | _, [], o => (o.v, 0)
  | v, p :: r, o =>
    if o.kind = 1 ∨ r ≠ [] then
      (if (partV v p).2 ≠ 0 then (v, (partV v p).2) else if (upV (partV v p).1 r o).2 ≠ 0 then (v, (upV (partV v p).1 r o).2) else (setAt v p (upV (partV v p).1 r o).1, 0))
    else lastU v p o
/-- what is wrong with an update -/
def opF (o : OpR) : Int :=
  if o.kind < 1 ∨ 4 < o.kind then 1 else orI (pathF o.p) (orI (if o.kind ≤ 2 then chkT [⟨o.v, 0⟩] 0 else 0) (if o.kind = 4 ∧ 100 < o.key.length then 2 else if o.kind = 4 ∧ 0 ≤ bad o.key then 3 else if 1 < o.kind ∧ o.p = [] then 1 else 0))
abbrev faultV (v : Val) : Int := chkT [⟨v, 0⟩] 0
/-- an update of a value -/
def applyV (v : Val) (o : OpR) : Val × Int :=
  if faultV v ≠ 0 then (zeroV, faultV v) else if opF o ≠ 0 then (zeroV, opF o) else if (upV v o.p o).2 ≠ 0 then (zeroV, (upV v o.p o).2) else
    if faultV (upV v o.p o).1 ≠ 0 then (zeroV, faultV (upV v o.p o).1) else ((upV v o.p o).1, 0)
end Go.Up
end
section
namespace Go.SX
set_option linter.unusedSectionVars false
variable [Globs]
open Go.RowKit Go.WideShapes Go.ChangeShapes Go.Deep
theorem mapM_at {α β : Type} {f : α → Option β} : ∀ {l : List α} {r : List β}, l.mapM f = some r → r.length = l.length ∧ ∀ (j : Nat) x, l[j]? = some x → f x = r[j]? := by
  intro l
  induction l with
  | nil => intro r h; simp at h; subst h; exact ⟨rfl, fun j x h => by simp at h⟩
  | cons a l ih =>
    intro r h
    simp only [List.mapM_cons, Option.bind_eq_bind, Option.bind_eq_some_iff] at h
    obtain ⟨b, hb, bs, hbs, h⟩ := h
    have h : b :: bs = r := by injection h
    subst h
    obtain ⟨h1, h2⟩ := ih hbs
    refine ⟨by simp [h1], fun j x hx => ?_⟩
    cases j with
    | zero => simp at hx; subst hx; simpa using hb
    | succ j => simpa using h2 j x (by simpa using hx)
section
variable {H : Type} {encH : TypeId × Value → H} {P : Program} {W : World} {sp : Nat → Bool} {hd : Bool} {O : Nat → Prop}

theorem cells_get {w : World} {base : Nat} {a : Addr} {n : Nat} {cs : List Value} (h : w.cells? base a n = some cs) : cs.length = n ∧ ∀ (j : Nat) v, cs[j]? = some v → w.cell? (a.add j) = some v := by
  unfold World.cells? at h
  split at h
  · obtain ⟨h1, h2⟩ := mapM_at h
    rw [List.length_range] at h1
    refine ⟨h1, fun j v hv => ?_⟩
    have hj : j < n := by rw [← h1]; exact (List.getElem?_eq_some_iff.1 hv).1
    rw [h2 j j (by simp [hj]), hv]
  · cases h
theorem add_of {a : Addr} {n : Nat} (h : (a.add n).spot = none) : a.add n = ⟨a.block, a.off + n, none⟩ := by
  unfold Addr.add at h ⊢
  split
  · rename_i h0
    rw [if_pos h0] at h
    obtain ⟨b, o, s⟩ := a
    simp only at h
    subst h h0
    rfl
  · rfl
theorem arg_int {t : TypeId} {k : IntKind} {fuel : Nat} {cs : List Value} {x : DataW H × List MemPlace} (ht : P.underlying t = some (.int k)) (h : DataW.trod encH P W 0 sp hd fuel t cs = some x) : ∃ n, cs = [.int k n] ∧ Im O W (.i k n) (.int k n) ∧ (Lit.int k n).wf = true := by
  obtain ⟨n, h1, _, h2⟩ := DataW.trod_int ht h
  exact ⟨n, h1, .i k n, h2⟩
theorem arg_str {t : TypeId} {fuel : Nat} {cs : List Value} {x : DataW H × List MemPlace} (ht : P.underlying t = some .string) (h : DataW.trod encH P W 0 sp hd fuel t cs = some x) : ∃ (l : Str) (v : Value), cs = [v] ∧ Im O W (.s l) v := by
  obtain ⟨s, h1, _, h2⟩ := DataW.trod_string ht h
  refine ⟨s.data.toList, .string s, h1, ?_⟩
  have := Im.s (O := O) (w := W) s.data.toList (by rw [Array.length_toList]; exact h2)
  simpa using this
theorem arg_bool {t : TypeId} {fuel : Nat} {cs : List Value} {x : DataW H × List MemPlace} (ht : P.underlying t = some .bool) (h : DataW.trod encH P W 0 sp hd fuel t cs = some x) : ∃ b, cs = [.bool b] ∧ Im O W (.b b) (.bool b) := by
  obtain ⟨b, h1, _⟩ := DataW.trod_bool ht h
  exact ⟨b, h1, .b b⟩
/-- a slice, by its elements -/
theorem arg_slice {t e : TypeId} {τ : Ty} (hO : ∀ k, ¬ O k) (ht : P.underlying t = some (.slice e)) (hc : P.cellsOf e = esz τ)
    (hel : ∀ (n : Nat) (cs : List Value) (x : DataW H × List MemPlace), DataW.trod encH P W 0 sp hd n e cs = some x → ∃ y : den τ, All2 (Im O W) (enc τ y) cs)
    {fuel : Nat} {cs : List Value} {x : DataW H × List MemPlace} (h : DataW.trod encH P W 0 sp hd fuel t cs = some x) : ∃ (l : List (den τ)) (v : Value), cs = [v] ∧ Im O W (.rd τ l) v := by
  rcases open_slice ht h with ⟨rfl, _⟩ | ⟨a, len, cap, m, n, D, Pl, rfl, hb, hlc, hcm, hm, _, hall⟩
  · exact ⟨[], _, rfl, .rd0 τ none 0 (Nat.zero_le _)⟩
  have hlm : len ≤ m := by rw [hm]; split <;> omega
  by_cases h0 : len = 0
  · subst h0; exact ⟨[], _, rfl, .rd0 τ _ _ hcm⟩
  have hch : ∀ i, i < len → ∃ (y : den τ) (us : List Value), All2 (Im O W) (enc τ y) us ∧ us.length = esz τ ∧ ∀ (j : Nat) v, us[j]? = some v → W.cell? ⟨a.block, a.off + (i * esz τ + j), none⟩ = some v := by
    intro i hi
    obtain ⟨us, h1, h2⟩ := hall i (by omega)
    obtain ⟨y, hy⟩ := hel _ _ _ h2
    rw [hc] at h1
    obtain ⟨h3, h4⟩ := cells_get h1
    refine ⟨y, us, hy, h3, fun j v hv => ?_⟩
    have h5 := h4 j v hv
    have hs : ∀ j v, us[j]? = some v → ((a.add (i * esz τ)).add j).spot = none := fun j v hv => World.cell?_spot (h4 j v hv)
    have hpos := esz_pos τ
    have h00 : (a.add (i * esz τ)).spot = none := by
      have := hs 0 (us[0]'(by omega)) (List.getElem?_eq_getElem _)
      simpa [Addr.add] using this
    have e1 := add_of h00
    rw [e1] at h5
    rw [add_none] at h5
    rw [← h5, Nat.add_assoc]
  have ys : ∃ l : List (den τ), l.length = len ∧ ∀ (i : Nat) y, l[i]? = some y → ∃ us : List Value, All2 (Im O W) (enc τ y) us ∧ ∀ (j : Nat) v, us[j]? = some v → W.cell? ⟨a.block, a.off + (i * esz τ + j), none⟩ = some v := by
    have hch' := fun (i : Fin len) => hch i.1 i.2
    refine ⟨List.ofFn fun i : Fin len => Classical.choose (hch' i), by simp, fun i y hy => ?_⟩
    have hi : i < len := by have := (List.getElem?_eq_some_iff.1 hy).1; simpa using this
    rw [List.getElem?_ofFn, dif_pos hi] at hy
    injection hy with hy
    subst hy
    obtain ⟨us, h1, _, h2⟩ := Classical.choose_spec (hch' ⟨i, hi⟩)
    exact ⟨us, h1, h2⟩
  obtain ⟨l, hll, hl⟩ := ys
  refine ⟨l, _, rfl, ?_⟩
  have hane : a = ⟨a.block, a.off, none⟩ := by
    obtain ⟨y, us, _, h3, h4⟩ := hch 0 (by omega)
    obtain ⟨us', h1, h2⟩ := hall 0 (by omega)
    have hpos := esz_pos τ
    rw [hc] at h1
    obtain ⟨h5, h6⟩ := cells_get h1
    have := World.cell?_spot (h6 0 (us'[0]'(by omega)) (List.getElem?_eq_getElem _))
    simp [Addr.add] at this
    obtain ⟨b, o, s⟩ := a
    simp only at this
    subst this
    rfl
  rw [hane, ← hll]
  refine .rd τ l a.block a.off cap (fun i j => (W.cell? ⟨a.block, a.off + (i * esz τ + j), none⟩).getD undef) (hO _) (by omega) hcm (fun e => h0 (by rw [← hll, e]; rfl)) (fun i y j av hy hav => ?_) (fun i y j av hy hav => ?_)
  · obtain ⟨us, h1, h2⟩ := hl i y hy
    have hj : j < us.length := by rw [← h1.1]; exact (List.getElem?_eq_some_iff.1 hav).1
    rw [h2 j _ (List.getElem?_eq_getElem hj)]; rfl
  · obtain ⟨us, h1, h2⟩ := hl i y hy
    have hj : j < us.length := by rw [← h1.1]; exact (List.getElem?_eq_some_iff.1 hav).1
    rw [h2 j _ (List.getElem?_eq_getElem hj)]
    exact h1.2 j av _ hav (List.getElem?_eq_getElem hj)
/-- a struct of cells: each field's one -/
theorem one_field {t : TypeId} {fs : Array Field} {fuel : Nat} {cs : List Value} {x : DataW H × List MemPlace} (ht : P.underlying t = some (.struct fs)) (h : DataW.trod encH P W 0 sp hd fuel t cs = some x) :
    cs.length = P.cellsOf t ∧ ∃ n, ∀ (i : Nat) (f : Field), fs[i]? = some f → ∃ y, DataW.trod encH P W 0 sp hd n f.type ((cs.drop f.offset).take (P.cellsOf f.type)) = some y := by
  obtain ⟨xs, n, _, _, h1, h2, h3⟩ := DataW.trod_struct ht h
  refine ⟨h1, n, fun i f hf => ?_⟩
  have hi : i < xs.length := by rw [h2]; exact (Array.getElem?_eq_some_iff.1 hf).1
  rw [h3 i f hf, List.getElem?_eq_getElem hi]
  exact ⟨_, rfl⟩
theorem arg_part {t : TypeId} {f0 f1 f2 : Field} {fuel : Nat} {cs : List Value} {x : DataW H × List MemPlace} (ht : P.underlying t = some (.struct #[f0, f1, f2])) (hC : P.cellsOf t = 3)
    (ho : f0.offset = 0 ∧ f1.offset = 1 ∧ f2.offset = 2) (hc : P.cellsOf f0.type = 1 ∧ P.cellsOf f1.type = 1 ∧ P.cellsOf f2.type = 1)
    (h0 : P.underlying f0.type = some (.int .i64)) (h1 : P.underlying f1.type = some (.int .i64)) (h2 : P.underlying f2.type = some .string)
    (h : DataW.trod encH P W 0 sp hd fuel t cs = some x) : ∃ y : den .part, All2 (Im O W) (enc .part y) cs := by
  obtain ⟨hl, n, hf⟩ := one_field ht h
  rw [hC] at hl
  match cs, hl with
  | [u0, u1, u2], _ =>
    obtain ⟨_, g0⟩ := hf 0 f0 rfl
    obtain ⟨_, g1⟩ := hf 1 f1 rfl
    obtain ⟨_, g2⟩ := hf 2 f2 rfl
    rw [ho.1, hc.1] at g0
    rw [ho.2.1, hc.2.1] at g1
    rw [ho.2.2, hc.2.2] at g2
    obtain ⟨a, e0, i0, _⟩ := arg_int (O := O) h0 g0
    obtain ⟨b, e1, i1, _⟩ := arg_int (O := O) h1 g1
    obtain ⟨s, v, e2, i2⟩ := arg_str (O := O) h2 g2
    simp at e0 e1 e2
    subst e0 e1 e2
    exact ⟨⟨a, b, s⟩, All2.cons i0 (All2.cons i1 (All2.cons i2 (All2.nil _)))⟩
theorem slice_shape {t e : TypeId} {fuel : Nat} {cs : List Value} {x : DataW H × List MemPlace} (ht : P.underlying t = some (.slice e)) (h : DataW.trod encH P W 0 sp hd fuel t cs = some x) : ∃ u, cs = [u] ∧ u.oneCell' = true := by
  rcases open_slice ht h with ⟨rfl, _⟩ | ⟨a, len, cap, m, n, D, Pl, rfl, _⟩
  · exact ⟨_, rfl, rfl⟩
  · exact ⟨_, rfl, rfl⟩
/-- a node, of whose kids nothing is asked -/
theorem arg_node {t e : TypeId} {f0 f1 f2 f3 : Field} {fuel : Nat} {cs : List Value} {x : DataW H × List MemPlace} (ht : P.underlying t = some (.struct #[f0, f1, f2, f3])) (hC : P.cellsOf t = 4)
    (ho : f0.offset = 0 ∧ f1.offset = 1 ∧ f2.offset = 2 ∧ f3.offset = 3) (hc : P.cellsOf f0.type = 1 ∧ P.cellsOf f1.type = 1 ∧ P.cellsOf f2.type = 1 ∧ P.cellsOf f3.type = 1)
    (h0 : P.underlying f0.type = some (.int .i64)) (h1 : P.underlying f1.type = some (.int .i64)) (h2 : P.underlying f2.type = some (.int .i64)) (h3 : P.underlying f3.type = some (.slice e))
    (h : DataW.trod encH P W 0 sp hd fuel t cs = some x) : ∃ (a b c : Int) (u : Value), cs = [.int .i64 a, .int .i64 b, .int .i64 c, u] ∧ u.oneCell' = true ∧ (Lit.int .i64 c).wf = true := by
  obtain ⟨hl, n, hf⟩ := one_field ht h
  rw [hC] at hl
  match cs, hl with
  | [u0, u1, u2, u3], _ =>
    obtain ⟨_, g0⟩ := hf 0 f0 rfl
    obtain ⟨_, g1⟩ := hf 1 f1 rfl
    obtain ⟨_, g2⟩ := hf 2 f2 rfl
    obtain ⟨_, g3⟩ := hf 3 f3 rfl
    rw [ho.1, hc.1] at g0
    rw [ho.2.1, hc.2.1] at g1
    rw [ho.2.2.1, hc.2.2.1] at g2
    rw [ho.2.2.2, hc.2.2.2] at g3
    obtain ⟨a, e0, _, _⟩ := arg_int (O := fun _ => False) h0 g0
    obtain ⟨b, e1, _, _⟩ := arg_int (O := fun _ => False) h1 g1
    obtain ⟨c, e2, _, w2⟩ := arg_int (O := fun _ => False) h2 g2
    obtain ⟨u, e3, o3⟩ := slice_shape h3 g3
    simp at e0 e1 e2 e3
    subst e0 e1 e2 e3
    exact ⟨a, b, c, _, rfl, o3, w2⟩
end
theorem wf_i64 {n : Int} (h : (Lit.int .i64 n).wf = true) : (-9223372036854775808 : Int) ≤ n ∧ n ≤ (9223372036854775807 : Int) := by
  simp only [Lit.wf, Bool.and_eq_true, decide_eq_true_eq] at h; exact h
theorem wf_i32 {n : Int} (h : (Lit.int .i32 n).wf = true) : (-2147483648 : Int) ≤ n ∧ n ≤ (2147483647 : Int) := by
  simp only [Lit.wf, Bool.and_eq_true, decide_eq_true_eq] at h; exact h
theorem wf_u8 {n : Int} (h : (Lit.int .u8 n).wf = true) : (0 : Int) ≤ n ∧ n ≤ (255 : Int) := by
  simp only [Lit.wf, Bool.and_eq_true, decide_eq_true_eq] at h; exact h
theorem wf_u32 {n : Int} (h : (Lit.int .u32 n).wf = true) : (0 : Int) ≤ n ∧ n ≤ (4294967295 : Int) := by
  simp only [Lit.wf, Bool.and_eq_true, decide_eq_true_eq] at h; exact h
theorem wf_u64 {n : Int} (h : (Lit.int .u64 n).wf = true) : (0 : Int) ≤ n ∧ n ≤ (18446744073709551615 : Int) := by
  simp only [Lit.wf, Bool.and_eq_true, decide_eq_true_eq] at h; exact h
end Go.SX
end
section
namespace Go.SX
set_option linter.unusedSectionVars false
variable [Globs]
open Go.RowKit Go.WideShapes Go.ChangeShapes Go.Deep
section
variable {H : Type} {encH : TypeId × Value → H} {P : Program} {W : World} {sp : Nat → Bool} {hd : Bool} {O : Nat → Prop}
/-- a slice, by its elements, beside what is read of them -/
theorem arg_sliceR {t e : TypeId} {τ : Ty} {R : den τ → DataW H → Prop} (hO : ∀ k, ¬ O k) (ht : P.underlying t = some (.slice e)) (hc : P.cellsOf e = esz τ)
    (hel : ∀ (n : Nat) (cs : List Value) (x : DataW H × List MemPlace), DataW.trod encH P W 0 sp hd n e cs = some x → ∃ y : den τ, All2 (Im O W) (enc τ y) cs ∧ R y x.1)
    {fuel : Nat} {cs : List Value} {x : DataW H × List MemPlace} (h : DataW.trod encH P W 0 sp hd fuel t cs = some x) : ∃ (l : List (den τ)) (v : Value), cs = [v] ∧ Im O W (.rd τ l) v ∧ ((x.1 = .nil ∧ l = []) ∨ ∃ els rest, x.1 = .slice els rest ∧ els.length = l.length ∧ ∀ (i : Nat) y d, l[i]? = some y → els[i]? = some d → R y d) := by
  rcases open_slice ht h with ⟨rfl, rfl⟩ | ⟨a, len, cap, m, n, D, Pl, rfl, hb, hlc, hcm, hm, rfl, hall⟩
  · exact ⟨[], _, rfl, .rd0 τ none 0 (Nat.zero_le _), .inl ⟨rfl, rfl⟩⟩
  have hlm : len ≤ m := by rw [hm]; split <;> omega
  by_cases h0 : len = 0
  · subst h0; exact ⟨[], _, rfl, .rd0 τ _ _ hcm, .inr ⟨_, _, rfl, rfl, fun i y d hy _ => by simp at hy⟩⟩
  have hch : ∀ i, i < len → ∃ (y : den τ) (us : List Value), (All2 (Im O W) (enc τ y) us ∧ R y (D i)) ∧ us.length = esz τ ∧ ∀ (j : Nat) v, us[j]? = some v → W.cell? ⟨a.block, a.off + (i * esz τ + j), none⟩ = some v := by
    intro i hi
    obtain ⟨us, h1, h2⟩ := hall i (by omega)
    obtain ⟨y, hy⟩ := hel _ _ _ h2
    rw [hc] at h1
    obtain ⟨h3, h4⟩ := cells_get h1
    refine ⟨y, us, hy, h3, fun j v hv => ?_⟩
    have h5 := h4 j v hv
    have hs : ∀ j v, us[j]? = some v → ((a.add (i * esz τ)).add j).spot = none := fun j v hv => World.cell?_spot (h4 j v hv)
    have hpos := esz_pos τ
    have h00 : (a.add (i * esz τ)).spot = none := by
      have := hs 0 (us[0]'(by omega)) (List.getElem?_eq_getElem _)
      simpa [Addr.add] using this
    have e1 := add_of h00
    rw [e1] at h5
    rw [add_none] at h5
    rw [← h5, Nat.add_assoc]
  have ys : ∃ l : List (den τ), l.length = len ∧ ∀ (i : Nat) y, l[i]? = some y → ∃ us : List Value, (All2 (Im O W) (enc τ y) us ∧ R y (D i)) ∧ ∀ (j : Nat) v, us[j]? = some v → W.cell? ⟨a.block, a.off + (i * esz τ + j), none⟩ = some v := by
    have hch' := fun (i : Fin len) => hch i.1 i.2
    refine ⟨List.ofFn fun i : Fin len => Classical.choose (hch' i), by simp, fun i y hy => ?_⟩
    have hi : i < len := by have := (List.getElem?_eq_some_iff.1 hy).1; simpa using this
    rw [List.getElem?_ofFn, dif_pos hi] at hy
    injection hy with hy
    subst hy
    obtain ⟨us, h1, _, h2⟩ := Classical.choose_spec (hch' ⟨i, hi⟩)
    exact ⟨us, h1, h2⟩
  obtain ⟨l, hll, hl⟩ := ys
  refine ⟨l, _, rfl, ?_, .inr ⟨_, _, rfl, by simp [hll], fun i y d hy hd => ?_⟩⟩
  rotate_left
  · obtain ⟨us, h1, _⟩ := hl i y hy
    have hi : i < len := by rw [← hll]; exact (List.getElem?_eq_some_iff.1 hy).1
    rw [List.getElem?_map, List.getElem?_range hi] at hd
    injection hd with hd
    subst hd
    exact h1.2
  have hane : a = ⟨a.block, a.off, none⟩ := by
    obtain ⟨y, us, _, h3, h4⟩ := hch 0 (by omega)
    obtain ⟨us', h1, h2⟩ := hall 0 (by omega)
    have hpos := esz_pos τ
    rw [hc] at h1
    obtain ⟨h5, h6⟩ := cells_get h1
    have := World.cell?_spot (h6 0 (us'[0]'(by omega)) (List.getElem?_eq_getElem _))
    simp [Addr.add] at this
    obtain ⟨b, o, s⟩ := a
    simp only at this
    subst this
    rfl
  rw [hane, ← hll]
  refine .rd τ l a.block a.off cap (fun i j => (W.cell? ⟨a.block, a.off + (i * esz τ + j), none⟩).getD undef) (hO _) (by omega) hcm (fun e => h0 (by rw [← hll, e]; rfl)) (fun i y j av hy hav => ?_) (fun i y j av hy hav => ?_)
  · obtain ⟨us, h1, h2⟩ := hl i y hy
    have hj : j < us.length := by rw [← h1.1.1]; exact (List.getElem?_eq_some_iff.1 hav).1
    rw [h2 j _ (List.getElem?_eq_getElem hj)]; rfl
  · obtain ⟨us, h1, h2⟩ := hl i y hy
    have hj : j < us.length := by rw [← h1.1.1]; exact (List.getElem?_eq_some_iff.1 hav).1
    rw [h2 j _ (List.getElem?_eq_getElem hj)]
    exact h1.1.2 j av _ hav (List.getElem?_eq_getElem hj)
end
end Go.SX
end
section
namespace Go.SX
set_option linter.unusedSectionVars false
variable [Globs]
open Go.RowKit Go.WideShapes Go.ChangeShapes Go.Deep
/-- what a value bears: its numbers are of their kinds -/
inductive VB : Val → Prop
  | mk (v : Val) : (-9223372036854775808 ≤ v.kind ∧ v.kind ≤ 9223372036854775807) → (-9223372036854775808 ≤ v.n ∧ v.n ≤ 9223372036854775807) → (0 ≤ v.f ∧ v.f ≤ 18446744073709551615) → (∀ x ∈ v.l, VB x) → (∀ p ∈ v.e, VB p.2) → VB v
section
variable {H : Type} {encH : TypeId × Value → H} {P : Program} {W : World} {sp : Nat → Bool} {hd : Bool} {O : Nat → Prop}
/-- a slice, by its elements, which are read with less fuel -/
theorem arg_sliceF {t e : TypeId} {τ : Ty} {R : den τ → Prop} (hO : ∀ k, ¬ O k) (ht : P.underlying t = some (.slice e)) (hc : P.cellsOf e = esz τ) {fuel : Nat}
    (hel : ∀ n, n < fuel → ∀ (cs : List Value) (x : DataW H × List MemPlace), DataW.trod encH P W 0 sp hd n e cs = some x → ∃ y : den τ, All2 (Im O W) (enc τ y) cs ∧ R y)
    {cs : List Value} {x : DataW H × List MemPlace} (h : DataW.trod encH P W 0 sp hd fuel t cs = some x) : ∃ (l : List (den τ)) (v : Value), cs = [v] ∧ Im O W (.rd τ l) v ∧ ∀ y ∈ l, R y := by
  rcases DataW.trod_slice ht h with ⟨rfl, _⟩ | ⟨a, len, cap, elems, rest, n, rfl, rfl, _, hb, hlc, hcm, hlen, hall, _, _⟩
  · exact ⟨[], _, rfl, .rd0 τ none 0 (Nat.zero_le _), fun y hy => nomatch hy⟩
  by_cases h0 : len = 0
  · subst h0; exact ⟨[], _, rfl, .rd0 τ _ _ hcm, fun y hy => nomatch hy⟩
  have hall : ∀ i, i < len → ∃ (us : List Value) (y : DataW H × List MemPlace), W.cells? 0 (a.add (i * P.cellsOf e)) (P.cellsOf e) = some us ∧ DataW.trod encH P W 0 sp hd n e us = some y := fun i hi => by
    have := hall i hi
    rw [List.getElem?_eq_getElem (by omega)] at this
    obtain ⟨us, h1, h2⟩ := Option.bind_eq_some_iff.1 this
    exact ⟨us, _, h1, h2⟩
  have hch : ∀ i, i < len → ∃ (y : den τ) (us : List Value), (All2 (Im O W) (enc τ y) us ∧ R y) ∧ us.length = esz τ ∧ ∀ (j : Nat) v, us[j]? = some v → W.cell? ⟨a.block, a.off + (i * esz τ + j), none⟩ = some v := by
    intro i hi
    obtain ⟨us, yy, h1, h2⟩ := hall i hi
    obtain ⟨y, hy⟩ := hel n (Nat.lt_succ_self n) _ _ h2
    rw [hc] at h1
    obtain ⟨h3, h4⟩ := cells_get h1
    refine ⟨y, us, hy, h3, fun j v hv => ?_⟩
    have h5 := h4 j v hv
    have hs : ∀ j v, us[j]? = some v → ((a.add (i * esz τ)).add j).spot = none := fun j v hv => World.cell?_spot (h4 j v hv)
    have hpos := esz_pos τ
    have h00 : (a.add (i * esz τ)).spot = none := by
      have := hs 0 (us[0]'(by omega)) (List.getElem?_eq_getElem _)
      simpa [Addr.add] using this
    have e1 := add_of h00
    rw [e1] at h5
    rw [add_none] at h5
    rw [← h5, Nat.add_assoc]
  have ys : ∃ l : List (den τ), l.length = len ∧ ∀ (i : Nat) y, l[i]? = some y → ∃ us : List Value, (All2 (Im O W) (enc τ y) us ∧ R y) ∧ ∀ (j : Nat) v, us[j]? = some v → W.cell? ⟨a.block, a.off + (i * esz τ + j), none⟩ = some v := by
    have hch' := fun (i : Fin len) => hch i.1 i.2
    refine ⟨List.ofFn fun i : Fin len => Classical.choose (hch' i), by simp, fun i y hy => ?_⟩
    have hi : i < len := by have := (List.getElem?_eq_some_iff.1 hy).1; simpa using this
    rw [List.getElem?_ofFn, dif_pos hi] at hy
    injection hy with hy
    subst hy
    obtain ⟨us, h1, _, h2⟩ := Classical.choose_spec (hch' ⟨i, hi⟩)
    exact ⟨us, h1, h2⟩
  obtain ⟨l, hll, hl⟩ := ys
  refine ⟨l, _, rfl, ?_, fun y hy => ?_⟩
  rotate_left
  · obtain ⟨i, hi, rfl⟩ := List.getElem_of_mem hy
    obtain ⟨us, h1, _⟩ := hl i _ (List.getElem?_eq_getElem hi)
    exact h1.2
  have hane : a = ⟨a.block, a.off, none⟩ := by
    obtain ⟨us', yy, h1, h2⟩ := hall 0 (by omega)
    have hpos := esz_pos τ
    rw [hc] at h1
    obtain ⟨h5, h6⟩ := cells_get h1
    have := World.cell?_spot (h6 0 (us'[0]'(by omega)) (List.getElem?_eq_getElem _))
    simp [Addr.add] at this
    obtain ⟨b, o, s⟩ := a
    simp only at this
    subst this
    rfl
  rw [hane, ← hll]
  refine .rd τ l a.block a.off cap (fun i j => (W.cell? ⟨a.block, a.off + (i * esz τ + j), none⟩).getD undef) (hO _) (by omega) hcm (fun e => h0 (by rw [← hll, e]; rfl)) (fun i y j av hy hav => ?_) (fun i y j av hy hav => ?_)
  · obtain ⟨us, h1, h2⟩ := hl i y hy
    have hj : j < us.length := by rw [← h1.1.1]; exact (List.getElem?_eq_some_iff.1 hav).1
    rw [h2 j _ (List.getElem?_eq_getElem hj)]; rfl
  · obtain ⟨us, h1, h2⟩ := hl i y hy
    have hj : j < us.length := by rw [← h1.1.1]; exact (List.getElem?_eq_some_iff.1 hav).1
    rw [h2 j _ (List.getElem?_eq_getElem hj)]
    exact h1.1.2 j av _ hav (List.getElem?_eq_getElem hj)
/-- the fields of a struct, by their places and types -/
def HasF (fs : Array Field) (i off : Nat) (t : TypeId) : Prop := ∃ f, fs[i]? = some f ∧ f.offset = off ∧ f.type = t
theorem one_fieldF {t : TypeId} {fs : Array Field} {fuel : Nat} {cs : List Value} {x : DataW H × List MemPlace} (ht : P.underlying t = some (.struct fs)) (h : DataW.trod encH P W 0 sp hd fuel t cs = some x) :
    ∃ n, fuel = n + 1 ∧ cs.length = P.cellsOf t ∧ ∀ (i off : Nat) (t' : TypeId), HasF fs i off t' → ∃ y, DataW.trod encH P W 0 sp hd n t' ((cs.drop off).take (P.cellsOf t')) = some y := by
  obtain ⟨xs, n, hn, _, h1, h2, h3⟩ := DataW.trod_struct ht h
  refine ⟨n, hn, h1, fun i off t' hf => ?_⟩
  obtain ⟨f, hf, rfl, rfl⟩ := hf
  have hi : i < xs.length := by rw [h2]; exact (Array.getElem?_eq_some_iff.1 hf).1
  rw [h3 i f hf, List.getElem?_eq_getElem hi]
  exact ⟨_, rfl⟩
/-- the types that a value is made of -/
structure VTy (P : Program) (V : TypeId) where
  (fs gs : Array Field) (K N U S L E En : TypeId)
  hV : P.underlying V = some (.struct fs)
  cV : P.cellsOf V = 6
  h0 : HasF fs 0 0 K
  h1 : HasF fs 1 1 N
  h2 : HasF fs 2 2 U
  h3 : HasF fs 3 3 S
  h4 : HasF fs 4 4 L
  h5 : HasF fs 5 5 E
  uK : P.underlying K = some (.int .i64)
  uN : P.underlying N = some (.int .i64)
  uU : P.underlying U = some (.int .u64)
  uS : P.underlying S = some .string
  uL : P.underlying L = some (.slice V)
  uE : P.underlying E = some (.slice En)
  c : P.cellsOf K = 1 ∧ P.cellsOf N = 1 ∧ P.cellsOf U = 1 ∧ P.cellsOf S = 1 ∧ P.cellsOf L = 1 ∧ P.cellsOf E = 1
  hE : P.underlying En = some (.struct gs)
  cE : P.cellsOf En = 7
  g0 : HasF gs 0 0 S
  g1 : HasF gs 1 1 V
theorem arg_val {V : TypeId} (T : VTy P V) (hO : ∀ k, ¬ O k) : ∀ (fuel : Nat) (cs : List Value) (x : DataW H × List MemPlace), DataW.trod encH P W 0 sp hd fuel V cs = some x → ∃ y : Val, All2 (Im O W) (encVal y) cs ∧ VB y := by
  intro fuel
  induction fuel using Nat.strongRecOn with
  | _ fuel ih =>
  intro cs x h
  obtain ⟨n, rfl, hl, hf⟩ := one_fieldF T.hV h
  rw [T.cV] at hl
  obtain ⟨c0, c1, c2, c3, c4, c5⟩ := T.c
  match cs, hl with
  | [u0, u1, u2, u3, u4, u5], _ =>
    obtain ⟨_, q0⟩ := hf 0 0 _ T.h0
    obtain ⟨_, q1⟩ := hf 1 1 _ T.h1
    obtain ⟨_, q2⟩ := hf 2 2 _ T.h2
    obtain ⟨_, q3⟩ := hf 3 3 _ T.h3
    obtain ⟨_, q4⟩ := hf 4 4 _ T.h4
    obtain ⟨_, q5⟩ := hf 5 5 _ T.h5
    rw [c0] at q0
    rw [c1] at q1
    rw [c2] at q2
    rw [c3] at q3
    rw [c4] at q4
    rw [c5] at q5
    obtain ⟨k, e0, i0, w0⟩ := arg_int (O := O) T.uK q0
    obtain ⟨m, e1, i1, w1⟩ := arg_int (O := O) T.uN q1
    obtain ⟨f, e2, i2, w2⟩ := arg_int (O := O) T.uU q2
    obtain ⟨s, vs, e3, i3⟩ := arg_str (O := O) T.uS q3
    obtain ⟨l, vl, e4, i4, r4⟩ := arg_sliceF (O := O) (τ := .val) (R := VB) hO T.uL T.cV (fun n' hn cs' x' hx => ih n' (by omega) cs' x' hx) q4
    obtain ⟨es, ve, e5, i5, r5⟩ := arg_sliceF (O := O) (τ := .ent) (R := fun p => VB p.2) hO T.uE T.cE (fun n' hn cs' x' hx => by
      obtain ⟨n2, rfl, hl2, hf2⟩ := one_fieldF T.hE hx
      rw [T.cE] at hl2
      match cs', hl2 with
      | [z0, z1, z2, z3, z4, z5, z6], _ =>
        obtain ⟨_, p0⟩ := hf2 0 0 _ T.g0
        obtain ⟨_, p1⟩ := hf2 1 1 _ T.g1
        rw [c3] at p0
        rw [T.cV] at p1
        obtain ⟨ks, kv, d0, j0⟩ := arg_str (O := O) T.uS p0
        obtain ⟨y, j1, hy⟩ := ih n2 (by omega) _ _ p1
        simp at d0
        subst d0
        exact ⟨(ks, y), All2.cons j0 (by simpa using j1), hy⟩) q5
    simp at e0 e1 e2 e3 e4 e5
    subst e0 e1 e2 e3 e4 e5
    exact ⟨⟨k, m, f, s, l, es⟩, All2.cons i0 (All2.cons i1 (All2.cons i2 (All2.cons i3 (All2.cons i4 (All2.cons i5 (All2.nil _)))))), .mk _ (wf_i64 w0) (wf_i64 w1) (wf_u64 w2) r4 r5⟩
/-- the types that a change of types is made of -/
structure MTy (P : Program) (M : TypeId) where
  (fs : Array Field) (K Q S V : TypeId) (T : VTy P V)
  hM : P.underlying M = some (.struct fs)
  cM : P.cellsOf M = 10
  h0 : HasF fs 0 0 K
  h1 : HasF fs 1 1 Q
  h2 : HasF fs 2 2 S
  h3 : HasF fs 3 3 S
  h4 : HasF fs 4 4 V
  uK : P.underlying K = some (.int .i64)
  uQ : P.underlying Q = some (.slice S)
  uS : P.underlying S = some .string
  c : P.cellsOf K = 1 ∧ P.cellsOf Q = 1 ∧ P.cellsOf S = 1
/-- what a change of types bears -/
def MB (m : Move) : Prop := (-9223372036854775808 ≤ m.kind ∧ m.kind ≤ 9223372036854775807) ∧ VB m.v
theorem arg_move {M : TypeId} (T : MTy P M) (hO : ∀ k, ¬ O k) {fuel : Nat} {cs : List Value} {x : DataW H × List MemPlace} (h : DataW.trod encH P W 0 sp hd fuel M cs = some x) : ∃ y : Move, All2 (Im O W) (enc .move y) cs ∧ MB y := by
  obtain ⟨n, rfl, hl, hf⟩ := one_fieldF T.hM h
  rw [T.cM] at hl
  obtain ⟨c0, c1, c2⟩ := T.c
  match cs, hl with
  | [u0, u1, u2, u3, u4, u5, u6, u7, u8, u9], _ =>
    obtain ⟨_, q0⟩ := hf 0 0 _ T.h0
    obtain ⟨_, q1⟩ := hf 1 1 _ T.h1
    obtain ⟨_, q2⟩ := hf 2 2 _ T.h2
    obtain ⟨_, q3⟩ := hf 3 3 _ T.h3
    obtain ⟨_, q4⟩ := hf 4 4 _ T.h4
    rw [c0] at q0
    rw [c1] at q1
    rw [c2] at q2 q3
    rw [T.T.cV] at q4
    obtain ⟨k, e0, i0, w0⟩ := arg_int (O := O) T.uK q0
    obtain ⟨p, vp, e1, i1, _⟩ := arg_sliceF (O := O) (τ := .str) (R := fun _ => True) hO T.uQ c2 (fun n' hn cs' x' hx => by
      obtain ⟨ks, kv, d0, j0⟩ := arg_str (O := O) T.uS hx
      subst d0
      exact ⟨ks, All2.cons j0 (All2.nil _), trivial⟩) q1
    obtain ⟨s, vs, e2, i2⟩ := arg_str (O := O) T.uS q2
    obtain ⟨s', vs', e3, i3⟩ := arg_str (O := O) T.uS q3
    obtain ⟨y, j1, hy⟩ := arg_val T.T hO _ _ _ q4
    simp at e0 e1 e2 e3
    subst e0 e1 e2 e3
    exact ⟨⟨k, p, s, s', y⟩, All2.cons i0 (All2.cons i1 (All2.cons i2 (All2.cons i3 (by simpa using j1)))), wf_i64 w0, hy⟩
/-- the types that a link is made of -/
structure KTy (P : Program) (L : TypeId) where
  (fs : Array Field) (K Q M : TypeId) (T : MTy P M)
  hL : P.underlying L = some (.struct fs)
  cL : P.cellsOf L = 3
  h0 : HasF fs 0 0 K
  h1 : HasF fs 1 1 K
  h2 : HasF fs 2 2 Q
  uK : P.underlying K = some (.int .i64)
  uQ : P.underlying Q = some (.slice M)
  c : P.cellsOf K = 1 ∧ P.cellsOf Q = 1
def KB (k : Link) : Prop := (-9223372036854775808 ≤ k.fr ∧ k.fr ≤ 9223372036854775807) ∧ (-9223372036854775808 ≤ k.to ∧ k.to ≤ 9223372036854775807) ∧ ∀ m ∈ k.moves, MB m
theorem arg_link {L : TypeId} (T : KTy P L) (hO : ∀ k, ¬ O k) {fuel : Nat} {cs : List Value} {x : DataW H × List MemPlace} (h : DataW.trod encH P W 0 sp hd fuel L cs = some x) : ∃ y : Link, All2 (Im O W) (enc .link y) cs ∧ KB y := by
  obtain ⟨n, rfl, hl, hf⟩ := one_fieldF T.hL h
  rw [T.cL] at hl
  obtain ⟨c0, c1⟩ := T.c
  match cs, hl with
  | [u0, u1, u2], _ =>
    obtain ⟨_, q0⟩ := hf 0 0 _ T.h0
    obtain ⟨_, q1⟩ := hf 1 1 _ T.h1
    obtain ⟨_, q2⟩ := hf 2 2 _ T.h2
    rw [c0] at q0 q1
    rw [c1] at q2
    obtain ⟨k, e0, i0, w0⟩ := arg_int (O := O) T.uK q0
    obtain ⟨k', e1, i1, w1⟩ := arg_int (O := O) T.uK q1
    obtain ⟨p, vp, e2, i2, r2⟩ := arg_sliceF (O := O) (τ := .move) (R := MB) hO T.uQ T.T.cM (fun n' hn cs' x' hx => arg_move T.T hO hx) q2
    simp at e0 e1 e2
    subst e0 e1 e2
    exact ⟨⟨k, k', p⟩, All2.cons i0 (All2.cons i1 (All2.cons i2 (All2.nil _))), wf_i64 w0, wf_i64 w1, r2⟩
end
end Go.SX
end
section
namespace Go.Proofs.YtdcdmojbkmedpaaDoor
set_option linter.unusedSectionVars false
set_option linter.unusedSimpArgs false
set_option linter.unusedVariables false
open Go Go.SX Go.Vl
set_option maxRecDepth 100000
set_option maxHeartbeats 0
theorem less_ne {a b : Str} (h : Op.bytesLess a b = true) : a ≠ b := fun e => by rw [e, less_irrefl] at h; cases h
theorem beq_S (a : Str) : (a == a) = true := beq_self_eq_true a
theorem shr63 {f : Int} (h0 : 0 ≤ f) (h1 : f ≤ 18446744073709551615) : (f.fdiv (2 ^ min (Int.toNat 63) IntKind.u64.bits) == 1) = decide (¬ f < 9223372036854775808) := by
  rw [show (2 : Int) ^ min (Int.toNat 63) IntKind.u64.bits = 9223372036854775808 from rfl, Int.fdiv_eq_ediv_of_nonneg _ (by decide)]
  rw [Bool.eq_iff_iff, beq_iff_eq, decide_eq_true_eq]
  omega
theorem or63 {f : Int} (h0 : 0 ≤ f) (h1 : f < 9223372036854775808) : bits .or .u64 f 9223372036854775808 = f + 9223372036854775808 := by
  obtain ⟨n, rfl⟩ : ∃ n : Nat, f = n := ⟨f.toNat, by omega⟩
  rw [show (9223372036854775808 : Int) = ((2 ^ 63 * 1 : Nat) : Int) from rfl, bits_or_u64_nat _ _ (by omega) (by omega), Nat.or_comm, ← Nat.two_pow_add_eq_or_of_lt (by omega)]
  omega
theorem xor63 {f : Int} (h0 : 0 ≤ f) (h1 : f ≤ 18446744073709551615) : bits .xor .u64 (if IntKind.u64.signed = true then -1 else IntKind.u64.max) f = 18446744073709551615 - f := by
  obtain ⟨n, rfl⟩ : ∃ n : Nat, f = n := ⟨f.toNat, by omega⟩
  rw [show (if IntKind.u64.signed = true then (-1 : Int) else IntKind.u64.max) = ((18446744073709551615 : Nat) : Int) from rfl, bits_xor_u64_nat _ _ (by omega) (by omega)]
  have h : (18446744073709551615 ^^^ n : Nat) = 18446744073709551615 - n := by
    have h2 := congrArg BitVec.toNat (BitVec.allOnes_xor (x := BitVec.ofNat 64 n))
    rw [BitVec.toNat_xor, BitVec.toNat_not, BitVec.toNat_ofNat, Nat.mod_eq_of_lt (by omega), BitVec.toNat_allOnes] at h2
    exact h2
  rw [h]
  omega
section
variable [G : Globs]
theorem w_nanI64 (a : Int) : vc Tryd.prog Γ 6 [0, 2] (Tryd.f213.body.getD .skip) (postK Γ [.tmp 2] (fun v => v = .b false)) ⟨argSlots 0 [.i .i64 a], []⟩ := by
  show _ = _
  rw [bne_self_eq_false]
  rfl
theorem s_nanI64 (a : Int) : PSpec Tryd.prog 213 [.i .i64 a] (.b false) :=
  pspec_of_vc Γ_good Tryd.func213 rfl Tryd.call213 Tryd.results213 Tryd.ntmps213 (Nat.le_of_ble_eq_true rfl) (w_nanI64 a)
theorem w_cmpI64 (a b : Int) : vc Tryd.prog Γ 20 [0, 1, 4, 5, 6, 11, 12, 13, 16, 19] (Tryd.f167.body.getD .skip) (postK Γ [.tmp 4] (fun v => v = .i .i64 (cmpI a b))) ⟨argSlots 0 [.i .i64 a, .i .i64 b], []⟩ := by
  refine Or.inl (Exists.intro _ (And.intro (s_nanI64 a) ?_))
  refine Or.inl (Exists.intro _ (And.intro (s_nanI64 b) ?_))
  refine And.intro (fun h => Bool.noConfusion h) (fun _ => ?_)
  refine And.intro (fun h => Bool.noConfusion h) (fun _ => ?_)
  refine And.intro (fun h => ?_) (fun h => ?_)
  · have h : a < b := of_decide_eq_true h
    show AV.i .i64 (-1) = AV.i .i64 (cmpI a b)
    rw [cmpI, if_neg (by omega), if_pos h]
  · have h : ¬ a < b := of_decide_eq_false h
    refine And.intro (fun h2 => ?_) (fun h2 => ?_)
    · have h2 : b < a := of_decide_eq_true h2
      show AV.i .i64 1 = AV.i .i64 (cmpI a b)
      rw [cmpI, if_neg (by omega), if_neg h]
    · have h2 : ¬ b < a := of_decide_eq_false h2
      show AV.i .i64 0 = AV.i .i64 (cmpI a b)
      rw [cmpI, if_pos (by omega)]
theorem s_cmpI64 (a b : Int) : PSpec Tryd.prog 167 [.i .i64 a, .i .i64 b] (.i .i64 (cmpI a b)) :=
  pspec_of_vc Γ_good Tryd.func167 rfl Tryd.call167 Tryd.results167 Tryd.ntmps167 (Nat.le_of_ble_eq_true rfl) (w_cmpI64 a b)
theorem w_nanJ64 (a : Int) : vc Tryd.prog Γ 6 [0, 2] (Tryd.f214.body.getD .skip) (postK Γ [.tmp 2] (fun v => v = .b false)) ⟨argSlots 0 [.i .i64 a], []⟩ := by
  show _ = _
  rw [bne_self_eq_false]
  rfl
theorem s_nanJ64 (a : Int) : PSpec Tryd.prog 214 [.i .i64 a] (.b false) :=
  pspec_of_vc Γ_good Tryd.func214 rfl Tryd.call214 Tryd.results214 Tryd.ntmps214 (Nat.le_of_ble_eq_true rfl) (w_nanJ64 a)
theorem w_cmpJ64 (a b : Int) : vc Tryd.prog Γ 20 [0, 1, 4, 5, 6, 11, 12, 13, 16, 19] (Tryd.f168.body.getD .skip) (postK Γ [.tmp 4] (fun v => v = .i .i64 (cmpI a b))) ⟨argSlots 0 [.i .i64 a, .i .i64 b], []⟩ := by
  refine Or.inl (Exists.intro _ (And.intro (s_nanJ64 a) ?_))
  refine Or.inl (Exists.intro _ (And.intro (s_nanJ64 b) ?_))
  refine And.intro (fun h => Bool.noConfusion h) (fun _ => ?_)
  refine And.intro (fun h => Bool.noConfusion h) (fun _ => ?_)
  refine And.intro (fun h => ?_) (fun h => ?_)
  · have h : a < b := of_decide_eq_true h
    show AV.i .i64 (-1) = AV.i .i64 (cmpI a b)
    rw [cmpI, if_neg (by omega), if_pos h]
  · have h : ¬ a < b := of_decide_eq_false h
    refine And.intro (fun h2 => ?_) (fun h2 => ?_)
    · have h2 : b < a := of_decide_eq_true h2
      show AV.i .i64 1 = AV.i .i64 (cmpI a b)
      rw [cmpI, if_neg (by omega), if_neg h]
    · have h2 : ¬ b < a := of_decide_eq_false h2
      show AV.i .i64 0 = AV.i .i64 (cmpI a b)
      rw [cmpI, if_pos (by omega)]
theorem s_cmpJ64 (a b : Int) : PSpec Tryd.prog 168 [.i .i64 a, .i .i64 b] (.i .i64 (cmpI a b)) :=
  pspec_of_vc Γ_good Tryd.func168 rfl Tryd.call168 Tryd.results168 Tryd.ntmps168 (Nat.le_of_ble_eq_true rfl) (w_cmpJ64 a b)
theorem w_nanU64 (a : Int) : vc Tryd.prog Γ 6 [0, 2] (Tryd.f215.body.getD .skip) (postK Γ [.tmp 2] (fun v => v = .b false)) ⟨argSlots 0 [.i .u64 a], []⟩ := by
  show _ = _
  rw [bne_self_eq_false]
  rfl
theorem s_nanU64 (a : Int) : PSpec Tryd.prog 215 [.i .u64 a] (.b false) :=
  pspec_of_vc Γ_good Tryd.func215 rfl Tryd.call215 Tryd.results215 Tryd.ntmps215 (Nat.le_of_ble_eq_true rfl) (w_nanU64 a)
theorem w_cmpU64 (a b : Int) : vc Tryd.prog Γ 20 [0, 1, 4, 5, 6, 11, 12, 13, 16, 19] (Tryd.f169.body.getD .skip) (postK Γ [.tmp 4] (fun v => v = .i .i64 (cmpI a b))) ⟨argSlots 0 [.i .u64 a, .i .u64 b], []⟩ := by
  refine Or.inl (Exists.intro _ (And.intro (s_nanU64 a) ?_))
  refine Or.inl (Exists.intro _ (And.intro (s_nanU64 b) ?_))
  refine And.intro (fun h => Bool.noConfusion h) (fun _ => ?_)
  refine And.intro (fun h => Bool.noConfusion h) (fun _ => ?_)
  refine And.intro (fun h => ?_) (fun h => ?_)
  · have h : a < b := of_decide_eq_true h
    show AV.i .i64 (-1) = AV.i .i64 (cmpI a b)
    rw [cmpI, if_neg (by omega), if_pos h]
  · have h : ¬ a < b := of_decide_eq_false h
    refine And.intro (fun h2 => ?_) (fun h2 => ?_)
    · have h2 : b < a := of_decide_eq_true h2
      show AV.i .i64 1 = AV.i .i64 (cmpI a b)
      rw [cmpI, if_neg (by omega), if_neg h]
    · have h2 : ¬ b < a := of_decide_eq_false h2
      show AV.i .i64 0 = AV.i .i64 (cmpI a b)
      rw [cmpI, if_pos (by omega)]
theorem s_cmpU64 (a b : Int) : PSpec Tryd.prog 169 [.i .u64 a, .i .u64 b] (.i .i64 (cmpI a b)) :=
  pspec_of_vc Γ_good Tryd.func169 rfl Tryd.call169 Tryd.results169 Tryd.ntmps169 (Nat.le_of_ble_eq_true rfl) (w_cmpU64 a b)
theorem w_nanS (a : Str) : vc Tryd.prog Γ 6 [0, 2] (Tryd.f216.body.getD .skip) (postK Γ [.tmp 2] (fun v => v = .b false)) ⟨argSlots 0 [.s a], []⟩ := by
  show _ = _
  rw [beq_S]
  rfl
theorem s_nanS (a : Str) : PSpec Tryd.prog 216 [.s a] (.b false) :=
  pspec_of_vc Γ_good Tryd.func216 rfl Tryd.call216 Tryd.results216 Tryd.ntmps216 (Nat.le_of_ble_eq_true rfl) (w_nanS a)
theorem w_cmpStr (a b : Str) : vc Tryd.prog Γ 20 [0, 1, 4, 5, 6, 11, 12, 13, 16, 19] (Tryd.f171.body.getD .skip) (postK Γ [.tmp 4] (fun v => v = .i .i64 (cmpS a b))) ⟨argSlots 0 [.s a, .s b], []⟩ := by
  refine Or.inl (Exists.intro _ (And.intro (s_nanS a) ?_))
  refine Or.inl (Exists.intro _ (And.intro (s_nanS b) ?_))
  refine And.intro (fun h => Bool.noConfusion h) (fun _ => ?_)
  refine And.intro (fun h => Bool.noConfusion h) (fun _ => ?_)
  refine And.intro (fun h => ?_) (fun h => ?_)
  · have h : Op.bytesLess a b = true := h
    show AV.i .i64 (-1) = AV.i .i64 (cmpS a b)
    rw [cmpS, if_neg (less_ne h), if_pos h]
  · have h : Op.bytesLess a b = false := h
    refine And.intro (fun h2 => ?_) (fun h2 => ?_)
    · have h2 : (!(Op.bytesLess a b || a == b)) = true := h2
      rw [h, Bool.false_or] at h2
      have h3 : a ≠ b := by simpa using h2
      show AV.i .i64 1 = AV.i .i64 (cmpS a b)
      rw [cmpS, if_neg h3, if_neg (by rw [h]; decide)]
    · have h2 : (!(Op.bytesLess a b || a == b)) = false := h2
      rw [h, Bool.false_or] at h2
      have h3 : a = b := by simpa using h2
      show AV.i .i64 0 = AV.i .i64 (cmpS a b)
      rw [cmpS, if_pos h3]
theorem s_cmpStr (a b : Str) : PSpec Tryd.prog 171 [.s a, .s b] (.i .i64 (cmpS a b)) :=
  pspec_of_vc Γ_good Tryd.func171 rfl Tryd.call171 Tryd.results171 Tryd.ntmps171 (Nat.le_of_ble_eq_true rfl) (w_cmpStr a b)
theorem w_or (l : List Int) : vc Tryd.prog Γ 18 [0, 2, 3, 5, 6, 7, 8, 9, 14] (Tryd.f166.body.getD .skip) (postK Γ [.tmp 2] (fun v => v = .i .i64 (firstN l))) ⟨argSlots 0 [.rd .int l], []⟩ := by
  intro _
  refine Exists.intro [] (Exists.intro [] (Exists.intro [] (Exists.intro Nat (Exists.intro (fun k => k ≤ l.length ∧ firstN l = firstN (l.drop k)) (Exists.intro (fun k => ⟨[(3, .i .i64 0), (6, .rd .int l), (7, .i .i64 l.length), (8, .i .i64 k)], []⟩) (Exists.intro (fun k => l.length - k) (Exists.intro 0 (And.intro ⟨Nat.zero_le _, rfl⟩ (And.intro ?_ ?_)))))))))
  · (repeat' (first | exact trivial | exact Or.inl rfl | exact Or.inr (Or.inl ⟨rfl, _, rfl⟩) | exact Or.inr (Or.inr (Or.inr ⟨_, _, _, rfl, rfl⟩)) | refine And.intro ?_ ?_))
  · rintro k ⟨hk, he⟩
    refine And.intro (fun hc => ?_) (fun hc => ?_)
    · have hc : k < l.length := by have : (k : Int) < (l.length : Int) := of_decide_eq_true hc
                                   omega
      have hg : l.getD (Int.toNat (k : Int)) (dflt .int) = l[k] := by rw [Int.toNat_natCast, List.getD_eq_getElem?_getD, List.getElem?_eq_getElem hc]; rfl
      refine And.intro ⟨by omega, by omega⟩ ?_
      rw [firstN_drop hc] at he
      refine And.intro (fun hq => ?_) (fun hq => ?_)
      · have hq : l[k] ≠ 0 := by rw [hg] at hq; simpa using hq
        rw [orI_ne hq] at he
        show AV.i .i64 (l.getD (Int.toNat (k : Int)) (dflt .int)) = AV.i .i64 (firstN l)
        rw [hg, he]
      · have hq : l[k] = 0 := by rw [hg] at hq; simpa using hq
        rw [hq, orI_zero] at he
        refine And.intro (rng64 (by omega) (by have := len_le (by assumption : l.length ≤ maxLen); omega)) ?_
        refine Exists.intro [] (Exists.intro (k + 1) (And.intro ⟨hc, he⟩ (And.intro ?_ ?_)))
        · (repeat' (first | exact trivial | exact Or.inl rfl | exact Or.inr (Or.inl ⟨rfl, _, rfl⟩) | exact Or.inr (Or.inr (Or.inr ⟨_, _, _, rfl, rfl⟩)) | refine And.intro ?_ ?_))
        · show l.length - (k + 1) < l.length - k
          omega
    · have hc : k = l.length := by have : ¬ (k : Int) < (l.length : Int) := of_decide_eq_false hc
                                   omega
      subst hc
      rw [List.drop_length, firstN] at he
      exact congrArg (AV.i .i64) he.symm
theorem s_or (l : List Int) : PSpec Tryd.prog 166 [.rd .int l] (.i .i64 (firstN l)) :=
  pspec_of_vc Γ_good Tryd.func166 rfl Tryd.call166 Tryd.results166 Tryd.ntmps166 (Nat.le_of_ble_eq_true rfl) (w_or l)
theorem w_rk (f : Int) (h0 : 0 ≤ f) (h1 : f ≤ 18446744073709551615) : vc Tryd.prog Γ 10 [0, 2, 5] (Tryd.f170.body.getD .skip) (postK Γ [.tmp 2] (fun v => v = .i .u64 (rank f))) ⟨argSlots 0 [.i .u64 f], []⟩ := by
  refine And.intro (by decide) ?_
  refine And.intro (fun h => ?_) (fun h => ?_)
  · have h : ¬ f < 9223372036854775808 := of_decide_eq_true ((shr63 h0 h1).symm.trans h)
    refine congrArg (AV.i .u64) ?_
    rw [xor63 h0 h1, rank, if_neg h]
  · have h : f < 9223372036854775808 := by
      have := of_decide_eq_false ((shr63 h0 h1).symm.trans h)
      omega
    refine congrArg (AV.i .u64) ?_
    rw [or63 h0 h, rank, if_pos h]
theorem s_rk (f : Int) (h0 : 0 ≤ f) (h1 : f ≤ 18446744073709551615) : PSpec Tryd.prog 170 [.i .u64 f] (.i .u64 (rank f)) :=
  pspec_of_vc Γ_good Tryd.func170 rfl Tryd.call170 Tryd.results170 Tryd.ntmps170 (Nat.le_of_ble_eq_true rfl) (w_rk f h0 h1)
theorem rankB {f : Int} (h0 : 0 ≤ f) (h1 : f ≤ 18446744073709551615) : 0 ≤ rank f ∧ rank f ≤ 18446744073709551615 := by
  unfold rank
  split <;> omega
theorem w_cfV (l m : List Val) (hc : ∀ x ∈ l, ∀ y ∈ m, PSpec Tryd.prog 104 [.agg (encVal x), .agg (encVal y)] (.i .i64 (cmpV x y))) : vc Tryd.prog Γ 39 [0, 1, 2, 6, 7, 8, 9, 10, 11, 12, 13, 14, 21, 31, 38] (Tryd.f172.body.getD .skip) (postK Γ [.tmp 6] (fun v => v = .i .i64 (cmpL l m))) ⟨argSlots 0 [.rd .val l, .rd .val m, .fn 104 []], []⟩ := by
  intro hl
  refine Exists.intro [] (Exists.intro [] (Exists.intro [] (Exists.intro Nat (Exists.intro (fun k => k ≤ l.length ∧ k ≤ m.length ∧ cmpL l m = cmpL (l.drop k) (m.drop k)) (Exists.intro (fun k => ⟨[(0, .rd .val l), (1, .rd .val m), (2, .fn 104 []), (11, .rd .val l), (12, .i .i64 l.length), (13, .i .i64 k)], []⟩) (Exists.intro (fun k => l.length - k) (Exists.intro 0 (And.intro ⟨Nat.zero_le _, Nat.zero_le _, rfl⟩ (And.intro ?_ ?_)))))))))
  · (repeat' (first | exact trivial | exact Or.inl rfl | exact Or.inr (Or.inl ⟨rfl, _, rfl⟩) | exact Or.inr (Or.inr (Or.inr ⟨_, _, _, rfl, rfl⟩)) | refine And.intro ?_ ?_))
  · rintro k ⟨hk, hkm, he⟩
    refine And.intro (fun hd => ?_) (fun hd => ?_)
    · have hd : k < l.length := by have : (k : Int) < (l.length : Int) := of_decide_eq_true hd
                                   omega
      have hg : l.getD (Int.toNat (k : Int)) (dflt .val) = l[k] := by rw [Int.toNat_natCast, List.getD_eq_getElem?_getD, List.getElem?_eq_getElem hd]; rfl
      refine And.intro ⟨by omega, by omega⟩ ?_
      intro hm
      refine And.intro (fun hq => ?_) (fun hq => ?_)
      · have hq : m.length ≤ k := by have : (m.length : Int) ≤ (k : Int) := of_decide_eq_true hq
                                     omega
        rw [cmpL_short hd hq] at he
        exact congrArg (AV.i .i64) he.symm
      · have hq : k < m.length := by have : ¬ (m.length : Int) ≤ (k : Int) := of_decide_eq_false hq
                                     omega
        have hgm : m.getD (Int.toNat (k : Int)) (dflt .val) = m[k] := by rw [Int.toNat_natCast, List.getD_eq_getElem?_getD, List.getElem?_eq_getElem hq]; rfl
        refine And.intro ⟨by omega, by omega⟩ ?_
        have hs := hc l[k] (List.getElem_mem hd) m[k] (List.getElem_mem hq)
        rw [← hg, ← hgm] at hs
        refine Or.inl (Exists.intro _ (And.intro (hs) ?_))
        rw [hg, hgm]
        rw [cmpL_drop hd hq] at he
        refine And.intro (fun hz => ?_) (fun hz => ?_)
        · have hz : cmpV l[k] m[k] ≠ 0 := by simpa using hz
          rw [orI_ne hz] at he
          exact congrArg (AV.i .i64) he.symm
        · have hz : cmpV l[k] m[k] = 0 := by simpa using hz
          rw [hz, orI_zero] at he
          have := len_le hl
          (refine And.intro (rng64 (by omega) (by omega)) ?_)
          refine Exists.intro [] (Exists.intro (k + 1) (And.intro ⟨hd, hq, he⟩ (And.intro ?_ ?_)))
          · (repeat' (first | exact trivial | exact Or.inl rfl | exact Or.inr (Or.inl ⟨rfl, _, rfl⟩) | exact Or.inr (Or.inr (Or.inr ⟨_, _, _, rfl, rfl⟩)) | refine And.intro ?_ ?_))
          · show l.length - (k + 1) < l.length - k
            omega
    · have hd : k = l.length := by have : ¬ (k : Int) < (l.length : Int) := of_decide_eq_false hd
                                   omega
      subst hd
      intro _
      intro hm
      refine And.intro (fun hq => ?_) (fun hq => ?_)
      · have hq : l.length < m.length := by have : (l.length : Int) < (m.length : Int) := of_decide_eq_true hq
                                            omega
        rw [cmpL_long (Nat.le_refl _) hq] at he
        exact congrArg (AV.i .i64) he.symm
      · have hq : m.length ≤ l.length := by have : ¬ (l.length : Int) < (m.length : Int) := of_decide_eq_false hq
                                            omega
        rw [cmpL_end (Nat.le_refl _) hq] at he
        exact congrArg (AV.i .i64) he.symm
theorem s_cfV (l m : List Val) (hc : ∀ x ∈ l, ∀ y ∈ m, PSpec Tryd.prog 104 [.agg (encVal x), .agg (encVal y)] (.i .i64 (cmpV x y))) : PSpec Tryd.prog 172 [.rd .val l, .rd .val m, .fn 104 []] (.i .i64 (cmpL l m)) :=
  pspec_of_vc Γ_good Tryd.func172 rfl Tryd.call172 Tryd.results172 Tryd.ntmps172 (Nat.le_of_ble_eq_true rfl) (w_cfV l m hc)
theorem w_cfE (l m : List (Str × Val)) (hc : ∀ x ∈ l, ∀ y ∈ m, PSpec Tryd.prog 174 [.agg (enc .ent x), .agg (enc .ent y)] (.i .i64 (cmpP x y))) : vc Tryd.prog Γ 39 [0, 1, 2, 6, 7, 8, 9, 10, 11, 12, 13, 14, 21, 31, 38] (Tryd.f173.body.getD .skip) (postK Γ [.tmp 6] (fun v => v = .i .i64 (cmpE l m))) ⟨argSlots 0 [.rd .ent l, .rd .ent m, .fn 174 []], []⟩ := by
  intro hl
  refine Exists.intro [] (Exists.intro [] (Exists.intro [] (Exists.intro Nat (Exists.intro (fun k => k ≤ l.length ∧ k ≤ m.length ∧ cmpE l m = cmpE (l.drop k) (m.drop k)) (Exists.intro (fun k => ⟨[(0, .rd .ent l), (1, .rd .ent m), (2, .fn 174 []), (11, .rd .ent l), (12, .i .i64 l.length), (13, .i .i64 k)], []⟩) (Exists.intro (fun k => l.length - k) (Exists.intro 0 (And.intro ⟨Nat.zero_le _, Nat.zero_le _, rfl⟩ (And.intro ?_ ?_)))))))))
  · (repeat' (first | exact trivial | exact Or.inl rfl | exact Or.inr (Or.inl ⟨rfl, _, rfl⟩) | exact Or.inr (Or.inr (Or.inr ⟨_, _, _, rfl, rfl⟩)) | refine And.intro ?_ ?_))
  · rintro k ⟨hk, hkm, he⟩
    refine And.intro (fun hd => ?_) (fun hd => ?_)
    · have hd : k < l.length := by have : (k : Int) < (l.length : Int) := of_decide_eq_true hd
                                   omega
      have hg : l.getD (Int.toNat (k : Int)) (dflt .ent) = l[k] := by rw [Int.toNat_natCast, List.getD_eq_getElem?_getD, List.getElem?_eq_getElem hd]; rfl
      refine And.intro ⟨by omega, by omega⟩ ?_
      intro hm
      refine And.intro (fun hq => ?_) (fun hq => ?_)
      · have hq : m.length ≤ k := by have : (m.length : Int) ≤ (k : Int) := of_decide_eq_true hq
                                     omega
        rw [cmpE_short hd hq] at he
        exact congrArg (AV.i .i64) he.symm
      · have hq : k < m.length := by have : ¬ (m.length : Int) ≤ (k : Int) := of_decide_eq_false hq
                                     omega
        have hgm : m.getD (Int.toNat (k : Int)) (dflt .ent) = m[k] := by rw [Int.toNat_natCast, List.getD_eq_getElem?_getD, List.getElem?_eq_getElem hq]; rfl
        refine And.intro ⟨by omega, by omega⟩ ?_
        have hs := hc l[k] (List.getElem_mem hd) m[k] (List.getElem_mem hq)
        rw [← hg, ← hgm] at hs
        refine Or.inl (Exists.intro _ (And.intro (hs) ?_))
        rw [hg, hgm]
        rw [cmpE_drop hd hq] at he
        refine And.intro (fun hz => ?_) (fun hz => ?_)
        · have hz : cmpP l[k] m[k] ≠ 0 := by simpa using hz
          rw [orI_ne hz] at he
          exact congrArg (AV.i .i64) he.symm
        · have hz : cmpP l[k] m[k] = 0 := by simpa using hz
          rw [hz, orI_zero] at he
          have := len_le hl
          (refine And.intro (rng64 (by omega) (by omega)) ?_)
          refine Exists.intro [] (Exists.intro (k + 1) (And.intro ⟨hd, hq, he⟩ (And.intro ?_ ?_)))
          · (repeat' (first | exact trivial | exact Or.inl rfl | exact Or.inr (Or.inl ⟨rfl, _, rfl⟩) | exact Or.inr (Or.inr (Or.inr ⟨_, _, _, rfl, rfl⟩)) | refine And.intro ?_ ?_))
          · show l.length - (k + 1) < l.length - k
            omega
    · have hd : k = l.length := by have : ¬ (k : Int) < (l.length : Int) := of_decide_eq_false hd
                                   omega
      subst hd
      intro _
      intro hm
      refine And.intro (fun hq => ?_) (fun hq => ?_)
      · have hq : l.length < m.length := by have : (l.length : Int) < (m.length : Int) := of_decide_eq_true hq
                                            omega
        rw [cmpE_long (Nat.le_refl _) hq] at he
        exact congrArg (AV.i .i64) he.symm
      · have hq : m.length ≤ l.length := by have : ¬ (l.length : Int) < (m.length : Int) := of_decide_eq_false hq
                                            omega
        rw [cmpE_end (Nat.le_refl _) hq] at he
        exact congrArg (AV.i .i64) he.symm
theorem s_cfE (l m : List (Str × Val)) (hc : ∀ x ∈ l, ∀ y ∈ m, PSpec Tryd.prog 174 [.agg (enc .ent x), .agg (enc .ent y)] (.i .i64 (cmpP x y))) : PSpec Tryd.prog 173 [.rd .ent l, .rd .ent m, .fn 174 []] (.i .i64 (cmpE l m)) :=
  pspec_of_vc Γ_good Tryd.func173 rfl Tryd.call173 Tryd.results173 Tryd.ntmps173 (Nat.le_of_ble_eq_true rfl) (w_cfE l m hc)
theorem w_cmp1 (p q : Str × Val) (hc : PSpec Tryd.prog 104 [.agg (encVal p.2), .agg (encVal q.2)] (.i .i64 (cmpV p.2 q.2))) : vc Tryd.prog Γ 17 [2, 3, 4] (Tryd.f174.body.getD .skip) (postK Γ [.tmp 4] (fun v => v = .i .i64 (cmpP p q))) ⟨argSlots 0 [.agg (enc .ent p), .agg (enc .ent q)], []⟩ := by
  refine Exists.intro [.blk [0, 1, 2, 3, 4, 5, 6, 7, 8, 9, 10, 11, 12] [15]] (And.intro (by kernel_rfl) ?_)
  refine Exists.intro _ (And.intro (s_cmpStr p.1 q.1) ?_)
  refine Exists.intro _ (And.intro (hc) ?_)
  refine Exists.intro _ (And.intro (s_or [cmpS p.1 q.1, cmpV p.2 q.2]) ?_)
  refine congrArg (AV.i .i64) ?_
  rw [cmpP_eq]
  simp only [firstN, orI_right]
theorem s_cmp1 (p q : Str × Val) (hc : PSpec Tryd.prog 104 [.agg (encVal p.2), .agg (encVal q.2)] (.i .i64 (cmpV p.2 q.2))) : PSpec Tryd.prog 174 [.agg (enc .ent p), .agg (enc .ent q)] (.i .i64 (cmpP p q)) :=
  pspec_of_vc Γ_good Tryd.func174 rfl Tryd.call174 Tryd.results174 Tryd.ntmps174 (Nat.le_of_ble_eq_true rfl) (w_cmp1 p q hc)
theorem w_cmpr (a b : Val) (h0 : 0 ≤ a.f ∧ a.f ≤ 18446744073709551615) (h1 : 0 ≤ b.f ∧ b.f ≤ 18446744073709551615) (hc : ∀ x ∈ a.l, ∀ y ∈ b.l, PSpec Tryd.prog 104 [.agg (encVal x), .agg (encVal y)] (.i .i64 (cmpV x y))) (he : ∀ x ∈ a.e, ∀ y ∈ b.e, PSpec Tryd.prog 174 [.agg (enc .ent x), .agg (enc .ent y)] (.i .i64 (cmpP x y))) : vc Tryd.prog Γ 39 [2, 3, 4] (Tryd.f104.body.getD .skip) (postK Γ [.tmp 4] (fun v => v = .i .i64 (cmpV a b))) ⟨argSlots 0 [.agg (encVal a), .agg (encVal b)], []⟩ := by
  refine Exists.intro [.blk [0, 1, 2, 3, 4, 5, 6, 7, 8, 9, 10, 11, 12, 13, 14, 15, 16, 17, 18, 19, 20, 21, 22, 23, 24, 25, 26, 27, 28, 29, 30, 31, 32, 33, 34] [37]] (And.intro (by kernel_rfl) ?_)
  refine Exists.intro _ (And.intro (s_cmpI64 a.kind b.kind) ?_)
  refine Exists.intro _ (And.intro (s_cmpJ64 a.n b.n) ?_)
  refine Exists.intro _ (And.intro (s_rk a.f h0.1 h0.2) ?_)
  refine Exists.intro _ (And.intro (s_rk b.f h1.1 h1.2) ?_)
  refine Exists.intro _ (And.intro (s_cmpU64 (rank a.f) (rank b.f)) ?_)
  refine Exists.intro _ (And.intro (s_cmpStr a.s b.s) ?_)
  refine Exists.intro _ (And.intro (s_cfV a.l b.l hc) ?_)
  refine Exists.intro _ (And.intro (s_cfE a.e b.e he) ?_)
  refine Exists.intro _ (And.intro (s_or [cmpI a.kind b.kind, cmpI a.n b.n, cmpI (rank a.f) (rank b.f), cmpS a.s b.s, cmpL a.l b.l, cmpE a.e b.e]) ?_)
  refine congrArg (AV.i .i64) ?_
  rw [cmpV_eq]
  simp only [firstN, orI_right]
theorem s_cmpr (a b : Val) (h0 : 0 ≤ a.f ∧ a.f ≤ 18446744073709551615) (h1 : 0 ≤ b.f ∧ b.f ≤ 18446744073709551615) (hc : ∀ x ∈ a.l, ∀ y ∈ b.l, PSpec Tryd.prog 104 [.agg (encVal x), .agg (encVal y)] (.i .i64 (cmpV x y))) (he : ∀ x ∈ a.e, ∀ y ∈ b.e, PSpec Tryd.prog 174 [.agg (enc .ent x), .agg (enc .ent y)] (.i .i64 (cmpP x y))) : PSpec Tryd.prog 104 [.agg (encVal a), .agg (encVal b)] (.i .i64 (cmpV a b)) :=
  pspec_of_vc Γ_good Tryd.func104 rfl Tryd.call104 Tryd.results104 Tryd.ntmps104 (Nat.le_of_ble_eq_true rfl) (w_cmpr a b h0 h1 hc he)
theorem compare_spec : ∀ (n : Nat) (a b : Val), SizeOf.sizeOf a < n → VB a → VB b → PSpec Tryd.prog 104 [.agg (encVal a), .agg (encVal b)] (.i .i64 (cmpV a b)) := by
  intro n
  induction n with
  | zero => intro a b h; exact absurd h (Nat.not_lt_zero _)
  | succ n ih =>
    intro a b hs ha hb
    cases ha with
    | mk _ a1 a2 a3 a4 a5 =>
    cases hb with
    | mk _ b1 b2 b3 b4 b5 =>
      refine s_cmpr a b a3 b3 (fun x hx y hy => ih x y ?_ (a4 x hx) (b4 y hy)) (fun x hx y hy => s_cmp1 x y (ih x.2 y.2 ?_ (a5 x hx) (b5 y hy)))
      · have := val_sz_l hx; omega
      · have := val_sz_e hx; omega
theorem s_Compare (a b : Val) (ha : VB a) (hb : VB b) : PSpec Tryd.prog 104 [.agg (encVal a), .agg (encVal b)] (.i .i64 (cmpV a b)) :=
  compare_spec _ a b (Nat.lt_succ_self _) ha hb
end
end Go.Proofs.YtdcdmojbkmedpaaDoor
end
section
namespace Go.Proofs.YtdcdmojbkmedpaaDoor
set_option linter.unusedSectionVars false
set_option linter.unusedSimpArgs false
set_option linter.unusedVariables false
open Go Go.SX Go.Vl
set_option maxRecDepth 100000
set_option maxHeartbeats 0
def sg (t : Bool) : Int := if t = true then -1 else 1
theorem cmpI_ne {a b : Int} (h : a ≠ b) : cmpI a b = sg (decide (a < b)) := by
  unfold cmpI sg
  rw [if_neg h]
  simp
theorem cmpS_ne {a b : Str} (h : a ≠ b) : cmpS a b = sg (Op.bytesLess a b) := by
  unfold cmpS sg
  rw [if_neg h]
theorem bool_ne {a b : Bool} (h : (!(a == b)) = true) : a ≠ b := by simpa using h
theorem bool_eq {a b : Bool} (h : (!(a == b)) = false) : a = b := by simpa using h
theorem len_ne {m n : Nat} (h : (((m : Nat) : Int) != ((n : Nat) : Int)) = true) : m ≠ n := fun e => by subst e; simp at h
theorem len_eq {m n : Nat} (h : (((m : Nat) : Int) != ((n : Nat) : Int)) = false) : m = n := by
  have : (m : Int) = (n : Int) := by simpa using h
  omega
theorem sg_nz (t : Bool) : sg t ≠ 0 := by cases t <;> decide
theorem shr63z {f : Int} (h0 : 0 ≤ f) (h1 : f ≤ 18446744073709551615) : (f.fdiv (2 ^ min (Int.toNat 63) IntKind.u64.bits) == 0) = decide (f < 9223372036854775808) := by
  rw [show (2 : Int) ^ min (Int.toNat 63) IntKind.u64.bits = 9223372036854775808 from rfl, Int.fdiv_eq_ediv_of_nonneg _ (by decide)]
  rw [Bool.eq_iff_iff, beq_iff_eq, decide_eq_true_eq]
  omega
theorem rank_low {a b : Int} (ha : 0 ≤ a ∧ a ≤ 18446744073709551615) (hb : 0 ≤ b ∧ b ≤ 18446744073709551615) (h : decide (a < 9223372036854775808) ≠ decide (b < 9223372036854775808)) : cmpI (rank a) (rank b) = sg (decide (b < 9223372036854775808)) := by
  by_cases h1 : a < 9223372036854775808 <;> by_cases h2 : b < 9223372036854775808
  · simp [h1, h2] at h
  · rw [decide_eq_false h2, rank, rank, if_pos h1, if_neg h2, cmpI_ne (by omega), decide_eq_false (by omega)]
  · rw [decide_eq_true h2, rank, rank, if_neg h1, if_pos h2, cmpI_ne (by omega), decide_eq_true (by omega)]
  · simp [h1, h2] at h
theorem rank_high {a b : Int} (ha : 0 ≤ a ∧ a ≤ 18446744073709551615) (hb : 0 ≤ b ∧ b ≤ 18446744073709551615) (hne : a ≠ b) (h : decide (a < 9223372036854775808) = decide (b < 9223372036854775808)) : cmpI (rank a) (rank b) = sg (decide (a < b) == decide (a < 9223372036854775808)) := by
  by_cases h1 : a < 9223372036854775808 <;> by_cases h2 : b < 9223372036854775808
  · rw [rank, rank, if_pos h1, if_pos h2, cmpI_ne (by omega), decide_eq_true h1]
    congr 1
    by_cases h3 : a < b
    · rw [decide_eq_true h3, decide_eq_true (by omega)]; rfl
    · rw [decide_eq_false h3, decide_eq_false (by omega)]; rfl
  · simp [h1, h2] at h
  · simp [h1, h2] at h
  · rw [rank, rank, if_neg h1, if_neg h2, cmpI_ne (by omega), decide_eq_false h1]
    congr 1
    by_cases h3 : a < b
    · rw [decide_eq_true h3, decide_eq_false (by omega)]; rfl
    · rw [decide_eq_false h3, decide_eq_true (by omega)]; rfl
section
variable [G : Globs]
theorem w_sgn (t : Bool) : vc Tryd.prog Γ 4 [0, 2, 3] (Tryd.f127.body.getD .skip) (postK Γ [.tmp 2] (fun v => v = .i .i64 (sg t))) ⟨argSlots 0 [.b t], []⟩ := by
  refine And.intro (fun h => ?_) (fun h => ?_)
  · have h : t = true := h
    subst h
    rfl
  · have h : t = false := h
    subst h
    rfl
theorem s_sgn (t : Bool) : PSpec Tryd.prog 127 [.b t] (.i .i64 (sg t)) :=
  pspec_of_vc Γ_good Tryd.func127 rfl Tryd.call127 Tryd.results127 Tryd.ntmps127 (Nat.le_of_ble_eq_true rfl) (w_sgn t)
theorem w_besd (a b : Val) (h0 : 0 ≤ a.f ∧ a.f ≤ 18446744073709551615) (h1 : 0 ≤ b.f ∧ b.f ≤ 18446744073709551615) (hc : ∀ x ∈ a.l, ∀ y ∈ b.l, PSpec Tryd.prog 58 [.agg (encVal x), .agg (encVal y)] (.i .i64 (cmpV x y))) (hp : ∀ x ∈ a.e, ∀ y ∈ b.e, PSpec Tryd.prog 58 [.agg (encVal x.2), .agg (encVal y.2)] (.i .i64 (cmpV x.2 y.2))) : VCs Tryd.prog Γ 185 [2, 3, 4, 5, 6, 7, 8, 9, 10, 15, 26, 37, 48, 63, 81, 96, 104, 124, 139, 168, 176] (Tryd.f58.body.getD .skip) (postK Γ [.tmp 4] (fun v => v = .i .i64 (cmpV a b))) ⟨argSlots 0 [.agg (encVal a), .agg (encVal b)], []⟩ := by
  refine VCs.seq (by first | exact Γ_good | exact Ctx.good_kp Γ_good _) ?_
  refine VCs.seq (by first | exact Γ_good | exact Ctx.good_kp Γ_good _) ?_
  refine And.intro (fun hk => ?_) (fun hk => ?_)
  · have hk : a.kind ≠ b.kind := by simpa using hk
    refine Or.inl (Exists.intro _ (And.intro (s_sgn (decide (a.kind < b.kind))) ?_))
    refine congrArg (AV.i .i64) ?_
    rw [cmpV_eq, cmpI_ne hk, orI_ne (sg_nz _)]
  have hk : a.kind = b.kind := by simpa using hk
  refine VCs.seq (by first | exact Γ_good | exact Ctx.good_kp Γ_good _) ?_
  refine And.intro (fun hn => ?_) (fun hn => ?_)
  · have hn : a.n ≠ b.n := by simpa using hn
    refine Or.inl (Exists.intro _ (And.intro (s_sgn (decide (a.n < b.n))) ?_))
    refine congrArg (AV.i .i64) ?_
    rw [cmpV_eq, hk, cmpI_self, orI_zero, cmpI_ne hn, orI_ne (sg_nz _)]
  have hn : a.n = b.n := by simpa using hn
  refine VCs.seq (by first | exact Γ_good | exact Ctx.good_kp Γ_good _) ?_
  refine And.intro (fun hf => ?_) (fun hf => ?_)
  · have hf : a.f ≠ b.f := by simpa using hf
    refine Exists.intro [.blk [0, 1, 2, 3, 4, 5, 6, 7, 8, 9]] (And.intro (by kernel_rfl) ?_)
    refine And.intro (by decide) ?_
    refine And.intro (by decide) ?_
    refine And.intro (fun hd => ?_) (fun hd => ?_)
    · have hd := bool_ne hd
      rw [shr63z h0.1 h0.2, shr63z h1.1 h1.2] at hd
      refine Or.inl (Exists.intro _ (And.intro (s_sgn (b.f.fdiv (2 ^ min (Int.toNat 63) IntKind.u64.bits) == 0)) ?_))
      refine congrArg (AV.i .i64) ?_
      rw [shr63z h1.1 h1.2, cmpV_eq, hk, cmpI_self, orI_zero, hn, cmpI_self, orI_zero, rank_low h0 h1 hd, orI_ne (sg_nz _)]
    · have hd := bool_eq hd
      rw [shr63z h0.1 h0.2, shr63z h1.1 h1.2] at hd
      refine Or.inl (Exists.intro _ (And.intro (s_sgn (decide (a.f < b.f) == (a.f.fdiv (2 ^ min (Int.toNat 63) IntKind.u64.bits) == 0))) ?_))
      refine congrArg (AV.i .i64) ?_
      rw [shr63z h0.1 h0.2, cmpV_eq, hk, cmpI_self, orI_zero, hn, cmpI_self, orI_zero, rank_high h0 h1 hf hd, orI_ne (sg_nz _)]
  have hf : a.f = b.f := by simpa using hf
  refine VCs.seq (by first | exact Γ_good | exact Ctx.good_kp Γ_good _) ?_
  refine And.intro (fun hs => ?_) (fun hs => ?_)
  · have hs : a.s ≠ b.s := by simpa using hs
    refine Or.inl (Exists.intro _ (And.intro (s_sgn (Op.bytesLess a.s b.s)) ?_))
    refine congrArg (AV.i .i64) ?_
    rw [cmpV_eq, hk, cmpI_self, orI_zero, hn, cmpI_self, orI_zero, hf, cmpI_self, orI_zero, cmpS_ne hs, orI_ne (sg_nz _)]
  have hs : a.s = b.s := by simpa using hs
  have hr : cmpV a b = orI (cmpL a.l b.l) (cmpE a.e b.e) := by rw [cmpV_eq, hk, cmpI_self, orI_zero, hn, cmpI_self, orI_zero, hf, cmpI_self, orI_zero, hs, cmpS_self, orI_zero]
  refine VCs.cut (by first | exact Γ_good | exact Ctx.good_kp Γ_good _) Unit (fun _ => ∃ k, cmpL a.l b.l = cmpL (a.l.drop k) (b.l.drop k) ∧ ((k = a.l.length ∧ k ≤ b.l.length) ∨ (k = b.l.length ∧ k ≤ a.l.length))) (fun _ => ⟨[(2, .pt 2 0), (3, .pt 3 0)], [(2, encVal a), (3, encVal b)]⟩) ?_ ?_
  · refine Exists.intro [] (Exists.intro [] (Exists.intro [] (Exists.intro Nat (Exists.intro (fun k => k ≤ a.l.length ∧ k ≤ b.l.length ∧ cmpL a.l b.l = cmpL (a.l.drop k) (b.l.drop k)) (Exists.intro (fun k => ⟨[(2, .pt 2 0), (3, .pt 3 0), (7, .i .i64 k)], [(2, encVal a), (3, encVal b)]⟩) (Exists.intro (fun k => a.l.length - k) (Exists.intro 0 (And.intro ⟨Nat.zero_le _, Nat.zero_le _, rfl⟩ (And.intro ?_ ?_)))))))))
    · (repeat' (first | exact trivial | exact Or.inl rfl | exact Or.inr (Or.inl ⟨rfl, _, rfl⟩) | exact Or.inr (Or.inr (Or.inr ⟨_, _, _, rfl, rfl⟩)) | refine And.intro ?_ ?_))
    · rintro k ⟨hka, hkb, he⟩
      intro hla
      refine And.intro (fun hc1 => ?_) (fun hc1 => ?_)
      · have hc1 : k < a.l.length := by have : (k : Int) < (a.l.length : Int) := of_decide_eq_true hc1
                                        omega
        intro _
        refine And.intro (fun hc2 => ?_) (fun hc2 => ?_)
        · have hc2 : k < b.l.length := by have : (k : Int) < (b.l.length : Int) := of_decide_eq_true hc2
                                          omega
          have hg : a.l.getD (Int.toNat (k : Int)) (dflt .val) = a.l[k] := by rw [Int.toNat_natCast, List.getD_eq_getElem?_getD, List.getElem?_eq_getElem hc1]; rfl
          have hgb : b.l.getD (Int.toNat (k : Int)) (dflt .val) = b.l[k] := by rw [Int.toNat_natCast, List.getD_eq_getElem?_getD, List.getElem?_eq_getElem hc2]; rfl
          have hcall := hc a.l[k] (List.getElem_mem hc1) b.l[k] (List.getElem_mem hc2)
          rw [← hg, ← hgb] at hcall
          refine Exists.intro [.blk [0, 1, 2, 3, 4, 5, 6, 7, 8, 9, 10, 11]] (And.intro (by kernel_rfl) ?_)
          refine And.intro ⟨by omega, by omega⟩ ?_
          refine And.intro ⟨by omega, by omega⟩ ?_
          refine Exists.intro _ (And.intro (hcall) ?_)
          rw [hg, hgb]
          rw [cmpL_drop hc1 hc2] at he
          refine And.intro (fun hz => ?_) (fun hz => ?_)
          · have hz : cmpV a.l[k] b.l[k] ≠ 0 := by simpa using hz
            rw [orI_ne hz] at he
            refine congrArg (AV.i .i64) ?_
            rw [hr, he, orI_ne hz]
          · have hz : cmpV a.l[k] b.l[k] = 0 := by simpa using hz
            rw [hz, orI_zero] at he
            have := len_le hla
            (refine And.intro (rng64 (by omega) (by omega)) ?_)
            refine Exists.intro [] (Exists.intro (k + 1) (And.intro ⟨hc1, hc2, he⟩ (And.intro ?_ ?_)))
            · (repeat' (first | exact trivial | exact Or.inl rfl | exact Or.inr (Or.inl ⟨rfl, _, rfl⟩) | exact Or.inr (Or.inr (Or.inr ⟨_, _, _, rfl, rfl⟩)) | refine And.intro ?_ ?_))
            · show a.l.length - (k + 1) < a.l.length - k
              omega
        · have hc2 : k = b.l.length := by have : ¬ (k : Int) < (b.l.length : Int) := of_decide_eq_false hc2
                                          omega
          refine Exists.intro () (And.intro ⟨k, he, .inr ⟨hc2, hka⟩⟩ ?_)
          (repeat' (first | exact trivial | exact Or.inl rfl | exact Or.inr (Or.inl ⟨rfl, _, rfl⟩) | exact Or.inr (Or.inr (Or.inr ⟨_, _, _, rfl, rfl⟩)) | refine And.intro ?_ ?_))
      · have hc1 : k = a.l.length := by have : ¬ (k : Int) < (a.l.length : Int) := of_decide_eq_false hc1
                                        omega
        refine And.intro (fun h9 => Bool.noConfusion h9) (fun _ => ?_)
        refine Exists.intro () (And.intro ⟨k, he, .inl ⟨hc1, hkb⟩⟩ ?_)
        (repeat' (first | exact trivial | exact Or.inl rfl | exact Or.inr (Or.inl ⟨rfl, _, rfl⟩) | exact Or.inr (Or.inr (Or.inr ⟨_, _, _, rfl, rfl⟩)) | refine And.intro ?_ ?_))
  rintro _ ⟨k, he, hk2⟩
  refine VCs.seq (by first | exact Γ_good | exact Ctx.good_kp Γ_good _) ?_
  intro hla
  intro hlb
  refine And.intro (fun hz => ?_) (fun hz => ?_)
  · have hz : a.l.length ≠ b.l.length := len_ne hz
    intro _
    intro _
    refine Or.inl (Exists.intro _ (And.intro (s_sgn (decide ((a.l.length : Int) < (b.l.length : Int)))) ?_))
    refine congrArg (AV.i .i64) ?_
    rcases hk2 with ⟨h2, h3⟩ | ⟨h2, h3⟩
    · rw [cmpL_long (by omega) (by omega)] at he
      rw [hr, he, decide_eq_true (by omega)]
      rfl
    · rw [cmpL_short (by omega) (by omega)] at he
      rw [hr, he, decide_eq_false (by omega)]
      rfl
  have hz : a.l.length = b.l.length := len_eq hz
  have hr : cmpV a b = cmpE a.e b.e := by rw [hr, he, cmpL_end (by omega) (by omega), orI_zero]
  clear he hk2 k
  refine VCs.cut (by first | exact Γ_good | exact Ctx.good_kp Γ_good _) Unit (fun _ => ∃ k, cmpE a.e b.e = cmpE (a.e.drop k) (b.e.drop k) ∧ ((k = a.e.length ∧ k ≤ b.e.length) ∨ (k = b.e.length ∧ k ≤ a.e.length))) (fun _ => ⟨[(2, .pt 2 0), (3, .pt 3 0)], [(2, encVal a), (3, encVal b)]⟩) ?_ ?_
  · refine Exists.intro [] (Exists.intro [] (Exists.intro [] (Exists.intro Nat (Exists.intro (fun k => k ≤ a.e.length ∧ k ≤ b.e.length ∧ cmpE a.e b.e = cmpE (a.e.drop k) (b.e.drop k)) (Exists.intro (fun k => ⟨[(2, .pt 2 0), (3, .pt 3 0), (9, .i .i64 k)], [(2, encVal a), (3, encVal b)]⟩) (Exists.intro (fun k => a.e.length - k) (Exists.intro 0 (And.intro ⟨Nat.zero_le _, Nat.zero_le _, rfl⟩ (And.intro ?_ ?_)))))))))
    · (repeat' (first | exact trivial | exact Or.inl rfl | exact Or.inr (Or.inl ⟨rfl, _, rfl⟩) | exact Or.inr (Or.inr (Or.inr ⟨_, _, _, rfl, rfl⟩)) | refine And.intro ?_ ?_))
    · rintro k ⟨hka, hkb, he⟩
      intro hla
      refine And.intro (fun hc1 => ?_) (fun hc1 => ?_)
      · have hc1 : k < a.e.length := by have : (k : Int) < (a.e.length : Int) := of_decide_eq_true hc1
                                        omega
        intro _
        refine And.intro (fun hc2 => ?_) (fun hc2 => ?_)
        · have hc2 : k < b.e.length := by have : (k : Int) < (b.e.length : Int) := of_decide_eq_true hc2
                                          omega
          have hg : a.e.getD (Int.toNat (k : Int)) (dflt .ent) = a.e[k] := by rw [Int.toNat_natCast, List.getD_eq_getElem?_getD, List.getElem?_eq_getElem hc1]; rfl
          have hgb : b.e.getD (Int.toNat (k : Int)) (dflt .ent) = b.e[k] := by rw [Int.toNat_natCast, List.getD_eq_getElem?_getD, List.getElem?_eq_getElem hc2]; rfl
          have hcall := hp a.e[k] (List.getElem_mem hc1) b.e[k] (List.getElem_mem hc2)
          rw [← hg, ← hgb] at hcall
          refine Exists.intro [.blk [0, 1, 2, 3, 4, 5, 6, 7, 8, 9, 10, 11, 12]] (And.intro (by kernel_rfl) ?_)
          refine And.intro ⟨by omega, by omega⟩ ?_
          refine And.intro ⟨by omega, by omega⟩ ?_
          rw [cmpE_drop hc1 hc2, cmpP_eq] at he
          refine And.intro (fun hq => ?_) (fun hq => ?_)
          · have hq : a.e[k].1 ≠ b.e[k].1 := by rw [hg, hgb] at hq; simpa using hq
            refine Exists.intro [.blk [0, 1, 2, 3, 4, 5, 6, 7, 8, 9, 10, 11, 12, 13, 14]] (And.intro (by kernel_rfl) ?_)
            refine And.intro ⟨by omega, by omega⟩ ?_
            refine And.intro ⟨by omega, by omega⟩ ?_
            refine Exists.intro _ (And.intro (s_sgn (Op.bytesLess (a.e.getD (Int.toNat (k : Int)) (dflt .ent)).1 (b.e.getD (Int.toNat (k : Int)) (dflt .ent)).1)) ?_)
            refine congrArg (AV.i .i64) ?_
            rw [hg, hgb, hr, he, cmpS_ne hq, orI_ne (sg_nz _), orI_ne (sg_nz _)]
          · have hq : a.e[k].1 = b.e[k].1 := by rw [hg, hgb] at hq; simpa using hq
            rw [hq, cmpS_self, orI_zero] at he
            refine Exists.intro [.blk [0, 1, 2, 3, 4, 5, 6, 7, 8, 9, 10, 11, 12, 13]] (And.intro (by kernel_rfl) ?_)
            refine And.intro ⟨by omega, by omega⟩ ?_
            refine And.intro ⟨by omega, by omega⟩ ?_
            refine Exists.intro _ (And.intro (hcall) ?_)
            rw [hg, hgb]
            refine And.intro (fun hz => ?_) (fun hz => ?_)
            · have hz : cmpV a.e[k].2 b.e[k].2 ≠ 0 := by simpa using hz
              rw [orI_ne hz] at he
              refine congrArg (AV.i .i64) ?_
              rw [hr, he]
            · have hz : cmpV a.e[k].2 b.e[k].2 = 0 := by simpa using hz
              rw [hz, orI_zero] at he
              have := len_le hla
              (refine And.intro (rng64 (by omega) (by omega)) ?_)
              refine Exists.intro [] (Exists.intro (k + 1) (And.intro ⟨hc1, hc2, he⟩ (And.intro ?_ ?_)))
              · (repeat' (first | exact trivial | exact Or.inl rfl | exact Or.inr (Or.inl ⟨rfl, _, rfl⟩) | exact Or.inr (Or.inr (Or.inr ⟨_, _, _, rfl, rfl⟩)) | refine And.intro ?_ ?_))
              · show a.e.length - (k + 1) < a.e.length - k
                omega
        · have hc2 : k = b.e.length := by have : ¬ (k : Int) < (b.e.length : Int) := of_decide_eq_false hc2
                                          omega
          refine Exists.intro () (And.intro ⟨k, he, .inr ⟨hc2, hka⟩⟩ ?_)
          (repeat' (first | exact trivial | exact Or.inl rfl | exact Or.inr (Or.inl ⟨rfl, _, rfl⟩) | exact Or.inr (Or.inr (Or.inr ⟨_, _, _, rfl, rfl⟩)) | refine And.intro ?_ ?_))
      · have hc1 : k = a.e.length := by have : ¬ (k : Int) < (a.e.length : Int) := of_decide_eq_false hc1
                                        omega
        refine And.intro (fun h9 => Bool.noConfusion h9) (fun _ => ?_)
        refine Exists.intro () (And.intro ⟨k, he, .inl ⟨hc1, hkb⟩⟩ ?_)
        (repeat' (first | exact trivial | exact Or.inl rfl | exact Or.inr (Or.inl ⟨rfl, _, rfl⟩) | exact Or.inr (Or.inr (Or.inr ⟨_, _, _, rfl, rfl⟩)) | refine And.intro ?_ ?_))
  rintro _ ⟨k, he, hk2⟩
  refine VCs.of_vc (by first | exact Γ_good | exact Ctx.good_kp Γ_good _) ?_
  intro hla
  intro hlb
  refine And.intro (fun hz => ?_) (fun hz => ?_)
  · have hz : a.e.length ≠ b.e.length := len_ne hz
    intro _
    intro _
    refine Or.inl (Exists.intro _ (And.intro (s_sgn (decide ((a.e.length : Int) < (b.e.length : Int)))) ?_))
    refine congrArg (AV.i .i64) ?_
    rcases hk2 with ⟨h2, h3⟩ | ⟨h2, h3⟩
    · rw [cmpE_long (by omega) (by omega)] at he
      rw [hr, he, decide_eq_true (by omega)]
      rfl
    · rw [cmpE_short (by omega) (by omega)] at he
      rw [hr, he, decide_eq_false (by omega)]
      rfl
  · have hz : a.e.length = b.e.length := len_eq hz
    refine congrArg (AV.i .i64) ?_
    rw [hr, he, cmpE_end (by omega) (by omega)]
theorem s_besd (a b : Val) (h0 : 0 ≤ a.f ∧ a.f ≤ 18446744073709551615) (h1 : 0 ≤ b.f ∧ b.f ≤ 18446744073709551615) (hc : ∀ x ∈ a.l, ∀ y ∈ b.l, PSpec Tryd.prog 58 [.agg (encVal x), .agg (encVal y)] (.i .i64 (cmpV x y))) (hp : ∀ x ∈ a.e, ∀ y ∈ b.e, PSpec Tryd.prog 58 [.agg (encVal x.2), .agg (encVal y.2)] (.i .i64 (cmpV x.2 y.2))) : PSpec Tryd.prog 58 [.agg (encVal a), .agg (encVal b)] (.i .i64 (cmpV a b)) :=
  pspec_of_VCs Γ_good Tryd.func58 rfl Tryd.call58 Tryd.results58 Tryd.ntmps58 (Nat.le_of_ble_eq_true rfl) (w_besd a b h0 h1 hc hp) Γ_good
theorem beside_spec : ∀ (n : Nat) (a b : Val), SizeOf.sizeOf a < n → VB a → VB b → PSpec Tryd.prog 58 [.agg (encVal a), .agg (encVal b)] (.i .i64 (cmpV a b)) := by
  intro n
  induction n with
  | zero => intro a b h; exact absurd h (Nat.not_lt_zero _)
  | succ n ih =>
    intro a b hs ha hb
    cases ha with
    | mk _ a1 a2 a3 a4 a5 =>
    cases hb with
    | mk _ b1 b2 b3 b4 b5 =>
      refine s_besd a b a3 b3 (fun x hx y hy => ih x y ?_ (a4 x hx) (b4 y hy)) (fun x hx y hy => ih x.2 y.2 ?_ (a5 x hx) (b5 y hy))
      · have := val_sz_l hx; omega
      · have := val_sz_e hx; omega
theorem s_Beside (a b : Val) (ha : VB a) (hb : VB b) : PSpec Tryd.prog 58 [.agg (encVal a), .agg (encVal b)] (.i .i64 (cmpV a b)) :=
  beside_spec _ a b (Nat.lt_succ_self _) ha hb
end
end Go.Proofs.YtdcdmojbkmedpaaDoor
end
section
namespace Go.Proofs.YtdcdmojbkmedpaaDoor
set_option linter.unusedSectionVars false
set_option linter.unusedSimpArgs false
set_option linter.unusedVariables false
open Go Go.SX Go.Vl
set_option maxRecDepth 100000
set_option maxHeartbeats 0
section
variable [G : Globs]
theorem w_same (a b : Val) (ha : VB a) (hb : VB b) : vc Tryd.prog Γ 9 [2, 3, 4] (Tryd.f14.body.getD .skip) (postK Γ [.tmp 4] (fun v => v = .b (decide (cmpV a b = 0)))) ⟨argSlots 0 [.agg (encVal a), .agg (encVal b)], []⟩ := by
  refine Or.inl (Exists.intro _ (And.intro (s_Beside a b ha hb) ?_))
  rfl
theorem s_same (a b : Val) (ha : VB a) (hb : VB b) : PSpec Tryd.prog 14 [.agg (encVal a), .agg (encVal b)] (.b (decide (cmpV a b = 0))) :=
  pspec_of_vc Γ_good Tryd.func14 rfl Tryd.call14 Tryd.results14 Tryd.ntmps14 (Nat.le_of_ble_eq_true rfl) (w_same a b ha hb)
theorem w_fnd1 (p : Ent) (k : Str) : vc Tryd.prog Γ 8 [1, 2, 3] (Tryd.f203.body.getD .skip) (postK Γ [.tmp 3] (fun v => v = .b (keyIs k p))) ⟨argSlots 0 [.agg (enc .ent p), .rp [.s k]], []⟩ := by
  rfl
theorem s_fnd1 (p : Ent) (k : Str) : PSpec Tryd.prog 203 [.agg (enc .ent p), .rp [.s k]] (.b (keyIs k p)) :=
  pspec_of_vc Γ_good Tryd.func203 rfl Tryd.call203 Tryd.results203 Tryd.ntmps203 (Nat.le_of_ble_eq_true rfl) (w_fnd1 p k)
theorem w_put1 (p : Ent) (k : Str) : vc Tryd.prog Γ 8 [1, 2, 3] (Tryd.f204.body.getD .skip) (postK Γ [.tmp 3] (fun v => v = .b (keyGt k p))) ⟨argSlots 0 [.agg (enc .ent p), .rp [.s k]], []⟩ := by
  rfl
theorem s_put1 (p : Ent) (k : Str) : PSpec Tryd.prog 204 [.agg (enc .ent p), .rp [.s k]] (.b (keyGt k p)) :=
  pspec_of_vc Γ_good Tryd.func204 rfl Tryd.call204 Tryd.results204 Tryd.ntmps204 (Nat.le_of_ble_eq_true rfl) (w_put1 p k)
theorem w_ixE (l : List Ent) (k : Str) (q : Ent → Bool) (f : Nat) (hq : ∀ x ∈ l, PSpec Tryd.prog f [.agg (enc .ent x), .rp [.s k]] (.b (q x))) : vc Tryd.prog Γ 19 [0, 1, 4, 5, 7, 8, 9, 16] (Tryd.f202.body.getD .skip) (postK Γ [.tmp 4] (fun v => v = .i .i64 (ixI l q))) ⟨argSlots 0 [.rd .ent l, .fn f [.rp [.s k]]], []⟩ := by
  intro hl
  refine Exists.intro [] (Exists.intro [] (Exists.intro [] (Exists.intro Nat (Exists.intro (fun i => i ≤ l.length ∧ i ≤ l.findIdx q) (Exists.intro (fun i => ⟨[(0, .rd .ent l), (1, .fn f [.rp [.s k]]), (7, .i .i64 l.length), (8, .i .i64 i)], []⟩) (Exists.intro (fun i => l.length - i) (Exists.intro 0 (And.intro ⟨Nat.zero_le _, Nat.zero_le _⟩ (And.intro ?_ ?_)))))))))
  · (repeat' (first | exact trivial | exact Or.inl rfl | exact Or.inr (Or.inl ⟨rfl, _, rfl⟩) | exact Or.inr (Or.inr (Or.inr ⟨_, _, _, rfl, rfl⟩)) | refine And.intro ?_ ?_))
  · rintro i ⟨hi, hf⟩
    refine And.intro (fun he => ?_) (fun he => ?_)
    · have hi : i < l.length := by have : (i : Int) < (l.length : Int) := of_decide_eq_true he
                                   omega
      have hg : l.getD (Int.toNat (i : Int)) (dflt .ent) = l[i] := by rw [Int.toNat_natCast, List.getD_eq_getElem?_getD, List.getElem?_eq_getElem hi]; rfl
      refine And.intro ⟨by omega, by omega⟩ ?_
      have hs := hq l[i] (List.getElem_mem hi)
      rw [← hg] at hs
      refine Or.inl (Exists.intro _ (And.intro (hs) ?_))
      rw [hg]
      refine And.intro (fun hz => ?_) (fun hz => ?_)
      · have hz : q l[i] = true := hz
        rw [ix_hit hi hf hz]
        rfl
      · have hz : q l[i] = false := hz
        have := len_le hl
        (refine And.intro (rng64 (by omega) (by omega)) ?_)
        refine Exists.intro [] (Exists.intro (i + 1) (And.intro ⟨hi, ix_miss hi hf hz⟩ (And.intro ?_ ?_)))
        · (repeat' (first | exact trivial | exact Or.inl rfl | exact Or.inr (Or.inl ⟨rfl, _, rfl⟩) | exact Or.inr (Or.inr (Or.inr ⟨_, _, _, rfl, rfl⟩)) | refine And.intro ?_ ?_))
        · show l.length - (i + 1) < l.length - i
          omega
    · have hi : i = l.length := by have : ¬ (i : Int) < (l.length : Int) := of_decide_eq_false he
                                   omega
      rw [ix_none (by omega)]
      rfl
theorem s_ixE (l : List Ent) (k : Str) (q : Ent → Bool) (f : Nat) (hq : ∀ x ∈ l, PSpec Tryd.prog f [.agg (enc .ent x), .rp [.s k]] (.b (q x))) : PSpec Tryd.prog 202 [.rd .ent l, .fn f [.rp [.s k]]] (.i .i64 (ixI l q)) :=
  pspec_of_vc Γ_good Tryd.func202 rfl Tryd.call202 Tryd.results202 Tryd.ntmps202 (Nat.le_of_ble_eq_true rfl) (w_ixE l k q f hq)
theorem w_find (l : List Ent) (k : Str) : vc Tryd.prog Γ 8 [0, 3, 4] (Tryd.f145.body.getD .skip) (postK Γ [.tmp 4] (fun v => v = .i .i64 (ixI l (keyIs k)))) ⟨argSlots 0 [.rd .ent l, .s k], []⟩ := by
  refine Or.inr (Or.inr (Or.inl (Exists.intro _ (And.intro (s_ixE l k (keyIs k) 203 (fun x _ => s_fnd1 x k)) ?_))))
  rfl
theorem s_find (l : List Ent) (k : Str) : PSpec Tryd.prog 145 [.rd .ent l, .s k] (.i .i64 (ixI l (keyIs k))) :=
  pspec_of_vc Γ_good Tryd.func145 rfl Tryd.call145 Tryd.results145 Tryd.ntmps145 (Nat.le_of_ble_eq_true rfl) (w_find l k)
theorem w_entAt (l : List Ent) (k : Str) : vc Tryd.prog Γ 20 [0, 1, 4, 5, 6, 7, 8, 9, 10, 17] (Tryd.f75.body.getD .skip) (postK Γ [.tmp 4] (fun v => v = .i .i64 (ixI l (keyIs k)))) ⟨argSlots 0 [.rd .ent l, .s k], []⟩ := by
  intro hl
  refine Exists.intro [] (Exists.intro [] (Exists.intro [] (Exists.intro Nat (Exists.intro (fun i => i ≤ l.length ∧ i ≤ l.findIdx (keyIs k)) (Exists.intro (fun i => ⟨[(1, .s k), (7, .rd .ent l), (8, .i .i64 l.length), (9, .i .i64 i)], []⟩) (Exists.intro (fun i => l.length - i) (Exists.intro 0 (And.intro ⟨Nat.zero_le _, Nat.zero_le _⟩ (And.intro ?_ ?_)))))))))
  · (repeat' (first | exact trivial | exact Or.inl rfl | exact Or.inr (Or.inl ⟨rfl, _, rfl⟩) | exact Or.inr (Or.inr (Or.inr ⟨_, _, _, rfl, rfl⟩)) | refine And.intro ?_ ?_))
  · rintro i ⟨hi, hf⟩
    refine And.intro (fun he => ?_) (fun he => ?_)
    · have hi : i < l.length := by have : (i : Int) < (l.length : Int) := of_decide_eq_true he
                                   omega
      have hg : l.getD (Int.toNat (i : Int)) (dflt .ent) = l[i] := by rw [Int.toNat_natCast, List.getD_eq_getElem?_getD, List.getElem?_eq_getElem hi]; rfl
      refine And.intro ⟨by omega, by omega⟩ ?_
      refine And.intro (fun hz => ?_) (fun hz => ?_)
      · have hz : keyIs k l[i] = true := by rw [← hg]; exact hz
        rw [ix_hit hi hf hz]
        rfl
      · have hz : keyIs k l[i] = false := by rw [← hg]; exact hz
        have := len_le hl
        (refine And.intro (rng64 (by omega) (by omega)) ?_)
        refine Exists.intro [] (Exists.intro (i + 1) (And.intro ⟨hi, ix_miss hi hf hz⟩ (And.intro ?_ ?_)))
        · (repeat' (first | exact trivial | exact Or.inl rfl | exact Or.inr (Or.inl ⟨rfl, _, rfl⟩) | exact Or.inr (Or.inr (Or.inr ⟨_, _, _, rfl, rfl⟩)) | refine And.intro ?_ ?_))
        · show l.length - (i + 1) < l.length - i
          omega
    · have hi : i = l.length := by have : ¬ (i : Int) < (l.length : Int) := of_decide_eq_false he
                                   omega
      rw [ix_none (by omega)]
      rfl
theorem s_entAt (l : List Ent) (k : Str) : PSpec Tryd.prog 75 [.rd .ent l, .s k] (.i .i64 (ixI l (keyIs k))) :=
  pspec_of_vc Γ_good Tryd.func75 rfl Tryd.call75 Tryd.results75 Tryd.ntmps75 (Nat.le_of_ble_eq_true rfl) (w_entAt l k)
theorem w_wout (l : List Ent) (k : Str) (hl1 : l.length ≤ 100000000) : vc Tryd.prog Γ 24 [0, 1, 4, 5, 7, 8, 9, 10, 11, 17] (Tryd.f152.body.getD .skip) (postK Γ [.tmp 4] (fun v => v = .rd .ent (withoutE l k))) ⟨argSlots 0 [.rd .ent l, .s k], []⟩ := by
  intro hl
  refine Exists.intro [(5, 5, .ent)] (Exists.intro [] (Exists.intro [] (Exists.intro Nat (Exists.intro (fun i => i ≤ l.length) (Exists.intro (fun i => ⟨[(1, .s k), (5, .vec 5 .ent (withoutE (l.take i) k)), (8, .rd .ent l), (9, .i .i64 l.length), (10, .i .i64 i)], []⟩) (Exists.intro (fun i => l.length - i) (Exists.intro 0 (And.intro (Nat.zero_le _) (And.intro ?_ ?_)))))))))
  · (repeat' (first | exact trivial | exact Or.inl rfl | exact Or.inr (Or.inl ⟨rfl, _, rfl⟩) | exact Or.inr (Or.inr (Or.inr ⟨_, _, _, rfl, rfl⟩)) | refine And.intro ?_ ?_))
  · rintro i hi
    refine And.intro (fun he => ?_) (fun he => ?_)
    · have hi : i < l.length := by have : (i : Int) < (l.length : Int) := of_decide_eq_true he
                                   omega
      have hg : l.getD (Int.toNat (i : Int)) (dflt .ent) = l[i] := by rw [Int.toNat_natCast, List.getD_eq_getElem?_getD, List.getElem?_eq_getElem hi]; rfl
      refine And.intro ⟨by omega, by omega⟩ ?_
      refine And.intro (fun hz => ?_) (fun hz => ?_)
      · have hz : keyIs k l[i] = false := by rw [← hg]; simpa [keyIs] using hz
        rw [hg]
        have hfl := filter_len (l := l) (k := k) (i := i)
        refine And.intro (show ((withoutE (l.take i) k).length + 1) * 104 ≤ 140737488355328 by omega) ?_
        (refine And.intro (rng64 (by omega) (by omega)) ?_)
        refine Exists.intro [(21, 5)] (Exists.intro (i + 1) (And.intro hi (And.intro ?_ ?_)))
        · have e : withoutE (l.take i) k ++ [(l[i].1, (⟨l[i].2.kind, l[i].2.n, l[i].2.f, l[i].2.s, l[i].2.l, l[i].2.e⟩ : Val))] = withoutE (l.take (i + 1)) k := by rw [val_eta]; exact (filter_next hi hz).symm
          (repeat' (first | exact trivial | exact Or.inl rfl | exact Or.inl ((congrArg (AV.vec 5 .ent) e)) | refine And.intro ?_ ?_))
        · show l.length - (i + 1) < l.length - i
          omega
      · have hz : keyIs k l[i] = true := by rw [← hg]; simpa [keyIs] using hz
        (refine And.intro (rng64 (by omega) (by omega)) ?_)
        refine Exists.intro [] (Exists.intro (i + 1) (And.intro hi (And.intro ?_ ?_)))
        · (repeat' (first | exact trivial | exact Or.inl rfl | exact Or.inl ((congrArg (AV.vec 5 .ent) (filter_skip hi hz).symm)) | refine And.intro ?_ ?_))
        · show l.length - (i + 1) < l.length - i
          omega
    · have hi : i = l.length := by have : ¬ (i : Int) < (l.length : Int) := of_decide_eq_false he
                                   omega
      subst hi
      rw [List.take_length]
      rfl
theorem s_wout (l : List Ent) (k : Str) (hl1 : l.length ≤ 100000000) : PSpec Tryd.prog 152 [.rd .ent l, .s k] (.rd .ent (withoutE l k)) :=
  pspec_of_vc Γ_good Tryd.func152 rfl Tryd.call152 Tryd.results152 Tryd.ntmps152 (Nat.le_of_ble_eq_true rfl) (w_wout l k hl1)
end
end Go.Proofs.YtdcdmojbkmedpaaDoor
end
section
namespace Go.SX
set_option linter.unusedSectionVars false
set_option linter.unusedVariables false
set_option linter.unusedSimpArgs false
variable [Globs]
open Go.RowKit Go.WideShapes Go.ChangeShapes Go.Deep
/-- no list of it, at whatever depth, is longer than n -/
inductive VN (n : Nat) : Val → Prop
  | mk (a : Val) : a.l.length ≤ n → a.e.length ≤ n → (∀ x ∈ a.l, VN n x) → (∀ p ∈ a.e, VN n p.2) → VN n a
theorem VN.mono {n m : Nat} (h : n ≤ m) {a : Val} (ha : VN n a) : VN m a := by
  induction ha with
  | mk a h1 h2 _ _ i1 i2 => exact .mk a (Nat.le_trans h1 h) (Nat.le_trans h2 h) i1 i2
/-- a measure of data by which a whole is no less than its parts -/
structure Bulk {H : Type} (bk : DataW H → Nat) : Prop where
  len : ∀ els rest, els.length ≤ bk (.slice els rest)
  el : ∀ els rest, ∀ d ∈ els, bk d ≤ bk (.slice els rest)
  part : ∀ ds, ∀ d ∈ ds, bk d ≤ bk (.agg ds)
section
variable {H : Type} {encH : TypeId × Value → H} {P : Program} {W : World} {sp : Nat → Bool} {hd : Bool} {O : Nat → Prop} {bk : DataW H → Nat}
/-- a slice, by its elements, which are read with less fuel -/
theorem arg_sliceB {t e : TypeId} {τ : Ty} {R : Nat → den τ → Prop} (hbk : Bulk bk) (hR : ∀ n m y, n ≤ m → R n y → R m y) (hO : ∀ k, ¬ O k) (ht : P.underlying t = some (.slice e)) (hc : P.cellsOf e = esz τ) {fuel : Nat}
    (hel : ∀ n, n < fuel → ∀ (cs : List Value) (x : DataW H × List MemPlace), DataW.trod encH P W 0 sp hd n e cs = some x → ∃ y : den τ, All2 (Im O W) (enc τ y) cs ∧ R (bk x.1) y)
    {cs : List Value} {x : DataW H × List MemPlace} (h : DataW.trod encH P W 0 sp hd fuel t cs = some x) : ∃ (l : List (den τ)) (v : Value), cs = [v] ∧ Im O W (.rd τ l) v ∧ l.length ≤ bk x.1 ∧ ∀ y ∈ l, R (bk x.1) y := by
  rcases DataW.trod_slice ht h with ⟨rfl, _⟩ | ⟨a, len, cap, elems, rest, n, rfl, rfl, rfl, hb, hlc, hcm, hlen, hall, _, _⟩
  · exact ⟨[], _, rfl, .rd0 τ none 0 (Nat.zero_le _), Nat.zero_le _, fun y hy => nomatch hy⟩
  by_cases h0 : len = 0
  · subst h0; exact ⟨[], _, rfl, .rd0 τ _ _ hcm, Nat.zero_le _, fun y hy => nomatch hy⟩
  have hall : ∀ i, i < len → ∃ (us : List Value) (y : DataW H × List MemPlace), W.cells? 0 (a.add (i * P.cellsOf e)) (P.cellsOf e) = some us ∧ DataW.trod encH P W 0 sp hd n e us = some y ∧ y ∈ elems := fun i hi => by
    have := hall i hi
    rw [List.getElem?_eq_getElem (by omega)] at this
    obtain ⟨us, h1, h2⟩ := Option.bind_eq_some_iff.1 this
    exact ⟨us, _, h1, h2, List.getElem_mem _⟩
  have hch : ∀ i, i < len → ∃ (y : den τ) (us : List Value), (All2 (Im O W) (enc τ y) us ∧ R (bk (DataW.slice (elems.map (·.1)) (rest.map (·.1)))) y) ∧ us.length = esz τ ∧ ∀ (j : Nat) v, us[j]? = some v → W.cell? ⟨a.block, a.off + (i * esz τ + j), none⟩ = some v := by
    intro i hi
    obtain ⟨us, yy, h1, h2, hm⟩ := hall i hi
    obtain ⟨y, hy⟩ := hel n (Nat.lt_succ_self n) _ _ h2
    replace hy := And.intro hy.1 (hR _ _ _ (hbk.el _ (rest.map (·.1)) yy.1 (List.mem_map.2 ⟨yy, hm, rfl⟩)) hy.2)
    rw [hc] at h1
    obtain ⟨h3, h4⟩ := cells_get h1
    refine ⟨y, us, hy, h3, fun j v hv => ?_⟩
    have h5 := h4 j v hv
    have hs : ∀ j v, us[j]? = some v → ((a.add (i * esz τ)).add j).spot = none := fun j v hv => World.cell?_spot (h4 j v hv)
    have hpos := esz_pos τ
    have h00 : (a.add (i * esz τ)).spot = none := by
      have := hs 0 (us[0]'(by omega)) (List.getElem?_eq_getElem _)
      simpa [Addr.add] using this
    have e1 := add_of h00
    rw [e1] at h5
    rw [add_none] at h5
    rw [← h5, Nat.add_assoc]
  have ys : ∃ l : List (den τ), l.length = len ∧ ∀ (i : Nat) y, l[i]? = some y → ∃ us : List Value, (All2 (Im O W) (enc τ y) us ∧ R (bk (DataW.slice (elems.map (·.1)) (rest.map (·.1)))) y) ∧ ∀ (j : Nat) v, us[j]? = some v → W.cell? ⟨a.block, a.off + (i * esz τ + j), none⟩ = some v := by
    have hch' := fun (i : Fin len) => hch i.1 i.2
    refine ⟨List.ofFn fun i : Fin len => Classical.choose (hch' i), by simp, fun i y hy => ?_⟩
    have hi : i < len := by have := (List.getElem?_eq_some_iff.1 hy).1; simpa using this
    rw [List.getElem?_ofFn, dif_pos hi] at hy
    injection hy with hy
    subst hy
    obtain ⟨us, h1, _, h2⟩ := Classical.choose_spec (hch' ⟨i, hi⟩)
    exact ⟨us, h1, h2⟩
  obtain ⟨l, hll, hl⟩ := ys
  refine ⟨l, _, rfl, ?_, by rw [hll, ← hlen]; exact Nat.le_trans (Nat.le_of_eq (List.length_map ..).symm) (hbk.len _ _), fun y hy => ?_⟩
  rotate_left
  · obtain ⟨i, hi, rfl⟩ := List.getElem_of_mem hy
    obtain ⟨us, h1, _⟩ := hl i _ (List.getElem?_eq_getElem hi)
    exact h1.2
  have hane : a = ⟨a.block, a.off, none⟩ := by
    obtain ⟨us', yy, h1, h2, _⟩ := hall 0 (by omega)
    have hpos := esz_pos τ
    rw [hc] at h1
    obtain ⟨h5, h6⟩ := cells_get h1
    have := World.cell?_spot (h6 0 (us'[0]'(by omega)) (List.getElem?_eq_getElem _))
    simp [Addr.add] at this
    obtain ⟨b, o, s⟩ := a
    simp only at this
    subst this
    rfl
  rw [hane, ← hll]
  refine .rd τ l a.block a.off cap (fun i j => (W.cell? ⟨a.block, a.off + (i * esz τ + j), none⟩).getD undef) (hO _) (by omega) hcm (fun e => h0 (by rw [← hll, e]; rfl)) (fun i y j av hy hav => ?_) (fun i y j av hy hav => ?_)
  · obtain ⟨us, h1, h2⟩ := hl i y hy
    have hj : j < us.length := by rw [← h1.1.1]; exact (List.getElem?_eq_some_iff.1 hav).1
    rw [h2 j _ (List.getElem?_eq_getElem hj)]; rfl
  · obtain ⟨us, h1, h2⟩ := hl i y hy
    have hj : j < us.length := by rw [← h1.1.1]; exact (List.getElem?_eq_some_iff.1 hav).1
    rw [h2 j _ (List.getElem?_eq_getElem hj)]
    exact h1.1.2 j av _ hav (List.getElem?_eq_getElem hj)
theorem one_fieldB {t : TypeId} {fs : Array Field} {fuel : Nat} {cs : List Value} {x : DataW H × List MemPlace} (hbk : Bulk bk) (ht : P.underlying t = some (.struct fs)) (h : DataW.trod encH P W 0 sp hd fuel t cs = some x) :
    ∃ n, fuel = n + 1 ∧ cs.length = P.cellsOf t ∧ ∀ (i off : Nat) (t' : TypeId), HasF fs i off t' → ∃ y, DataW.trod encH P W 0 sp hd n t' ((cs.drop off).take (P.cellsOf t')) = some y ∧ bk y.1 ≤ bk x.1 := by
  obtain ⟨xs, n, hn, rfl, h1, h2, h3⟩ := DataW.trod_struct ht h
  refine ⟨n, hn, h1, fun i off t' hf => ?_⟩
  obtain ⟨f, hf, rfl, rfl⟩ := hf
  have hi : i < xs.length := by rw [h2]; exact (Array.getElem?_eq_some_iff.1 hf).1
  rw [h3 i f hf, List.getElem?_eq_getElem hi]
  exact ⟨_, rfl, hbk.part _ _ (List.mem_map.2 ⟨xs[i], List.getElem_mem hi, rfl⟩)⟩
theorem arg_valB {V : TypeId} (hbk : Bulk bk) (T : VTy P V) (hO : ∀ k, ¬ O k) : ∀ (fuel : Nat) (cs : List Value) (x : DataW H × List MemPlace), DataW.trod encH P W 0 sp hd fuel V cs = some x → ∃ y : Val, All2 (Im O W) (encVal y) cs ∧ VB y ∧ VN (bk x.1) y := by
  intro fuel
  induction fuel using Nat.strongRecOn with
  | _ fuel ih =>
  intro cs x h
  obtain ⟨n, rfl, hl, hf⟩ := one_fieldB hbk T.hV h
  rw [T.cV] at hl
  obtain ⟨c0, c1, c2, c3, c4, c5⟩ := T.c
  match cs, hl with
  | [u0, u1, u2, u3, u4, u5], _ =>
    obtain ⟨_, q0, k0⟩ := hf 0 0 _ T.h0
    obtain ⟨_, q1, k1⟩ := hf 1 1 _ T.h1
    obtain ⟨_, q2, k2⟩ := hf 2 2 _ T.h2
    obtain ⟨_, q3, k3⟩ := hf 3 3 _ T.h3
    obtain ⟨_, q4, k4⟩ := hf 4 4 _ T.h4
    obtain ⟨_, q5, k5⟩ := hf 5 5 _ T.h5
    rw [c0] at q0
    rw [c1] at q1
    rw [c2] at q2
    rw [c3] at q3
    rw [c4] at q4
    rw [c5] at q5
    obtain ⟨k, e0, i0, w0⟩ := arg_int (O := O) T.uK q0
    obtain ⟨m, e1, i1, w1⟩ := arg_int (O := O) T.uN q1
    obtain ⟨f, e2, i2, w2⟩ := arg_int (O := O) T.uU q2
    obtain ⟨s, vs, e3, i3⟩ := arg_str (O := O) T.uS q3
    obtain ⟨l, vl, e4, i4, z4, r4⟩ := arg_sliceB (O := O) (τ := .val) (R := fun n y => VB y ∧ VN n y) hbk (fun _ _ _ hle hy => ⟨hy.1, hy.2.mono hle⟩) hO T.uL T.cV (fun n' hn cs' x' hx => ih n' (by omega) cs' x' hx) q4
    obtain ⟨es, ve, e5, i5, z5, r5⟩ := arg_sliceB (O := O) (τ := .ent) (R := fun n p => VB p.2 ∧ VN n p.2) hbk (fun _ _ _ hle hy => ⟨hy.1, hy.2.mono hle⟩) hO T.uE T.cE (fun n' hn cs' x' hx => by
      obtain ⟨n2, rfl, hl2, hf2⟩ := one_fieldB hbk T.hE hx
      rw [T.cE] at hl2
      match cs', hl2 with
      | [z0, z1, z2, z3, z4, z5, z6], _ =>
        obtain ⟨_, p0, m0⟩ := hf2 0 0 _ T.g0
        obtain ⟨_, p1, m1⟩ := hf2 1 1 _ T.g1
        rw [c3] at p0
        rw [T.cV] at p1
        obtain ⟨ks, kv, d0, j0⟩ := arg_str (O := O) T.uS p0
        obtain ⟨y, j1, hy⟩ := ih n2 (by omega) _ _ p1
        simp at d0
        subst d0
        exact ⟨(ks, y), All2.cons j0 (by simpa using j1), hy.1, hy.2.mono m1⟩) q5
    simp at e0 e1 e2 e3 e4 e5
    subst e0 e1 e2 e3 e4 e5
    exact ⟨⟨k, m, f, s, l, es⟩, All2.cons i0 (All2.cons i1 (All2.cons i2 (All2.cons i3 (All2.cons i4 (All2.cons i5 (All2.nil _)))))), .mk _ (wf_i64 w0) (wf_i64 w1) (wf_u64 w2) (fun x hx => (r4 x hx).1) (fun p hp => (r5 p hp).1), .mk _ (Nat.le_trans z4 k4) (Nat.le_trans z5 k5) (fun x hx => (r4 x hx).2.mono k4) (fun p hp => (r5 p hp).2.mono k5)⟩
theorem arg_entB {V : TypeId} (hbk : Bulk bk) (T : VTy P V) (hO : ∀ k, ¬ O k) {fuel : Nat} {cs : List Value} {x : DataW H × List MemPlace} (hx : DataW.trod encH P W 0 sp hd fuel T.En cs = some x) : ∃ p : Str × Val, All2 (Im O W) (enc .ent p) cs ∧ VB p.2 ∧ VN (bk x.1) p.2 := by
  obtain ⟨n2, rfl, hl2, hf2⟩ := one_fieldB hbk T.hE hx
  rw [T.cE] at hl2
  match cs, hl2 with
  | [z0, z1, z2, z3, z4, z5, z6], _ =>
    obtain ⟨_, p0, m0⟩ := hf2 0 0 _ T.g0
    obtain ⟨_, p1, m1⟩ := hf2 1 1 _ T.g1
    obtain ⟨c0, c1, c2, c3, c4, c5⟩ := T.c
    rw [c3] at p0
    rw [T.cV] at p1
    obtain ⟨ks, kv, d0, j0⟩ := arg_str (O := O) T.uS p0
    obtain ⟨y, j1, hy⟩ := arg_valB hbk T hO n2 _ _ p1
    simp at d0
    subst d0
    exact ⟨(ks, y), All2.cons j0 (by simpa using j1), hy.1, hy.2.mono m1⟩
end
end Go.SX
end
section
namespace Go.Proofs.YtdcdmojbkmedpaaDoor
set_option linter.unusedSectionVars false
set_option linter.unusedSimpArgs false
set_option linter.unusedVariables false
open Go Go.SX Go.Vl
set_option maxRecDepth 100000
set_option maxHeartbeats 0
section
variable [G : Globs]
theorem w_own (a : Val) (hl : a.l.length ≤ 100000000) (he : a.e.length ≤ 100000000) (hc : ∀ x ∈ a.l, PSpec Tryd.prog 76 [.agg (encVal x)] (.agg (encVal x))) (hp : ∀ x ∈ a.e, PSpec Tryd.prog 76 [.agg (encVal x.2)] (.agg (encVal x.2))) : vc Tryd.prog Γ 48 [1, 2, 3, 4, 6, 8, 15, 16, 17, 18, 29, 30, 31, 32] (Tryd.f76.body.getD .skip) (postK Γ [.cell 2 26] (fun v => v = .agg (encVal a))) ⟨argSlots 0 [.agg (encVal a)], []⟩ := by
  refine Exists.intro [.blk [0, 1, 2, 3, 4, 5]] (And.intro (by kernel_rfl) ?_)
  intro hml
  refine Exists.intro [] (Exists.intro [(1, 4, 47, .val)] (Exists.intro [] (Exists.intro Nat (Exists.intro (fun i => i ≤ a.l.length) (Exists.intro (fun i => ⟨[(1, .pt 1 0), (2, .pt 2 0), (4, .rd .ent a.e), (15, .rd .val a.l), (16, .i .i64 a.l.length), (17, .i .i64 i)], [(1, [.i .i64 a.kind, .i .i64 a.n, .i .u64 a.f, .s a.s, .vec 47 .val (a.l.take i), .nl]), (2, [.i .i64 0, .i .i64 0, .i .u64 0, .s [], .nl, .nl])]⟩) (Exists.intro (fun i => a.l.length - i) (Exists.intro 0 (And.intro (Nat.zero_le _) (And.intro ?_ ?_)))))))))
  · (repeat' (first | exact trivial | exact Or.inl rfl | exact Or.inr (Or.inl ⟨rfl, _, rfl⟩) | exact Or.inr (Or.inr (Or.inr ⟨_, _, _, rfl, rfl⟩)) | refine And.intro ?_ ?_))
  · rintro i hi
    refine And.intro (fun hz => ?_) (fun hz => ?_)
    · have hi : i < a.l.length := by have : (i : Int) < (a.l.length : Int) := of_decide_eq_true hz
                                     omega
      have hg : a.l.getD (Int.toNat (i : Int)) (dflt .val) = a.l[i] := by rw [Int.toNat_natCast, List.getD_eq_getElem?_getD, List.getElem?_eq_getElem hi]; rfl
      refine And.intro ⟨by omega, by omega⟩ ?_
      have hs := hc a.l[i] (List.getElem_mem hi)
      rw [← hg] at hs
      refine Exists.intro [.blk [0, 1, 2, 3, 4] [25], .one 5, .take 6, .one 7] (And.intro (by kernel_rfl) ?_)
      refine Exists.intro _ (And.intro (hs) ?_)
      rw [hg]
      refine And.intro (show ((a.l.take i).length + 1) * 88 ≤ 140737488355328 by rw [List.length_take]; omega) ?_
      (refine And.intro (rng64 (by omega) (by omega)) ?_)
      have e : a.l.take i ++ [(⟨a.l[i].kind, a.l[i].n, a.l[i].f, a.l[i].s, a.l[i].l, a.l[i].e⟩ : Val)] = a.l.take (i + 1) := by rw [val_eta, List.take_add_one, List.getElem?_eq_getElem hi]; rfl
      refine Exists.intro [(26, 47)] (Exists.intro (i + 1) (And.intro hi (And.intro ?_ ?_)))
      · (repeat' (first | exact trivial | exact Or.inl rfl | exact Or.inl ((congrArg (AV.vec 47 .val) e)) | refine And.intro ?_ ?_))
      · show a.l.length - (i + 1) < a.l.length - i
        omega
    · have hi : i = a.l.length := by have : ¬ (i : Int) < (a.l.length : Int) := of_decide_eq_false hz
                                     omega
      subst hi
      rw [List.take_length]
      intro hme
      refine Exists.intro [] (Exists.intro [(1, 5, 46, .ent)] (Exists.intro [] (Exists.intro Nat (Exists.intro (fun i => i ≤ a.e.length) (Exists.intro (fun i => ⟨[(1, .pt 1 0), (2, .pt 2 0), (29, .rd .ent a.e), (30, .i .i64 a.e.length), (31, .i .i64 i)], [(1, [.i .i64 a.kind, .i .i64 a.n, .i .u64 a.f, .s a.s, .vec 47 .val a.l, .vec 46 .ent (a.e.take i)]), (2, [.i .i64 0, .i .i64 0, .i .u64 0, .s [], .nl, .nl])]⟩) (Exists.intro (fun i => a.e.length - i) (Exists.intro 0 (And.intro (Nat.zero_le _) (And.intro ?_ ?_)))))))))
      · (repeat' (first | exact trivial | exact Or.inl rfl | exact Or.inr (Or.inl ⟨rfl, _, rfl⟩) | exact Or.inr (Or.inr (Or.inr ⟨_, _, _, rfl, rfl⟩)) | refine And.intro ?_ ?_))
      · rintro i hi
        refine And.intro (fun hz => ?_) (fun hz => ?_)
        · have hi : i < a.e.length := by have : (i : Int) < (a.e.length : Int) := of_decide_eq_true hz
                                         omega
          have hg : a.e.getD (Int.toNat (i : Int)) (dflt .ent) = a.e[i] := by rw [Int.toNat_natCast, List.getD_eq_getElem?_getD, List.getElem?_eq_getElem hi]; rfl
          refine And.intro ⟨by omega, by omega⟩ ?_
          have hs := hp a.e[i] (List.getElem_mem hi)
          rw [← hg] at hs
          refine Exists.intro [.blk [0, 1, 2, 3, 4, 5, 6, 7, 8] [43], .one 9, .take 10, .one 11] (And.intro (by kernel_rfl) ?_)
          refine Exists.intro _ (And.intro (hs) ?_)
          rw [hg]
          refine And.intro (show ((a.e.take i).length + 1) * 104 ≤ 140737488355328 by rw [List.length_take]; omega) ?_
          (refine And.intro (rng64 (by omega) (by omega)) ?_)
          have e : a.e.take i ++ [(a.e[i].1, (⟨a.e[i].2.kind, a.e[i].2.n, a.e[i].2.f, a.e[i].2.s, a.e[i].2.l, a.e[i].2.e⟩ : Val))] = a.e.take (i + 1) := by rw [val_eta, List.take_add_one, List.getElem?_eq_getElem hi]; rfl
          refine Exists.intro [(44, 46)] (Exists.intro (i + 1) (And.intro hi (And.intro ?_ ?_)))
          · (repeat' (first | exact trivial | exact Or.inl rfl | exact Or.inl ((congrArg (AV.vec 46 .ent) e)) | refine And.intro ?_ ?_))
          · show a.e.length - (i + 1) < a.e.length - i
            omega
        · have hi : i = a.e.length := by have : ¬ (i : Int) < (a.e.length : Int) := of_decide_eq_false hz
                                         omega
          subst hi
          rw [List.take_length]
          rfl
theorem s_own (a : Val) (hl : a.l.length ≤ 100000000) (he : a.e.length ≤ 100000000) (hc : ∀ x ∈ a.l, PSpec Tryd.prog 76 [.agg (encVal x)] (.agg (encVal x))) (hp : ∀ x ∈ a.e, PSpec Tryd.prog 76 [.agg (encVal x.2)] (.agg (encVal x.2))) : PSpec Tryd.prog 76 [.agg (encVal a)] (.agg (encVal a)) :=
  pspec_of_vc Γ_good Tryd.func76 rfl Tryd.call76 Tryd.results76 Tryd.ntmps76 (Nat.le_of_ble_eq_true rfl) (w_own a hl he hc hp)
theorem own_spec : ∀ (m : Nat) (a : Val), SizeOf.sizeOf a < m → VN 100000000 a → PSpec Tryd.prog 76 [.agg (encVal a)] (.agg (encVal a)) := by
  intro m
  induction m with
  | zero => intro a h; exact absurd h (Nat.not_lt_zero _)
  | succ m ih =>
    intro a hs ha
    cases ha with
    | mk _ a1 a2 a3 a4 =>
      refine s_own a a1 a2 (fun x hx => ih x ?_ (a3 x hx)) (fun x hx => ih x.2 ?_ (a4 x hx))
      · have := val_sz_l hx; omega
      · have := val_sz_e hx; omega
theorem s_Own (a : Val) (ha : VN 100000000 a) : PSpec Tryd.prog 76 [.agg (encVal a)] (.agg (encVal a)) := own_spec _ a (Nat.lt_succ_self _) ha
theorem w_drop (l : List Ent) (k : Str) (hl1 : l.length ≤ 100000000) (hn : ∀ p ∈ l, VN 100000000 p.2) : vc Tryd.prog Γ 29 [0, 1, 4, 5, 7, 8, 9, 10, 11, 17] (Tryd.f148.body.getD .skip) (postK Γ [.tmp 4] (fun v => v = .rd .ent (withoutE l k))) ⟨argSlots 0 [.rd .ent l, .s k], []⟩ := by
  intro hl
  refine Exists.intro [(5, 5, .ent)] (Exists.intro [] (Exists.intro [] (Exists.intro Nat (Exists.intro (fun i => i ≤ l.length) (Exists.intro (fun i => ⟨[(1, .s k), (5, .vec 5 .ent (withoutE (l.take i) k)), (8, .rd .ent l), (9, .i .i64 l.length), (10, .i .i64 i)], []⟩) (Exists.intro (fun i => l.length - i) (Exists.intro 0 (And.intro (Nat.zero_le _) (And.intro ?_ ?_)))))))))
  · (repeat' (first | exact trivial | exact Or.inl rfl | exact Or.inr (Or.inl ⟨rfl, _, rfl⟩) | exact Or.inr (Or.inr (Or.inr ⟨_, _, _, rfl, rfl⟩)) | refine And.intro ?_ ?_))
  · rintro i hi
    refine And.intro (fun he => ?_) (fun he => ?_)
    · have hi : i < l.length := by have : (i : Int) < (l.length : Int) := of_decide_eq_true he
                                   omega
      have hg : l.getD (Int.toNat (i : Int)) (dflt .ent) = l[i] := by rw [Int.toNat_natCast, List.getD_eq_getElem?_getD, List.getElem?_eq_getElem hi]; rfl
      refine And.intro ⟨by omega, by omega⟩ ?_
      refine And.intro (fun hz => ?_) (fun hz => ?_)
      · have hz : keyIs k l[i] = false := by rw [← hg]; simpa [keyIs] using hz
        have hs := s_Own l[i].2 (hn _ (List.getElem_mem hi))
        rw [← hg] at hs
        refine Exists.intro [.blk [0, 1, 2, 3, 4, 5, 6, 7] [25], .one 8, .take 9] (And.intro (by kernel_rfl) ?_)
        refine Exists.intro _ (And.intro (hs) ?_)
        rw [hg]
        have hfl := filter_len (l := l) (k := k) (i := i)
        refine And.intro (show ((withoutE (l.take i) k).length + 1) * 104 ≤ 140737488355328 by omega) ?_
        (refine And.intro (rng64 (by omega) (by omega)) ?_)
        refine Exists.intro [(26, 5)] (Exists.intro (i + 1) (And.intro hi (And.intro ?_ ?_)))
        · have e : withoutE (l.take i) k ++ [(l[i].1, (⟨l[i].2.kind, l[i].2.n, l[i].2.f, l[i].2.s, l[i].2.l, l[i].2.e⟩ : Val))] = withoutE (l.take (i + 1)) k := by rw [val_eta]; exact (filter_next hi hz).symm
          (repeat' (first | exact trivial | exact Or.inl rfl | exact Or.inl ((congrArg (AV.vec 5 .ent) e)) | refine And.intro ?_ ?_))
        · show l.length - (i + 1) < l.length - i
          omega
      · have hz : keyIs k l[i] = true := by rw [← hg]; simpa [keyIs] using hz
        (refine And.intro (rng64 (by omega) (by omega)) ?_)
        refine Exists.intro [] (Exists.intro (i + 1) (And.intro hi (And.intro ?_ ?_)))
        · (repeat' (first | exact trivial | exact Or.inl rfl | exact Or.inl ((congrArg (AV.vec 5 .ent) (filter_skip hi hz).symm)) | refine And.intro ?_ ?_))
        · show l.length - (i + 1) < l.length - i
          omega
    · have hi : i = l.length := by have : ¬ (i : Int) < (l.length : Int) := of_decide_eq_false he
                                   omega
      subst hi
      rw [List.take_length]
      rfl
theorem s_drop (l : List Ent) (k : Str) (hl1 : l.length ≤ 100000000) (hn : ∀ p ∈ l, VN 100000000 p.2) : PSpec Tryd.prog 148 [.rd .ent l, .s k] (.rd .ent (withoutE l k)) :=
  pspec_of_vc Γ_good Tryd.func148 rfl Tryd.call148 Tryd.results148 Tryd.ntmps148 (Nat.le_of_ble_eq_true rfl) (w_drop l k hl1 hn)
end
end Go.Proofs.YtdcdmojbkmedpaaDoor
end
section
namespace Go.Proofs.YtdcdmojbkmedpaaDoor
set_option linter.unusedSectionVars false
set_option linter.unusedSimpArgs false
set_option linter.unusedVariables false
open Go Go.SX Go.Ck Go.Vl Go.Ut Go.Up
set_option maxRecDepth 100000
set_option maxHeartbeats 1000000
theorem stepF1 {p : PStep} (h : p.i < -1 ∨ (0 ≤ p.i ∧ p.key ≠ [])) : stepF p = 1 := if_pos h
theorem stepF2 {p : PStep} (h : ¬ (p.i < -1 ∨ (0 ≤ p.i ∧ p.key ≠ []))) (h2 : 100 < p.key.length) : stepF p = 2 := by unfold stepF; rw [if_neg h, if_pos h2]
theorem stepF3 {p : PStep} (h : ¬ (p.i < -1 ∨ (0 ≤ p.i ∧ p.key ≠ []))) (h2 : ¬ 100 < p.key.length) (h3 : 0 ≤ bad p.key) : stepF p = 3 := by unfold stepF; rw [if_neg h, if_neg h2, if_pos h3]
theorem stepF0 {p : PStep} (h : ¬ (p.i < -1 ∨ (0 ≤ p.i ∧ p.key ≠ []))) (h2 : ¬ 100 < p.key.length) (h3 : ¬ 0 ≤ bad p.key) : stepF p = 0 := by unfold stepF; rw [if_neg h, if_neg h2, if_neg h3]
theorem stepsF_stop {l : List PStep} {i : Nat} {e : Int} (h : i < l.length) (he : stepF l[i] = e) (h0 : e ≠ 0) : stepsF (l.drop i) = e := by rw [stepsF_drop h, he, orI_ne h0]
theorem stepsF_go {l : List PStep} {i : Nat} (h : i < l.length) (he : stepF l[i] = 0) : stepsF (l.drop i) = stepsF (l.drop (i + 1)) := by rw [stepsF_drop h, he, orI_zero]
section
variable [G : Globs]
theorem w_pathC (hu : HasU8) (l : List PStep) : vc Tryd.prog Γ 39 [0, 2, 4, 7, 8, 9, 10, 11, 14, 28, 33] (Tryd.f142.body.getD .skip) (postK Γ [.tmp 2] (fun v => v = .i .i64 (pathF l))) ⟨argSlots 0 [.rd .pstep l], []⟩ := by
  intro hl
  refine And.intro (fun hq => ?_) (fun hq => ?_)
  · refine congrArg (AV.i .i64) ?_
    rw [pathF, if_pos (by have := of_decide_eq_true hq; omega)]
  rw [pathF, if_neg (by have := of_decide_eq_false hq; omega)]
  intro _
  refine Exists.intro [] (Exists.intro [] (Exists.intro [] (Exists.intro Nat (Exists.intro (fun i => i ≤ (l).length ∧ (stepsF l = stepsF (l.drop i))) (Exists.intro (fun i => ⟨[(8, .rd .pstep l), (9, .i .i64 l.length), (10, .i .i64 i)], []⟩) (Exists.intro (fun i => (l).length - i) (Exists.intro 0 (And.intro ⟨Nat.zero_le _, rfl⟩ (And.intro ?_ ?_)))))))))
  · (repeat' (first | exact trivial | exact Or.inl rfl | exact Or.inr (Or.inl ⟨rfl, _, rfl⟩) | exact Or.inr (Or.inr (Or.inr ⟨_, _, _, rfl, rfl⟩)) | refine And.intro ?_ ?_))
  rintro i ⟨hi, hI⟩
  refine And.intro (fun hz => ?_) (fun hz => ?_)
  · have hi := ltD hz
    have hg := getI (τ := .pstep) hi
    refine And.intro ⟨by omega, by omega⟩ ?_
    rw [hg]
    by_cases c : l[i].i < -1 ∨ (0 ≤ l[i].i ∧ l[i].key ≠ [])
    · rw [stepsF_stop hi (stepF1 c) (by decide)] at hI
      rcases c with c | ⟨c, c3⟩
      all_goals (repeat' (first | (refine And.intro (fun h => ?_) (fun h => ?_) <;> (try simp [-List.getD_eq_getElem?_getD, -Int.pred_toNat] at h) <;> (try (exfalso; first | omega | contradiction))) | (refine And.intro (rng64 (by omega) (by omega)) ?_) | (refine And.intro ⟨by omega, by omega⟩ ?_) | (refine And.intro ⟨by omega, by omega, by omega⟩ ?_) | (intro _)))
      all_goals exact congrArg (AV.i .i64) hI.symm
    · have c1 : -1 ≤ l[i].i := by omega
      have c2 : l[i].i < 0 ∨ (0 ≤ l[i].i ∧ l[i].key = []) := by grind
      by_cases d : 100 < l[i].key.length
      · rw [stepsF_stop hi (stepF2 c d) (by decide)] at hI
        rcases c2 with c2 | ⟨c2, c3⟩
        all_goals (repeat' (first | (refine And.intro (fun h => ?_) (fun h => ?_) <;> (try simp [-List.getD_eq_getElem?_getD, -Int.pred_toNat] at h) <;> (try (exfalso; first | omega | contradiction))) | (refine And.intro (rng64 (by omega) (by omega)) ?_) | (refine And.intro ⟨by omega, by omega⟩ ?_) | (refine And.intro ⟨by omega, by omega, by omega⟩ ?_) | (intro _)))
        all_goals exact congrArg (AV.i .i64) hI.symm
      · by_cases e : 0 ≤ bad l[i].key
        · rw [stepsF_stop hi (stepF3 c d e) (by decide)] at hI
          rcases c2 with c2 | ⟨c2, c3⟩
          all_goals (repeat' (first | (refine And.intro (fun h => ?_) (fun h => ?_) <;> (try simp [-List.getD_eq_getElem?_getD, -Int.pred_toNat] at h) <;> (try (exfalso; first | omega | contradiction))) | (refine And.intro (rng64 (by omega) (by omega)) ?_) | (refine And.intro ⟨by omega, by omega⟩ ?_) | (refine And.intro ⟨by omega, by omega, by omega⟩ ?_) | (intro _)))
          all_goals refine Or.inl (Exists.intro _ (And.intro (s_Bad hu l[i].key) ?_))
          all_goals (repeat' (first | (refine And.intro (fun h => ?_) (fun h => ?_) <;> (try simp [-List.getD_eq_getElem?_getD, -Int.pred_toNat] at h) <;> (try (exfalso; first | omega | contradiction))) | (refine And.intro (rng64 (by omega) (by omega)) ?_) | (refine And.intro ⟨by omega, by omega⟩ ?_) | (refine And.intro ⟨by omega, by omega, by omega⟩ ?_) | (intro _)))
          all_goals exact congrArg (AV.i .i64) hI.symm
        · rw [stepsF_go hi (stepF0 c d e)] at hI
          have := len_le hl
          rcases c2 with c2 | ⟨c2, c3⟩
          all_goals (repeat' (first | (refine And.intro (fun h => ?_) (fun h => ?_) <;> (try simp [-List.getD_eq_getElem?_getD, -Int.pred_toNat] at h) <;> (try (exfalso; first | omega | contradiction))) | (refine And.intro (rng64 (by omega) (by omega)) ?_) | (refine And.intro ⟨by omega, by omega⟩ ?_) | (refine And.intro ⟨by omega, by omega, by omega⟩ ?_) | (intro _)))
          all_goals refine Or.inl (Exists.intro _ (And.intro (s_Bad hu l[i].key) ?_))
          all_goals (repeat' (first | (refine And.intro (fun h => ?_) (fun h => ?_) <;> (try simp [-List.getD_eq_getElem?_getD, -Int.pred_toNat] at h) <;> (try (exfalso; first | omega | contradiction))) | (refine And.intro (rng64 (by omega) (by omega)) ?_) | (refine And.intro ⟨by omega, by omega⟩ ?_) | (refine And.intro ⟨by omega, by omega, by omega⟩ ?_) | (intro _)))
          all_goals refine Exists.intro [] (Exists.intro (i + 1) (And.intro ⟨hi, hI⟩ (And.intro ?_ ?_)))
          all_goals first | (exact Nat.sub_lt_sub_left (by omega) (by omega)) | (repeat' (first | exact trivial | exact Or.inl rfl | exact Or.inr (Or.inl ⟨rfl, _, rfl⟩) | exact Or.inr (Or.inr (Or.inr ⟨_, _, _, rfl, rfl⟩)) | refine And.intro ?_ ?_))
  · (have hi := geD hi hz)
    rw [hI, List.drop_eq_nil_of_le (by omega)]
    rfl
theorem s_pathC (hu : HasU8) (l : List PStep) : PSpec Tryd.prog 142 [.rd .pstep l] (.i .i64 (pathF l)) :=
  pspec_of_vc Γ_good Tryd.func142 rfl Tryd.call142 Tryd.results142 Tryd.ntmps142 (Nat.le_of_ble_eq_true rfl) (w_pathC hu l)
def partA (a : Val) (p : PStep) : AV := .tup [.agg (encVal (partV a p).1), .i .i64 (partV a p).2]
theorem partA_eq {a : Val} {p : PStep} {w : Val} {e : Int} (h : partV a p = (w, e)) : partA a p = .tup [.agg (encVal w), .i .i64 e] := by unfold partA; rw [h]
theorem partV_tk {a : Val} {p : PStep} (h : p.i < 0) (h2 : a.kind ≠ 6) : partV a p = (zeroV, 10) := by unfold partV; rw [if_pos h, if_pos h2]
theorem partV_tn {a : Val} {p : PStep} (h : p.i < 0) (h2 : ¬ a.kind ≠ 6) (h3 : ixI a.e (keyIs p.key) < 0) : partV a p = (zeroV, 8) := by unfold partV; rw [if_pos h, if_neg h2, if_pos h3]
theorem partV_t {a : Val} {p : PStep} (h : p.i < 0) (h2 : ¬ a.kind ≠ 6) (h3 : ¬ ixI a.e (keyIs p.key) < 0) : partV a p = ((a.e.getD (ixI a.e (keyIs p.key)).toNat (dflt .ent)).2, 0) := by unfold partV; rw [if_pos h, if_neg h2, if_neg h3]
theorem partV_lk {a : Val} {p : PStep} (h : ¬ p.i < 0) (h2 : a.kind ≠ 5) : partV a p = (zeroV, 10) := by unfold partV; rw [if_neg h, if_pos h2]
theorem partV_ln {a : Val} {p : PStep} (h : ¬ p.i < 0) (h2 : ¬ a.kind ≠ 5) (h3 : (a.l.length : Int) ≤ p.i) : partV a p = (zeroV, 8) := by unfold partV; rw [if_neg h, if_neg h2, if_pos h3]
theorem partV_l {a : Val} {p : PStep} (h : ¬ p.i < 0) (h2 : ¬ a.kind ≠ 5) (h3 : ¬ (a.l.length : Int) ≤ p.i) : partV a p = (a.l.getD p.i.toNat (dflt .val), 0) := by unfold partV; rw [if_neg h, if_neg h2, if_neg h3]
theorem w_partOf (a : Val) (p : PStep) (h : -1 ≤ p.i) : vc Tryd.prog Γ 46 [2, 3, 4, 5, 6, 7, 10, 13, 21, 31, 38] (Tryd.f141.body.getD .skip) (postK Γ [.cell 4 26, .tmp 5] (fun v => RL v (partA a p))) ⟨argSlots 0 [.agg (encVal a), .agg (enc .pstep p)], []⟩ := by
  refine And.intro (fun hq => ?_) (fun hq => ?_)
  · have hq : p.i < 0 := by have := eq_of_beq hq; omega
    refine And.intro (fun hk => ?_) (fun hk => ?_)
    · have hk : a.kind ≠ 6 := by simpa using hk
      rw [partA_eq (partV_tk hq hk)]
      (repeat' (first | exact trivial | exact Or.inl rfl | exact Or.inr ⟨rfl, _, rfl⟩ | refine And.intro ?_ ?_))
    have hk : ¬ a.kind ≠ 6 := by simpa using hk
    refine Or.inl (Exists.intro _ (And.intro (s_entAt a.e p.key) ?_))
    refine And.intro (fun hx => ?_) (fun hx => ?_)
    · have hx : ixI a.e (keyIs p.key) < 0 := of_decide_eq_true hx
      rw [partA_eq (partV_tn hq hk hx)]
      (repeat' (first | exact trivial | exact Or.inl rfl | exact Or.inr ⟨rfl, _, rfl⟩ | refine And.intro ?_ ?_))
    have hx : ¬ ixI a.e (keyIs p.key) < 0 := of_decide_eq_false hx
    have hb := ix_bound hx
    rw [partA_eq (partV_t hq hk hx)]
    refine And.intro ⟨by omega, by omega⟩ ?_
    (repeat' (first | exact trivial | exact Or.inl rfl | exact Or.inr ⟨rfl, _, rfl⟩ | refine And.intro ?_ ?_))
  · have hq : ¬ p.i < 0 := by have := ne_of_beq_false hq; omega
    refine And.intro (fun hk => ?_) (fun hk => ?_)
    · have hk : a.kind ≠ 5 := by simpa using hk
      rw [partA_eq (partV_lk hq hk)]
      (repeat' (first | exact trivial | exact Or.inl rfl | exact Or.inr ⟨rfl, _, rfl⟩ | refine And.intro ?_ ?_))
    have hk : ¬ a.kind ≠ 5 := by simpa using hk
    intro _
    refine And.intro (fun hx => ?_) (fun hx => ?_)
    · rw [partA_eq (partV_ln hq hk (of_decide_eq_true hx))]
      (repeat' (first | exact trivial | exact Or.inl rfl | exact Or.inr ⟨rfl, _, rfl⟩ | refine And.intro ?_ ?_))
    have hx : ¬ (a.l.length : Int) ≤ p.i := of_decide_eq_false hx
    rw [partA_eq (partV_l hq hk hx)]
    refine And.intro ⟨by omega, by omega⟩ ?_
    (repeat' (first | exact trivial | exact Or.inl rfl | exact Or.inr ⟨rfl, _, rfl⟩ | refine And.intro ?_ ?_))
theorem s_partOf (a : Val) (p : PStep) (h : -1 ≤ p.i) : PSpec Tryd.prog 141 [.agg (encVal a), .agg (enc .pstep p)] (partA a p) :=
  pspec_of_vcL Γ_good Tryd.func141 rfl Tryd.call141 Tryd.results141 Tryd.ntmps141 (Nat.le_of_ble_eq_true rfl) (w_partOf a p h)
theorem w_part (a : Val) (p : PStep) : vc Tryd.prog Γ 49 [2, 3, 4, 5, 6, 9, 15, 20, 30, 35] (Tryd.f144.body.getD .skip) (postK Γ [.cell 4 26, .tmp 5] (fun v => RL v (partA a p))) ⟨argSlots 0 [.agg (encVal a), .agg (enc .pstep p)], []⟩ := by
  refine And.intro (fun hq => ?_) (fun hq => ?_)
  · have hq : p.i < 0 := of_decide_eq_true hq
    refine Or.inl (Exists.intro _ (And.intro (s_find a.e p.key) ?_))
    refine And.intro (fun hk => ?_) (fun hk => ?_)
    · have hk : a.kind ≠ 6 := by simpa using hk
      rw [partA_eq (partV_tk hq hk)]
      (repeat' (first | exact trivial | exact Or.inl rfl | exact Or.inr ⟨rfl, _, rfl⟩ | refine And.intro ?_ ?_))
    have hk : ¬ a.kind ≠ 6 := by simpa using hk
    refine And.intro (fun hx => ?_) (fun hx => ?_)
    · have hx : ixI a.e (keyIs p.key) < 0 := of_decide_eq_true hx
      rw [partA_eq (partV_tn hq hk hx)]
      (repeat' (first | exact trivial | exact Or.inl rfl | exact Or.inr ⟨rfl, _, rfl⟩ | refine And.intro ?_ ?_))
    have hx : ¬ ixI a.e (keyIs p.key) < 0 := of_decide_eq_false hx
    have hb := ix_bound hx
    rw [partA_eq (partV_t hq hk hx)]
    refine And.intro ⟨by omega, by omega⟩ ?_
    (repeat' (first | exact trivial | exact Or.inl rfl | exact Or.inr ⟨rfl, _, rfl⟩ | refine And.intro ?_ ?_))
  · have hq : ¬ p.i < 0 := of_decide_eq_false hq
    refine And.intro (fun hk => ?_) (fun hk => ?_)
    · have hk : a.kind ≠ 5 := by simpa using hk
      rw [partA_eq (partV_lk hq hk)]
      (repeat' (first | exact trivial | exact Or.inl rfl | exact Or.inr ⟨rfl, _, rfl⟩ | refine And.intro ?_ ?_))
    have hk : ¬ a.kind ≠ 5 := by simpa using hk
    intro _
    refine And.intro (fun hx => ?_) (fun hx => ?_)
    · rw [partA_eq (partV_ln hq hk (of_decide_eq_true hx))]
      (repeat' (first | exact trivial | exact Or.inl rfl | exact Or.inr ⟨rfl, _, rfl⟩ | refine And.intro ?_ ?_))
    have hx : ¬ (a.l.length : Int) ≤ p.i := of_decide_eq_false hx
    rw [partA_eq (partV_l hq hk hx)]
    refine And.intro ⟨by omega, by omega⟩ ?_
    (repeat' (first | exact trivial | exact Or.inl rfl | exact Or.inr ⟨rfl, _, rfl⟩ | refine And.intro ?_ ?_))
theorem s_part (a : Val) (p : PStep) : PSpec Tryd.prog 144 [.agg (encVal a), .agg (enc .pstep p)] (partA a p) :=
  pspec_of_vcL Γ_good Tryd.func144 rfl Tryd.call144 Tryd.results144 Tryd.ntmps144 (Nat.le_of_ble_eq_true rfl) (w_part a p)
theorem w_pathR (l : List PStep) : vc Tryd.prog Γ 36 [0, 2, 4, 7, 8, 9, 10, 11, 26, 30, 34] (Tryd.f150.body.getD .skip) (postK Γ [.tmp 2] (fun v => v = .i .i64 (pathF l))) ⟨argSlots 0 [.rd .pstep l], []⟩ := by
  intro hl
  refine And.intro (fun hq => ?_) (fun hq => ?_)
  · refine congrArg (AV.i .i64) ?_
    rw [pathF, if_pos (by have := of_decide_eq_true hq; omega)]
  rw [pathF, if_neg (by have := of_decide_eq_false hq; omega)]
  intro _
  refine Exists.intro [] (Exists.intro [] (Exists.intro [] (Exists.intro Nat (Exists.intro (fun i => i ≤ (l).length ∧ (stepsF l = stepsF (l.drop i))) (Exists.intro (fun i => ⟨[(8, .rd .pstep l), (9, .i .i64 l.length), (10, .i .i64 i)], []⟩) (Exists.intro (fun i => (l).length - i) (Exists.intro 0 (And.intro ⟨Nat.zero_le _, rfl⟩ (And.intro ?_ ?_)))))))))
  · (repeat' (first | exact trivial | exact Or.inl rfl | exact Or.inr (Or.inl ⟨rfl, _, rfl⟩) | exact Or.inr (Or.inr (Or.inr ⟨_, _, _, rfl, rfl⟩)) | refine And.intro ?_ ?_))
  rintro i ⟨hi, hI⟩
  refine And.intro (fun hz => ?_) (fun hz => ?_)
  · have hi := ltD hz
    have hg := getI (τ := .pstep) hi
    refine And.intro ⟨by omega, by omega⟩ ?_
    rw [hg]
    by_cases c : l[i].i < -1 ∨ (0 ≤ l[i].i ∧ l[i].key ≠ [])
    · rw [stepsF_stop hi (stepF1 c) (by decide)] at hI
      rcases c with c | ⟨c, c3⟩
      all_goals (repeat' (first | (refine And.intro (fun h => ?_) (fun h => ?_) <;> (try simp [-List.getD_eq_getElem?_getD, -Int.pred_toNat] at h) <;> (try (exfalso; first | omega | contradiction))) | (refine And.intro (rng64 (by omega) (by omega)) ?_) | (refine And.intro ⟨by omega, by omega⟩ ?_) | (refine And.intro ⟨by omega, by omega, by omega⟩ ?_) | (intro _)))
      all_goals exact congrArg (AV.i .i64) hI.symm
    · have c1 : -1 ≤ l[i].i := by omega
      have c2 : l[i].i = -1 ∨ (0 ≤ l[i].i ∧ l[i].key = []) := by grind
      by_cases d : 100 < l[i].key.length
      · rw [stepsF_stop hi (stepF2 c d) (by decide)] at hI
        rcases c2 with c2 | ⟨c2, c3⟩
        all_goals (repeat' (first | (refine And.intro (fun h => ?_) (fun h => ?_) <;> (try simp [-List.getD_eq_getElem?_getD, -Int.pred_toNat] at h) <;> (try (exfalso; first | omega | contradiction))) | (refine And.intro (rng64 (by omega) (by omega)) ?_) | (refine And.intro ⟨by omega, by omega⟩ ?_) | (refine And.intro ⟨by omega, by omega, by omega⟩ ?_) | (intro _)))
        all_goals exact congrArg (AV.i .i64) hI.symm
      · by_cases e : 0 ≤ bad l[i].key
        · rw [stepsF_stop hi (stepF3 c d e) (by decide)] at hI
          rcases c2 with c2 | ⟨c2, c3⟩
          all_goals (repeat' (first | (refine And.intro (fun h => ?_) (fun h => ?_) <;> (try simp [-List.getD_eq_getElem?_getD, -Int.pred_toNat] at h) <;> (try (exfalso; first | omega | contradiction))) | (refine And.intro (rng64 (by omega) (by omega)) ?_) | (refine And.intro ⟨by omega, by omega⟩ ?_) | (refine And.intro ⟨by omega, by omega, by omega⟩ ?_) | (intro _)))
          all_goals refine Or.inl (Exists.intro _ (And.intro (s_BadPlace l[i].key) ?_))
          all_goals (repeat' (first | (refine And.intro (fun h => ?_) (fun h => ?_) <;> (try simp [-List.getD_eq_getElem?_getD, -Int.pred_toNat] at h) <;> (try (exfalso; first | omega | contradiction))) | (refine And.intro (rng64 (by omega) (by omega)) ?_) | (refine And.intro ⟨by omega, by omega⟩ ?_) | (refine And.intro ⟨by omega, by omega, by omega⟩ ?_) | (intro _)))
          all_goals exact congrArg (AV.i .i64) hI.symm
        · rw [stepsF_go hi (stepF0 c d e)] at hI
          have := len_le hl
          rcases c2 with c2 | ⟨c2, c3⟩
          all_goals (repeat' (first | (refine And.intro (fun h => ?_) (fun h => ?_) <;> (try simp [-List.getD_eq_getElem?_getD, -Int.pred_toNat] at h) <;> (try (exfalso; first | omega | contradiction))) | (refine And.intro (rng64 (by omega) (by omega)) ?_) | (refine And.intro ⟨by omega, by omega⟩ ?_) | (refine And.intro ⟨by omega, by omega, by omega⟩ ?_) | (intro _)))
          all_goals refine Or.inl (Exists.intro _ (And.intro (s_BadPlace l[i].key) ?_))
          all_goals (repeat' (first | (refine And.intro (fun h => ?_) (fun h => ?_) <;> (try simp [-List.getD_eq_getElem?_getD, -Int.pred_toNat] at h) <;> (try (exfalso; first | omega | contradiction))) | (refine And.intro (rng64 (by omega) (by omega)) ?_) | (refine And.intro ⟨by omega, by omega⟩ ?_) | (refine And.intro ⟨by omega, by omega, by omega⟩ ?_) | (intro _)))
          all_goals refine Exists.intro [] (Exists.intro (i + 1) (And.intro ⟨hi, hI⟩ (And.intro ?_ ?_)))
          all_goals first | (exact Nat.sub_lt_sub_left (by omega) (by omega)) | (repeat' (first | exact trivial | exact Or.inl rfl | exact Or.inr (Or.inl ⟨rfl, _, rfl⟩) | exact Or.inr (Or.inr (Or.inr ⟨_, _, _, rfl, rfl⟩)) | refine And.intro ?_ ?_))
  · (have hi := geD hi hz)
    rw [hI, List.drop_eq_nil_of_le (by omega)]
    rfl
theorem s_pathR (l : List PStep) : PSpec Tryd.prog 150 [.rd .pstep l] (.i .i64 (pathF l)) :=
  pspec_of_vc Γ_good Tryd.func150 rfl Tryd.call150 Tryd.results150 Tryd.ntmps150 (Nat.le_of_ble_eq_true rfl) (w_pathR l)
def ledA (a : Val) (l : List PStep) : AV := .tup [.agg (encVal (ledV a l).1), .i .i64 (ledV a l).2]
theorem ledA_eq {a w : Val} {l : List PStep} {e : Int} (h : ledV a l = (w, e)) : ledA a l = .tup [.agg (encVal w), .i .i64 e] := by unfold ledA; rw [h]
theorem tail_eq (p : PStep) (r : List PStep) : ((p :: r).take (Int.toNat ((p :: r).length : Int))).drop (Int.toNat 1) = r := by
  rw [Int.toNat_natCast, List.take_length]; rfl
theorem w_led0 (a : Val) : vc Tryd.prog Γ 30 [1, 2, 4, 5, 6, 7, 10, 21] (Tryd.f74.body.getD .skip) (postK Γ [.cell 4 26, .tmp 5] (fun v => RL v (ledA a []))) ⟨argSlots 0 [.agg (encVal a), .rd .pstep []], []⟩ := by
  intro _
  refine And.intro (fun _ => ?_) (fun hq => Bool.noConfusion hq)
  (repeat' (first | exact trivial | exact Or.inl rfl | exact Or.inr ⟨rfl, _, rfl⟩ | refine And.intro ?_ ?_))
theorem s_led0 (a : Val) : PSpec Tryd.prog 74 [.agg (encVal a), .rd .pstep []] (ledA a []) :=
  pspec_of_vcL Γ_good Tryd.func74 rfl Tryd.call74 Tryd.results74 Tryd.ntmps74 (Nat.le_of_ble_eq_true rfl) (w_led0 a)
theorem w_led1 (a : Val) (p : PStep) (r : List PStep) (h : -1 ≤ p.i) (ih : ∀ w, PSpec Tryd.prog 74 [.agg (encVal w), .rd .pstep r] (ledA w r)) : vc Tryd.prog Γ 30 [1, 2, 4, 5, 6, 7, 10, 21] (Tryd.f74.body.getD .skip) (postK Γ [.cell 4 26, .tmp 5] (fun v => RL v (ledA a (p :: r)))) ⟨argSlots 0 [.agg (encVal a), .rd .pstep (p :: r)], []⟩ := by
  intro _
  refine And.intro (fun hq => ?_) (fun _ => ?_)
  · have := eq_of_beq hq
    simp only [List.length_cons] at this
    omega
  have hs := s_partOf a p h
  refine Exists.intro [.take 1, .take 2, .tree 8 [0, 3, 4, 5, 6, 7, 8, 9] (.opt 0 (.opt 3 (.opt 4 (.opt 5 (.opt 6 (.opt 7 (.opt 8 (.opt 9 .fin .non) .non) (.opt 8 (.opt 7 (.opt 9 .fin .non) (.opt 9 (.opt 7 .fin .non) .non)) .non)) (.opt 7 (.opt 6 (.opt 8 (.opt 9 .fin .non) .non) (.opt 8 (.opt 6 (.opt 9 .fin .non) .non) .non)) (.opt 8 (.opt 6 (.opt 7 (.opt 9 .fin .non) (.opt 9 (.opt 7 .fin .non) .non)) (.opt 7 (.opt 6 (.opt 9 .fin .non) .non) .non)) .non))) (.opt 8 (.opt 5 (.opt 6 (.opt 7 (.opt 9 .fin .non) (.opt 9 (.opt 7 .fin .non) .non)) (.opt 7 (.opt 6 (.opt 9 .fin .non) .non) .non)) .non) .non)) (.opt 8 (.opt 4 (.opt 5 (.opt 6 (.opt 7 (.opt 9 .fin .non) (.opt 9 (.opt 7 .fin .non) .non)) (.opt 7 (.opt 6 (.opt 9 .fin .non) .non) .non)) .non) .non) .non)) (.opt 8 (.opt 3 (.opt 4 (.opt 5 (.opt 6 (.opt 7 (.opt 9 .fin .non) (.opt 9 (.opt 7 .fin .non) .non)) (.opt 7 (.opt 6 (.opt 9 .fin .non) .non) .non)) .non) .non) .non) .non)) (.opt 3 (.opt 0 (.opt 4 (.opt 5 (.opt 6 (.opt 7 (.opt 8 (.opt 9 .fin .non) .non) (.opt 8 (.opt 7 (.opt 9 .fin .non) (.opt 9 (.opt 7 .fin .non) .non)) .non)) (.opt 7 (.opt 6 (.opt 8 (.opt 9 .fin .non) .non) (.opt 8 (.opt 6 (.opt 9 .fin .non) .non) .non)) (.opt 8 (.opt 6 (.opt 7 (.opt 9 .fin .non) (.opt 9 (.opt 7 .fin .non) .non)) (.opt 7 (.opt 6 (.opt 9 .fin .non) .non) .non)) .non))) (.opt 8 (.opt 5 (.opt 6 (.opt 7 (.opt 9 .fin .non) (.opt 9 (.opt 7 .fin .non) .non)) (.opt 7 (.opt 6 (.opt 9 .fin .non) .non) .non)) .non) .non)) (.opt 8 (.opt 4 (.opt 5 (.opt 6 (.opt 7 (.opt 9 .fin .non) (.opt 9 (.opt 7 .fin .non) .non)) (.opt 7 (.opt 6 (.opt 9 .fin .non) .non) .non)) .non) .non) .non)) (.opt 8 (.opt 0 (.opt 4 (.opt 5 (.opt 6 (.opt 7 (.opt 9 .fin .non) (.opt 9 (.opt 7 .fin .non) .non)) (.opt 7 (.opt 6 (.opt 9 .fin .non) .non) .non)) .non) .non) .non) .non)) (.opt 8 (.opt 0 (.opt 3 (.opt 4 (.opt 5 (.opt 6 (.opt 7 (.opt 9 .fin .non) (.opt 9 (.opt 7 .fin .non) .non)) (.opt 7 (.opt 6 (.opt 9 .fin .non) .non) .non)) .non) .non) .non) (.opt 3 (.opt 0 (.opt 4 (.opt 5 (.opt 6 (.opt 7 (.opt 9 .fin .non) (.opt 9 (.opt 7 .fin .non) .non)) (.opt 7 (.opt 6 (.opt 9 .fin .non) .non) .non)) .non) .non) .non) .non)) .non))), .take 10] (And.intro (by kernel_rfl) ?_)
  refine And.intro ⟨by omega, by simp only [List.length_cons]; omega⟩ ?_
  refine Exists.intro ⟨[(1, .rd .pstep (p :: r)), (2, .pt 2 0), (4, .pt 4 0), (5, .i .i64 0), (6, .pt 6 0), (19, .i .i64 (partV a p).2)], [(2, encVal a), (4, [.i .i64 0, .i .i64 0, .i .u64 0, .s [], .nl, .nl]), (6, encVal (partV a p).1)]⟩ (And.intro ?_ ?_)
  · repeat' (first | exact trivial | exact Or.inl rfl | refine And.intro ?_ ?_ | refine Or.inl (Exists.intro _ (And.intro hs ?_)))
  have hr : PSpec Tryd.prog 74 [.agg (encVal (partV a p).1), .rd .pstep (((p :: r).take (Int.toNat ((p :: r).length : Int))).drop (Int.toNat 1))] (ledA (partV a p).1 r) := by
    rw [tail_eq]; exact ih _
  refine And.intro (fun hq => ?_) (fun hq => ?_)
  · have hq : (partV a p).2 ≠ 0 := by simpa using hq
    rw [ledA_eq (show ledV a (p :: r) = (zeroV, (partV a p).2) from by rw [ledV, if_pos hq])]
    (repeat' (first | exact trivial | exact Or.inl rfl | exact Or.inr ⟨rfl, _, rfl⟩ | refine And.intro ?_ ?_))
  · have hq : ¬ (partV a p).2 ≠ 0 := by simpa using hq
    rw [show ledA a (p :: r) = ledA (partV a p).1 r from by unfold ledA; rw [ledV, if_neg hq]]
    refine Exists.intro [.blk [0, 1, 2, 3, 4, 5], .one 6, .take 7] (And.intro (by kernel_rfl) ?_)
    refine And.intro ⟨by omega, by simp only [List.length_cons]; omega, by simp only [List.length_cons]; omega⟩ ?_
    refine Exists.intro _ (And.intro (hr) ?_)
    (repeat' (first | exact trivial | exact Or.inl rfl | exact Or.inr ⟨rfl, _, rfl⟩ | refine And.intro ?_ ?_))
theorem s_led1 (a : Val) (p : PStep) (r : List PStep) (h : -1 ≤ p.i) (ih : ∀ w, PSpec Tryd.prog 74 [.agg (encVal w), .rd .pstep r] (ledA w r)) : PSpec Tryd.prog 74 [.agg (encVal a), .rd .pstep (p :: r)] (ledA a (p :: r)) :=
  pspec_of_vcL Γ_good Tryd.func74 rfl Tryd.call74 Tryd.results74 Tryd.ntmps74 (Nat.le_of_ble_eq_true rfl) (w_led1 a p r h ih)
theorem s_Led : ∀ (l : List PStep) (a : Val), (∀ p ∈ l, -1 ≤ p.i) → PSpec Tryd.prog 74 [.agg (encVal a), .rd .pstep l] (ledA a l)
  | [], a, _ => s_led0 a
  | p :: r, a, h => s_led1 a p r (h p (.head _)) fun w => s_Led r w fun q hq => h q (.tail _ hq)
/-- what Get answers -/
def getV (a : Val) (l : List PStep) : Val × Int := if pathF l ≠ 0 then (zeroV, pathF l) else ledV a l
def getA (a : Val) (l : List PStep) : AV := .tup [.agg (encVal (getV a l).1), .i .i64 (getV a l).2]
theorem getA_eq {a w : Val} {l : List PStep} {e : Int} (h : getV a l = (w, e)) : getA a l = .tup [.agg (encVal w), .i .i64 e] := by unfold getA; rw [h]
theorem vn_zero (n : Nat) : VN n zeroV := .mk _ (Nat.zero_le _) (Nat.zero_le _) (fun _ h => nomatch h) (fun _ h => nomatch h)
theorem vn_part {n : Nat} {v x : Val} (hv : VN n v) (hx : x ∈ partsOf v) : VN n x := by
  cases hv with
  | mk _ _ _ h4 h5 =>
    rcases List.mem_append.1 hx with hx | hx
    · exact h4 x hx
    · obtain ⟨z, hz, rfl⟩ := List.mem_map.1 hx
      exact h5 z hz
theorem w_get (hu : HasU8) (a : Val) (l : List PStep) (ha : VN 100000000 a) : vc Tryd.prog Γ 35 [1, 2, 4, 5, 6, 8, 9, 13, 16, 17, 18, 19, 29] (Tryd.f78.body.getD .skip) (postK Γ [.cell 4 26, .tmp 5] (fun v => RL v (getA a l))) ⟨argSlots 0 [.agg (encVal a), .rd .pstep l], []⟩ := by
  refine Or.inl (Exists.intro _ (And.intro (s_pathC hu l) ?_))
  refine And.intro (fun hq => ?_) (fun hq => ?_)
  · have hq : pathF l ≠ 0 := by simpa using hq
    rw [getA_eq (show getV a l = (zeroV, pathF l) from if_pos hq)]
    (repeat' (first | exact trivial | exact Or.inl rfl | exact Or.inr ⟨rfl, _, rfl⟩ | refine And.intro ?_ ?_))
  have hq : ¬ pathF l ≠ 0 := by simpa using hq
  have hg : getV a l = ledV a l := if_neg hq
  rw [show getA a l = ledA a l from by unfold getA ledA; rw [hg]]
  intro hl
  refine Exists.intro [] (Exists.intro [] (Exists.intro [] (Exists.intro Nat (Exists.intro (fun i => i ≤ (l).length ∧ ((ledV a (l.take i)).2 = 0)) (Exists.intro (fun i => ⟨[(2, .pt 2 0), (4, .pt 4 0), (5, .i .i64 0), (16, .rd .pstep l), (17, .i .i64 l.length), (18, .i .i64 i)], [(2, encVal (ledV a (l.take i)).1), (4, [.i .i64 0, .i .i64 0, .i .u64 0, .s [], .nl, .nl])]⟩) (Exists.intro (fun i => (l).length - i) (Exists.intro 0 (And.intro ⟨Nat.zero_le _, rfl⟩ (And.intro ?_ ?_)))))))))
  · (repeat' (first | exact trivial | exact Or.inl rfl | exact Or.inr (Or.inl ⟨rfl, _, rfl⟩) | exact Or.inr (Or.inr (Or.inr ⟨_, _, _, rfl, rfl⟩)) | refine And.intro ?_ ?_))
  rintro i ⟨hi, hI⟩
  refine And.intro (fun hz => ?_) (fun hz => ?_)
  · have hi := ltD hz
    have hg := getI (τ := .pstep) hi
    refine And.intro ⟨by omega, by omega⟩ ?_
    rw [hg]
    have hs := s_part (ledV a (l.take i)).1 l[i]
    have hap := ledV_append (l.take i) [l[i]] a hI
    rw [← take_snoc hi, ledV_one] at hap
    have hap2 := ledV_append (l.take i) (l.drop i) a hI
    rw [List.take_append_drop, List.drop_eq_getElem_cons hi, ledV] at hap2
    have := len_le hl
    refine Or.inl (Exists.intro _ (And.intro (hs) ?_))
    refine And.intro (fun hq => ?_) (fun hq => ?_)
    · have hq : (partV (ledV a (l.take i)).1 l[i]).2 ≠ 0 := by simpa using hq
      rw [if_pos hq] at hap2
      rw [ledA_eq hap2]
      (repeat' (first | exact trivial | exact Or.inl rfl | exact Or.inr ⟨rfl, _, rfl⟩ | refine And.intro ?_ ?_))
    · have hq : ¬ (partV (ledV a (l.take i)).1 l[i]).2 ≠ 0 := by simpa using hq
      rw [if_neg hq] at hap
      have e1 : (ledV a (l.take (i + 1))).1 = (partV (ledV a (l.take i)).1 l[i]).1 := by rw [hap]
      (refine And.intro (rng64 (by omega) (by omega)) ?_)
      refine Exists.intro [] (Exists.intro (_ + 1) (And.intro ⟨hi, (by rw [hap])⟩ (And.intro ?_ ?_)))
      · (repeat' (first | exact trivial | exact Or.inl rfl | exact Or.inl ((congrArg (fun v : Val => AV.i .i64 v.kind) e1.symm)) | exact Or.inl ((congrArg (fun v : Val => AV.i .i64 v.n) e1.symm)) | exact Or.inl ((congrArg (fun v : Val => AV.i .u64 v.f) e1.symm)) | exact Or.inl ((congrArg (fun v : Val => AV.s v.s) e1.symm)) | exact Or.inl ((congrArg (fun v : Val => AV.rd .val v.l) e1.symm)) | exact Or.inl ((congrArg (fun v : Val => AV.rd .ent v.e) e1.symm)) | refine And.intro ?_ ?_))
      · (exact Nat.sub_lt_sub_left (by omega) (by omega))
  · (have hi := geD hi hz)
    subst hi
    rw [List.take_length] at hI ⊢
    refine Or.inl (Exists.intro _ (And.intro (s_Own (ledV a l).1 (ledV_keep (R := VN 100000000) (vn_zero _) (fun _ h _ hx => vn_part h hx) l a ha)) ?_))
    rw [show ledA a l = .tup [.agg (encVal (ledV a l).1), .i .i64 0] from by unfold ledA; rw [hI]]
    (repeat' (first | exact trivial | exact Or.inl rfl | exact Or.inr ⟨rfl, _, rfl⟩ | refine And.intro ?_ ?_))
theorem s_get (hu : HasU8) (a : Val) (l : List PStep) (ha : VN 100000000 a) : PSpec Tryd.prog 78 [.agg (encVal a), .rd .pstep l] (getA a l) :=
  pspec_of_vcL Γ_good Tryd.func78 rfl Tryd.call78 Tryd.results78 Tryd.ntmps78 (Nat.le_of_ble_eq_true rfl) (w_get hu a l ha)
end
end Go.Proofs.YtdcdmojbkmedpaaDoor
end
section
namespace Go.Proofs.YtdcdmojbkmedpaaDoor
set_option linter.unusedSectionVars false
set_option linter.unusedSimpArgs false
set_option linter.unusedVariables false
open Go Go.SX Go.Vl
set_option maxRecDepth 100000
set_option maxHeartbeats 0
def ownA (a : Val) (m n : Nat) : AV := .ag 0 [.i .i64 a.kind, .i .i64 a.n, .i .u64 a.f, .s a.s, .vec m .val a.l, .vec n .ent a.e]
section
variable [G : Globs]
theorem w_ownO (a : Val) (hl : a.l.length ≤ 100000000) (he : a.e.length ≤ 100000000) (hc : ∀ x ∈ a.l, PSpec Tryd.prog 76 [.agg (encVal x)] (.agg (encVal x))) (hp : ∀ x ∈ a.e, PSpec Tryd.prog 76 [.agg (encVal x.2)] (.agg (encVal x.2))) : vc Tryd.prog (Γ.kp 26) 48 [1, 2, 3, 4, 6, 8, 15, 16, 17, 18, 29, 30, 31, 32, 1000, 1001] (Tryd.f76.body.getD .skip) (postBK (Γ.kp 26) [.cell 2 26] (.ag 0 [.i .i64 a.kind, .i .i64 a.n, .i .u64 a.f, .s a.s, .vec 1000 .val a.l, .vec 1001 .ent a.e]) []) ⟨argSlots 0 [.agg (encVal a)], []⟩ := by
  refine Exists.intro [.blk [0, 1, 2, 3, 4, 5]] (And.intro (by kernel_rfl) ?_)
  intro hml
  refine Exists.intro [] (Exists.intro [(1, 4, 47, .val)] (Exists.intro [] (Exists.intro Nat (Exists.intro (fun i => i ≤ a.l.length) (Exists.intro (fun i => ⟨[(1, .pt 1 0), (2, .pt 2 0), (4, .rd .ent a.e), (15, .rd .val a.l), (16, .i .i64 a.l.length), (17, .i .i64 i)], [(1, [.i .i64 a.kind, .i .i64 a.n, .i .u64 a.f, .s a.s, .vec 47 .val (a.l.take i), .nl]), (2, [.i .i64 0, .i .i64 0, .i .u64 0, .s [], .nl, .nl])]⟩) (Exists.intro (fun i => a.l.length - i) (Exists.intro 0 (And.intro (Nat.zero_le _) (And.intro ?_ ?_)))))))))
  · (repeat' (first | exact trivial | exact Or.inl rfl | exact Or.inr (Or.inl ⟨rfl, _, rfl⟩) | exact Or.inr (Or.inr (Or.inr ⟨_, _, _, rfl, rfl⟩)) | refine And.intro ?_ ?_))
  · rintro i hi
    refine And.intro (fun hz => ?_) (fun hz => ?_)
    · have hi : i < a.l.length := by have : (i : Int) < (a.l.length : Int) := of_decide_eq_true hz
                                     omega
      have hg : a.l.getD (Int.toNat (i : Int)) (dflt .val) = a.l[i] := by rw [Int.toNat_natCast, List.getD_eq_getElem?_getD, List.getElem?_eq_getElem hi]; rfl
      refine And.intro ⟨by omega, by omega⟩ ?_
      have hs := hc a.l[i] (List.getElem_mem hi)
      rw [← hg] at hs
      refine Exists.intro [.blk [0, 1, 2, 3, 4] [25], .one 5, .take 6, .one 7] (And.intro (by kernel_rfl) ?_)
      refine Exists.intro _ (And.intro (hs) ?_)
      rw [hg]
      refine And.intro (show ((a.l.take i).length + 1) * 88 ≤ 140737488355328 by rw [List.length_take]; omega) ?_
      (refine And.intro (rng64 (by omega) (by omega)) ?_)
      have e : a.l.take i ++ [(⟨a.l[i].kind, a.l[i].n, a.l[i].f, a.l[i].s, a.l[i].l, a.l[i].e⟩ : Val)] = a.l.take (i + 1) := by rw [val_eta, List.take_add_one, List.getElem?_eq_getElem hi]; rfl
      refine Exists.intro [(26, 47)] (Exists.intro (i + 1) (And.intro hi (And.intro ?_ ?_)))
      · (repeat' (first | exact trivial | exact Or.inl rfl | exact Or.inl ((congrArg (AV.vec 47 .val) e)) | refine And.intro ?_ ?_))
      · show a.l.length - (i + 1) < a.l.length - i
        omega
    · have hi : i = a.l.length := by have : ¬ (i : Int) < (a.l.length : Int) := of_decide_eq_false hz
                                     omega
      subst hi
      rw [List.take_length]
      intro hme
      refine Exists.intro [] (Exists.intro [(1, 5, 46, .ent)] (Exists.intro [] (Exists.intro Nat (Exists.intro (fun i => i ≤ a.e.length) (Exists.intro (fun i => ⟨[(1, .pt 1 0), (2, .pt 2 0), (29, .rd .ent a.e), (30, .i .i64 a.e.length), (31, .i .i64 i)], [(1, [.i .i64 a.kind, .i .i64 a.n, .i .u64 a.f, .s a.s, .vec 47 .val a.l, .vec 46 .ent (a.e.take i)]), (2, [.i .i64 0, .i .i64 0, .i .u64 0, .s [], .nl, .nl])]⟩) (Exists.intro (fun i => a.e.length - i) (Exists.intro 0 (And.intro (Nat.zero_le _) (And.intro ?_ ?_)))))))))
      · (repeat' (first | exact trivial | exact Or.inl rfl | exact Or.inr (Or.inl ⟨rfl, _, rfl⟩) | exact Or.inr (Or.inr (Or.inr ⟨_, _, _, rfl, rfl⟩)) | refine And.intro ?_ ?_))
      · rintro i hi
        refine And.intro (fun hz => ?_) (fun hz => ?_)
        · have hi : i < a.e.length := by have : (i : Int) < (a.e.length : Int) := of_decide_eq_true hz
                                         omega
          have hg : a.e.getD (Int.toNat (i : Int)) (dflt .ent) = a.e[i] := by rw [Int.toNat_natCast, List.getD_eq_getElem?_getD, List.getElem?_eq_getElem hi]; rfl
          refine And.intro ⟨by omega, by omega⟩ ?_
          have hs := hp a.e[i] (List.getElem_mem hi)
          rw [← hg] at hs
          refine Exists.intro [.blk [0, 1, 2, 3, 4, 5, 6, 7, 8] [43], .one 9, .take 10, .one 11] (And.intro (by kernel_rfl) ?_)
          refine Exists.intro _ (And.intro (hs) ?_)
          rw [hg]
          refine And.intro (show ((a.e.take i).length + 1) * 104 ≤ 140737488355328 by rw [List.length_take]; omega) ?_
          (refine And.intro (rng64 (by omega) (by omega)) ?_)
          have e : a.e.take i ++ [(a.e[i].1, (⟨a.e[i].2.kind, a.e[i].2.n, a.e[i].2.f, a.e[i].2.s, a.e[i].2.l, a.e[i].2.e⟩ : Val))] = a.e.take (i + 1) := by rw [val_eta, List.take_add_one, List.getElem?_eq_getElem hi]; rfl
          refine Exists.intro [(44, 46)] (Exists.intro (i + 1) (And.intro hi (And.intro ?_ ?_)))
          · (repeat' (first | exact trivial | exact Or.inl rfl | exact Or.inl ((congrArg (AV.vec 46 .ent) e)) | refine And.intro ?_ ?_))
          · show a.e.length - (i + 1) < a.e.length - i
            omega
        · have hi : i = a.e.length := by have : ¬ (i : Int) < (a.e.length : Int) := of_decide_eq_false hz
                                         omega
          subst hi
          rw [List.take_length]
          refine Exists.intro [(47, 1000), (46, 1001)] (And.intro rfl (by (repeat' (first | exact trivial | exact Or.inl rfl | exact Or.inr (Or.inl ⟨rfl, _, rfl⟩) | exact Or.inr (Or.inr (Or.inr ⟨_, _, _, rfl, rfl⟩)) | refine And.intro ?_ ?_))))
theorem s_ownO (a : Val) (hl : a.l.length ≤ 100000000) (he : a.e.length ≤ 100000000) (hc : ∀ x ∈ a.l, PSpec Tryd.prog 76 [.agg (encVal x)] (.agg (encVal x))) (hp : ∀ x ∈ a.e, PSpec Tryd.prog 76 [.agg (encVal x.2)] (.agg (encVal x.2))) : CSpec Tryd.prog 76 [.agg (encVal a)] [] (.ag 0 [.i .i64 a.kind, .i .i64 a.n, .i .u64 a.f, .s a.s, .vec 1000 .val a.l, .vec 1001 .ent a.e]) [] :=
  cspec_of_vc (Ctx.good_kp Γ_good 26) Tryd.func76 rfl Tryd.call76 Tryd.results76 Tryd.ntmps76 (Nat.le_of_ble_eq_true rfl) (Nat.le_of_ble_eq_true rfl) (by rfl) (w_ownO a hl he hc hp)
theorem s_OwnO (a : Val) (ha : VN 100000000 a) : CSpec Tryd.prog 76 [.agg (encVal a)] [] (ownA a 1000 1001) [] := by
  cases ha with
  | mk _ a1 a2 a3 a4 => exact s_ownO a a1 a2 (fun x hx => s_Own x (a3 x hx)) (fun x hx => s_Own x.2 (a4 x hx))
end
end Go.Proofs.YtdcdmojbkmedpaaDoor
end
section
namespace Go.Proofs.YtdcdmojbkmedpaaDoor
set_option linter.unusedSectionVars false
set_option linter.unusedSimpArgs false
set_option linter.unusedVariables false
open Go Go.SX Go.Ck Go.Vl Go.Ut Go.Up
set_option maxRecDepth 100000
set_option maxHeartbeats 1000000
section
variable [G : Globs]
theorem w_getO (hu : HasU8) (a : Val) (l : List PStep) (ha : VN 100000000 a) (hp : pathF l = 0) (h0 : (ledV a l).2 = 0) : vc Tryd.prog (Γ.kp 26) 35 [1, 2, 4, 5, 6, 8, 9, 13, 16, 17, 18, 19, 29, 1000, 1001] (Tryd.f78.body.getD .skip) (postBK (Γ.kp 26) [.cell 4 26, .tmp 5] (.ag 6 [.i .i64 (ledV a l).1.kind, .i .i64 (ledV a l).1.n, .i .u64 (ledV a l).1.f, .s (ledV a l).1.s, .vec 1000 .val (ledV a l).1.l, .vec 1001 .ent (ledV a l).1.e, .i .i64 0]) []) ⟨argSlots 0 [.agg (encVal a), .rd .pstep l], []⟩ := by
  refine Or.inl (Exists.intro _ (And.intro (s_pathC hu l) ?_))
  refine And.intro (fun hq => ?_) (fun hq => ?_)
  · have hq : pathF l ≠ 0 := by simpa using hq
    exact absurd hp hq
  have hq : ¬ pathF l ≠ 0 := by simpa using hq
  intro hl
  refine Exists.intro [] (Exists.intro [] (Exists.intro [] (Exists.intro Nat (Exists.intro (fun i => i ≤ (l).length ∧ ((ledV a (l.take i)).2 = 0)) (Exists.intro (fun i => ⟨[(2, .pt 2 0), (4, .pt 4 0), (5, .i .i64 0), (16, .rd .pstep l), (17, .i .i64 l.length), (18, .i .i64 i)], [(2, encVal (ledV a (l.take i)).1), (4, [.i .i64 0, .i .i64 0, .i .u64 0, .s [], .nl, .nl])]⟩) (Exists.intro (fun i => (l).length - i) (Exists.intro 0 (And.intro ⟨Nat.zero_le _, rfl⟩ (And.intro ?_ ?_)))))))))
  · (repeat' (first | exact trivial | exact Or.inl rfl | exact Or.inr (Or.inl ⟨rfl, _, rfl⟩) | exact Or.inr (Or.inr (Or.inr ⟨_, _, _, rfl, rfl⟩)) | refine And.intro ?_ ?_))
  rintro i ⟨hi, hI⟩
  refine And.intro (fun hz => ?_) (fun hz => ?_)
  · have hi := ltD hz
    have hg := getI (τ := .pstep) hi
    refine And.intro ⟨by omega, by omega⟩ ?_
    rw [hg]
    have hs := s_part (ledV a (l.take i)).1 l[i]
    have hap := ledV_append (l.take i) [l[i]] a hI
    rw [← take_snoc hi, ledV_one] at hap
    have hap2 := ledV_append (l.take i) (l.drop i) a hI
    rw [List.take_append_drop, List.drop_eq_getElem_cons hi, ledV] at hap2
    have := len_le hl
    refine Or.inl (Exists.intro _ (And.intro (hs) ?_))
    refine And.intro (fun hq => ?_) (fun hq => ?_)
    · have hq : (partV (ledV a (l.take i)).1 l[i]).2 ≠ 0 := by simpa using hq
      rw [if_pos hq] at hap2
      exact absurd (by rw [hap2] at h0; exact h0) hq
    · have hq : ¬ (partV (ledV a (l.take i)).1 l[i]).2 ≠ 0 := by simpa using hq
      rw [if_neg hq] at hap
      have e1 : (ledV a (l.take (i + 1))).1 = (partV (ledV a (l.take i)).1 l[i]).1 := by rw [hap]
      (refine And.intro (rng64 (by omega) (by omega)) ?_)
      refine Exists.intro [] (Exists.intro (_ + 1) (And.intro ⟨hi, (by rw [hap])⟩ (And.intro ?_ ?_)))
      · (repeat' (first | exact trivial | exact Or.inl rfl | exact Or.inl ((congrArg (fun v : Val => AV.i .i64 v.kind) e1.symm)) | exact Or.inl ((congrArg (fun v : Val => AV.i .i64 v.n) e1.symm)) | exact Or.inl ((congrArg (fun v : Val => AV.i .u64 v.f) e1.symm)) | exact Or.inl ((congrArg (fun v : Val => AV.s v.s) e1.symm)) | exact Or.inl ((congrArg (fun v : Val => AV.rd .val v.l) e1.symm)) | exact Or.inl ((congrArg (fun v : Val => AV.rd .ent v.e) e1.symm)) | refine And.intro ?_ ?_))
      · (exact Nat.sub_lt_sub_left (by omega) (by omega))
  · (have hi := geD hi hz)
    subst hi
    rw [List.take_length] at hI ⊢
    refine Or.inr (Or.inl (Exists.intro [] (Exists.intro _ (Exists.intro _ (Exists.intro _ (Exists.intro _ (Exists.intro _ (Exists.intro [(1000, 7), (1001, 8)] (And.intro (s_OwnO (ledV a l).1 (ledV_keep (R := VN 100000000) (vn_zero _) (fun _ h _ hx => vn_part h hx) l a ha)) ?_)))))))))
    refine (And.intro rfl (And.intro rfl (And.intro rfl (And.intro rfl ?_))))
    refine Exists.intro [(7, 1000), (8, 1001)] (And.intro rfl (by (repeat' (first | exact trivial | exact Or.inl rfl | exact Or.inr (Or.inl ⟨rfl, _, rfl⟩) | exact Or.inr (Or.inr (Or.inr ⟨_, _, _, rfl, rfl⟩)) | refine And.intro ?_ ?_))))
theorem s_getO (hu : HasU8) (a : Val) (l : List PStep) (ha : VN 100000000 a) (hp : pathF l = 0) (h0 : (ledV a l).2 = 0) : CSpec Tryd.prog 78 [.agg (encVal a), .rd .pstep l] [] (.ag 6 [.i .i64 (ledV a l).1.kind, .i .i64 (ledV a l).1.n, .i .u64 (ledV a l).1.f, .s (ledV a l).1.s, .vec 1000 .val (ledV a l).1.l, .vec 1001 .ent (ledV a l).1.e, .i .i64 0]) [] :=
  cspec_of_vc (Ctx.good_kp Γ_good 26) Tryd.func78 rfl Tryd.call78 Tryd.results78 Tryd.ntmps78 (Nat.le_of_ble_eq_true rfl) (Nat.le_of_ble_eq_true rfl) (by rfl) (w_getO hu a l ha hp h0)
end
end Go.Proofs.YtdcdmojbkmedpaaDoor
end
section
namespace Go.Proofs.YtdcdmojbkmedpaaDoor
set_option linter.unusedSectionVars false
set_option linter.unusedSimpArgs false
set_option linter.unusedVariables false
open Go Go.SX Go.Vl
set_option maxRecDepth 100000
set_option maxHeartbeats 0
section
variable [G : Globs]
theorem w_with (l : List Ent) (k : Str) (a : Val) (hl1 : l.length ≤ 100000000) : VCs Tryd.prog Γ 39 [0, 1, 5, 6, 7, 23] (Tryd.f151.body.getD .skip) (postK Γ [.tmp 6] (fun v => v = .rd .ent (putE l k a))) ⟨argSlots 0 [.rd .ent l, .s k, .agg (encVal a)], []⟩ := by
  refine VCs.seq (by first | exact Γ_good | exact Ctx.good_kp Γ_good _) ?_
  refine VCs.seq (by first | exact Γ_good | exact Ctx.good_kp Γ_good _) ?_
  refine Or.inl (Exists.intro _ (And.intro (s_wout l k hl1) ?_))
  have hml : (withoutE l k).length ≤ l.length := List.length_filter_le _ _
  unfold putE
  generalize withoutE l k = m at hml
  refine VCs.seq (by first | exact Γ_good | exact Ctx.good_kp Γ_good _) ?_
  refine VCs.cut (by first | exact Γ_good | exact Ctx.good_kp Γ_good _) Unit (fun _ => True) (fun _ => ⟨[(0, .rd .ent m), (1, .s k), (5, .pt 5 0), (7, .i .i64 (m.findIdx (keyGt k) : Nat))], [(5, encVal a)]⟩) ?_ ?_
  · refine Exists.intro [] (Exists.intro [] (Exists.intro [] (Exists.intro Nat (Exists.intro (fun i => i ≤ m.length ∧ i ≤ m.findIdx (keyGt k)) (Exists.intro (fun i => ⟨[(0, .rd .ent m), (1, .s k), (5, .pt 5 0), (7, .i .i64 i)], [(5, encVal a)]⟩) (Exists.intro (fun i => m.length - i) (Exists.intro 0 (And.intro ⟨Nat.zero_le _, Nat.zero_le _⟩ (And.intro ?_ ?_)))))))))
    · (repeat' (first | exact trivial | exact Or.inl rfl | exact Or.inr (Or.inl ⟨rfl, _, rfl⟩) | exact Or.inr (Or.inr (Or.inr ⟨_, _, _, rfl, rfl⟩)) | refine And.intro ?_ ?_))
    · rintro i ⟨hi, hf⟩
      intro _
      refine And.intro (fun hz => ?_) (fun hz => ?_)
      · have hi : i < m.length := by have : (i : Int) < (m.length : Int) := of_decide_eq_true hz
                                     omega
        have hg : m.getD (Int.toNat (i : Int)) (dflt .ent) = m[i] := by rw [Int.toNat_natCast, List.getD_eq_getElem?_getD, List.getElem?_eq_getElem hi]; rfl
        refine And.intro ⟨by omega, by omega⟩ ?_
        refine And.intro (fun hq => ?_) (fun hq => ?_)
        · have hq : keyGt k m[i] = false := by
            rw [hg] at hq
            have hq : (Op.bytesLess m[i].1 k || m[i].1 == k) = true := hq
            rw [keyGt, hq]; rfl
          (refine And.intro (rng64 (by omega) (by omega)) ?_)
          refine Exists.intro [] (Exists.intro (i + 1) (And.intro ⟨hi, ix_miss hi hf hq⟩ (And.intro ?_ ?_)))
          · (repeat' (first | exact trivial | exact Or.inl rfl | exact Or.inr (Or.inl ⟨rfl, _, rfl⟩) | exact Or.inr (Or.inr (Or.inr ⟨_, _, _, rfl, rfl⟩)) | refine And.intro ?_ ?_))
          · show m.length - (i + 1) < m.length - i
            omega
        · have hq : keyGt k m[i] = true := by
            rw [hg] at hq
            have hq : (Op.bytesLess m[i].1 k || m[i].1 == k) = false := hq
            rw [keyGt, hq]; rfl
          have e : i = m.findIdx (keyGt k) := by
            have := List.not_of_lt_findIdx (p := keyGt k) (xs := m) (i := i)
            rcases Nat.lt_or_ge i (m.findIdx (keyGt k)) with h1 | h1
            · have := this h1
              rw [hq] at this
              cases this
            · omega
          refine Exists.intro () (And.intro trivial ?_)
          (repeat' (first | exact trivial | exact Or.inl rfl | exact Or.inl ((congrArg (fun n : Nat => AV.i .i64 n) e)) | refine And.intro ?_ ?_))
      · have hi : i = m.length := by have : ¬ (i : Int) < (m.length : Int) := of_decide_eq_false hz
                                     omega
        have e : i = m.findIdx (keyGt k) := by
          have := List.findIdx_le_length (p := keyGt k) (xs := m)
          omega
        refine And.intro (fun h9 => Bool.noConfusion h9) (fun _ => ?_)
        refine Exists.intro () (And.intro trivial ?_)
        (repeat' (first | exact trivial | exact Or.inl rfl | exact Or.inl ((congrArg (fun n : Nat => AV.i .i64 n) e)) | refine And.intro ?_ ?_))
  rintro _ _
  have hle := List.findIdx_le_length (p := keyGt k) (xs := m)
  generalize m.findIdx (keyGt k) = j at hle
  refine VCs.of_vc (by first | exact Γ_good | exact Ctx.good_kp Γ_good _) ?_
  refine Exists.intro [.take 0, .take 1, .take 2, .take 4, .take 9, .take 10, .take 11, .tree 4 [3, 5, 6, 7] (.opt 3 (.opt 5 (.opt 6 (.opt 7 .fin .non) .non) .non) (.opt 5 (.opt 3 (.opt 6 (.opt 7 .fin .non) .non) (.opt 6 (.opt 3 (.opt 7 .fin .non) (.opt 7 (.opt 3 .fin .non) .non)) .non)) .non)), .one 8, .one 12, .take 13] (And.intro (by kernel_rfl) ?_)
  refine And.intro ⟨by omega, by omega, by omega⟩ ?_
  refine And.intro ⟨by omega, by omega⟩ ?_
  have hob : (List.drop (Int.toNat 0) (m.take (Int.toNat (j : Int)))).length * 104 ≤ 140737488355328 := by
    rw [List.length_drop, List.length_take]
    omega
  refine Exists.intro ⟨[(29, .vec 29 .ent (m.take j)), (33, .vec 33 .ent [(k, ⟨a.kind, a.n, a.f, a.s, a.l, a.e⟩)]), (37, .rd .ent ((m.take m.length).drop j))], []⟩ (And.intro ?_ ?_)
  · repeat' (first | exact trivial | exact hob | exact Or.inl rfl | refine And.intro ?_ ?_)
  rw [List.take_length]
  refine And.intro (show ((m.take j).length + 1) * 104 ≤ 140737488355328 by rw [List.length_take]; omega) ?_
  refine And.intro (show ((m.take j ++ [(k, (⟨a.kind, a.n, a.f, a.s, a.l, a.e⟩ : Val))]).length + (m.drop j).length) * 104 ≤ 140737488355328 by rw [List.length_append, List.length_take, List.length_drop, List.length_singleton]; omega) ?_
  have e : m.take j ++ [(k, (⟨a.kind, a.n, a.f, a.s, a.l, a.e⟩ : Val))] ++ m.drop j = m.take j ++ (k, a) :: m.drop j := by rw [val_eta, List.append_assoc]; rfl
  exact congrArg (AV.rd .ent) e
theorem s_with (l : List Ent) (k : Str) (a : Val) (hl1 : l.length ≤ 100000000) : PSpec Tryd.prog 151 [.rd .ent l, .s k, .agg (encVal a)] (.rd .ent (putE l k a)) :=
  pspec_of_VCs Γ_good Tryd.func151 rfl Tryd.call151 Tryd.results151 Tryd.ntmps151 (Nat.le_of_ble_eq_true rfl) (w_with l k a hl1) Γ_good
end
end Go.Proofs.YtdcdmojbkmedpaaDoor
end
section
namespace Go.Proofs.YtdcdmojbkmedpaaDoor
set_option linter.unusedSectionVars false
set_option linter.unusedSimpArgs false
set_option linter.unusedVariables false
open Go Go.SX Go.Vl
set_option maxRecDepth 100000
set_option maxHeartbeats 0
section
variable [G : Globs]
theorem pspec_im {P : Program} {f : FuncId} {args args' : List AV} {r : AV} (h : PSpec P f args r) (hle : ∀ (O : Nat → Prop) (w : World) (vs : List Value), All2 (Im O w) args' vs → All2 (Im O w) args vs) : PSpec P f args' r :=
  ⟨h.1, fun O w vs hO hG hargs => h.2 O w vs hO hG (hle O w vs hargs)⟩
theorem im_nl {O : Nat → Prop} {w : World} {a b c d e : AV} {u : Value} (h : Im O w (.agg [a, b, c, d, .nl, e]) u) : Im O w (.agg [a, b, c, d, .rd .val [], e]) u := by
  cases h with
  | agg _ vs h1 h2 h3 =>
    refine .agg _ vs h1 h2 fun j av y hav hy => ?_
    match j with
    | 0 => exact h3 0 av y hav hy
    | 1 => exact h3 1 av y hav hy
    | 2 => exact h3 2 av y hav hy
    | 3 => exact h3 3 av y hav hy
    | 4 =>
      have := h3 4 .nl y rfl hy
      simp at hav
      subst hav
      cases this
      exact .rd0 _ _ _ (Nat.zero_le _)
    | 5 => exact h3 5 av y hav hy
    | j + 6 => simp at hav
end
end Go.Proofs.YtdcdmojbkmedpaaDoor
end
section
namespace Go.SX
set_option linter.unusedSectionVars false
set_option linter.unusedSimpArgs false
set_option linter.unusedVariables false
variable {P : Program}
/-- a row of which cells are turned -/
def spl (cur : Array Value) (o : Nat) (cs : List Value) : Array Value := (cur.toList.take o ++ cs ++ cur.toList.drop (o + cs.length)).toArray
theorem spl_size {cur : Array Value} {o : Nat} {cs : List Value} (h : o + cs.length ≤ cur.size) : (spl cur o cs).size = cur.size := by
  have : cur.toList.length = cur.size := Array.length_toList
  simp only [spl, List.size_toArray, List.length_append, List.length_take, List.length_drop, this]
  omega
theorem spl_at {cur : Array Value} {o : Nat} {cs : List Value} (h : o + cs.length ≤ cur.size) (k : Nat) : (spl cur o cs)[k]? = if k < o then cur[k]? else if k < o + cs.length then cs[k - o]? else cur[k]? := by
  have hl : cur.toList.length = cur.size := Array.length_toList
  rw [spl, List.getElem?_toArray, List.append_assoc]
  have ht : (cur.toList.take o).length = o := by rw [List.length_take, hl]; omega
  by_cases h1 : k < o
  · rw [if_pos h1, List.getElem?_append_left (by omega), List.getElem?_take, if_pos h1, Array.getElem?_toList]
  · rw [if_neg h1, List.getElem?_append_right (by omega), ht]
    by_cases h2 : k < o + cs.length
    · rw [if_pos h2, List.getElem?_append_left (by omega)]
    · rw [if_neg h2, List.getElem?_append_right (by omega), List.getElem?_drop, Array.getElem?_toList]
      congr 1
      omega
/-- all is read before anything is written -/
theorem run_copyR (w : World) (dT sT ty elem : TypeId) (z g o dLen dCap : Nat) (a : Addr) (sLen sCap : Nat) (cs : List Value) (cur : Array Value) (e : TypeId)
    (hu : P.underlying dT = some (.slice elem)) (hs : ∀ w, (Go.sizeOf elem).run P w = .ok z w) (hn : cs.length = Nat.min sLen dLen * z)
    (hsrc : ∀ j v, cs[j]? = some v → w.cell? (a.add j) = some v) (hh : w.heap[g]? = some (.cells cur e (0, 0))) (hfit : o + cs.length ≤ cur.size) (h1 : ∀ v ∈ cs, v.oneCell' = true) :
    (Builtin.copy_ #[dT, sT] ty #[.slice (some ⟨g, o, none⟩) dLen dCap, .slice (some a) sLen sCap]).run P w = .ok (goInt (Nat.min sLen dLen)) (w.setRow g (spl cur o cs)) := by
  have hl := run_loadCells_list (P := P) w a cs hsrc
  have hst := run_storeCells_at P g o e cs 0 cur w hh (by simpa using hfit) h1
  simp only [Nat.add_zero] at hst
  simp [Builtin.copy_, run_underlying hu, Builtin.lenOf, Builtin.firstCells, hs, ← hn, hl, hst, spl]
section
variable [Globs]
theorem All2.take {α γ : Type} {R : α → γ → Prop} {a : List α} {b : List γ} (h : All2 R a b) (n : Nat) : All2 R (a.take n) (b.take n) := by
  refine ⟨by rw [List.length_take, List.length_take, h.1], fun j x y hx hy => ?_⟩
  rw [List.getElem?_take] at hx hy
  split at hx
  · rename_i hj
    rw [if_pos hj] at hy
    exact h.2 j x y hx hy
  · cases hx
theorem All2.drop {α γ : Type} {R : α → γ → Prop} {a : List α} {b : List γ} (h : All2 R a b) (n : Nat) : All2 R (a.drop n) (b.drop n) := by
  refine ⟨by rw [List.length_drop, List.length_drop, h.1], fun j x y hx hy => ?_⟩
  rw [List.getElem?_drop] at hx hy
  exact h.2 _ x y hx hy
theorem flat_take (τ : Ty) (l : List (den τ)) (i : Nat) (hi : i ≤ l.length) : flat τ (l.take i) = (flat τ l).take (i * esz τ) := by
  have h := flat_append τ (l.take i) (l.drop i)
  rw [List.take_append_drop] at h
  rw [h, List.take_left' (by rw [flat_length, List.length_take, Nat.min_eq_left hi])]
theorem flat_drop (τ : Ty) (l : List (den τ)) (i : Nat) (hi : i ≤ l.length) : flat τ (l.drop i) = (flat τ l).drop (i * esz τ) := by
  have h := flat_append τ (l.take i) (l.drop i)
  rw [List.take_append_drop] at h
  rw [h, List.drop_left' (by rw [flat_length, List.length_take, Nat.min_eq_left hi])]
/-- the cells of a list into which one element is put -/
theorem ins_cells {O : Nat → Prop} {w : World} {τ : Ty} {l : List (den τ)} {x : den τ} {us vs : List Value} (h : All2 (Im O w) (flat τ l) us) (h2 : All2 (Im O w) (flat τ [x]) vs) (i : Nat) (hi : i ≤ l.length) :
    All2 (Im O w) (flat τ (l.take i ++ x :: l.drop i)) (us.take (i * esz τ) ++ (vs ++ us.drop (i * esz τ))) := by
  rw [flat_append, show x :: l.drop i = [x] ++ l.drop i from rfl, flat_append, flat_take τ l i hi, flat_drop τ l i hi]
  exact (h.take _).append (h2.append (h.drop _))
/-- a row of which three parts are known -/
theorem row_pre {row : Array Value} {A B C : List Value} (h1 : ∀ j, j < A.length → row[j]? = A[j]?) (h2 : ∀ j, j < B.length → row[A.length + j]? = B[j]?) (h3 : ∀ j, j < C.length → row[A.length + B.length + j]? = C[j]?) :
    ∀ (j : Nat) u, (A ++ (B ++ C))[j]? = some u → row[j]? = some u := by
  intro j u hj
  by_cases c1 : j < A.length
  · rw [List.getElem?_append_left c1] at hj
    rw [h1 j c1, hj]
  · rw [List.getElem?_append_right (by omega)] at hj
    by_cases c2 : j - A.length < B.length
    · rw [List.getElem?_append_left c2] at hj
      have := h2 _ c2
      rw [show A.length + (j - A.length) = j by omega] at this
      rw [this, hj]
    · rw [List.getElem?_append_right (by omega)] at hj
      have c3 : j - A.length - B.length < C.length := (List.getElem?_eq_some_iff.1 hj).1
      have := h3 _ c3
      rw [show A.length + B.length + (j - A.length - B.length) = j by omega] at this
      rw [this, hj]
/-- where one own slice is handed back -/
theorem vec_end {F : Fr} {X : Nat → Prop} {N : Nat} {s : St} {β : Nat → Option Nat} {a : Act} {w w' : World} (hN : 1 ≤ N) (hI : InvB w F X N s β a w) {id g c : Nat} {τ : Ty} {L : List (den τ)} {cur : Array Value} {e : TypeId} {us : List Value}
    (hstp : Stp (fun k => k = g) w w') (hg : (Nm s id ∧ β id = some g) ∨ w.heap.size ≤ g) (hh : w'.heap[g]? = some (.cells cur e (0, 0))) (hlc : L.length ≤ c) (hc : c ≤ maxLen) (hsz : cur.size = c * esz τ)
    (hus : All2 (Im (Own X s β) w) (flat τ L) us) (hpre : ∀ (j : Nat) u, us[j]? = some u → cur[j]? = some u) (ha : a.defers = [] := by rfl) :
    InvB w F X 1 ⟨[(0, .vec id τ L)], []⟩ (fun n => if n = id then some g else none) ⟨#[.slice (some ⟨g, 0, none⟩) L.length c], []⟩ w' := by
  have hNm : ∀ n, Nm ⟨[(0, .vec id τ L)], []⟩ n → n = id := by
    rintro n (⟨cs, h⟩ | ⟨m, h⟩ | ⟨b, cs, h, _⟩)
    · cases h
    · simp only [look] at h
      cases hb : Nat.beq 0 m with
      | true => rw [hb] at h; simpa [ids, ids0] using h
      | false => rw [hb] at h; simp [ids, ids0] at h
    · cases h
  have hO : ∀ k, Own X ⟨[(0, .vec id τ L)], []⟩ (fun n => if n = id then some g else none) k → X k ∨ k = g := by
    rintro k (h | ⟨n, h1, h2⟩)
    · exact .inl h
    · have := hNm n h1
      subst this
      simp only [if_true] at h2
      injection h2 with h2
      exact .inr h2.symm
  have hgo : ∀ k, k < w.heap.size → k = g → Own X s β k := by
    rintro k hk rfl
    rcases hg with ⟨h1, h2⟩ | h1
    · exact .inr ⟨id, h1, h2⟩
    · omega
  have hlt : g < w'.heap.size := (Array.getElem?_eq_some_iff.1 hh).1
  have hown : w.heap.size ≤ g ∨ F.own g := by
    rcases hg with ⟨h1, h2⟩ | h1
    · exact (hI.own id g h1 h2).2
    · exact .inl h1
  refine ⟨hstp.mono (fun k hk e => ?_), fun n => ?_, rfl, fun n cs h => (by cases h), fun n m k hn hm _ _ => (hNm n hn).trans (hNm m hm).symm, fun n k hn hk => ?_, ha.symm.trans hI.defers, hI.ext2, fun n cs k h => (by cases h), fun n hn => hI.pinN n (by omega), hI.gl⟩
  · rcases hown with h | h
    · omega
    · rw [e]; exact h
  · show Rel _ _ _ (look [(0, .vec id τ L)] n) _
    simp only [look]
    cases hb : Nat.beq 0 n with
    | true =>
      have := Nat.eq_of_beq_eq_true hb
      subst this
      refine vec_of (β := fun n => if n = id then some g else none) (d := id) (g := g) (if_pos rfl) hh hlc hc hsz (hus.mono fun _ _ _ _ him => him.step hstp hgo fun k hk ho => ?_) hpre
      rcases hO k ho with h | h
      · exact .inl h
      · exact hgo k hk h
    | false => exact Rel.x
  · have := hNm n hn
    subst this
    simp only [if_true] at hk
    injection hk with hk
    subst hk
    exact ⟨hlt, hown⟩
/-- what is read of an own slice's block -/
theorem vec_one {O : Nat → Prop} {w : World} {τ : Ty} {l : List (den τ)} {cur : Array Value} (h : All2 (Im O w) (flat τ l) (cur.toList.take (l.length * esz τ))) : ∀ v ∈ cur.toList.take (l.length * esz τ), v.oneCell' = true := by
  intro v hv
  obtain ⟨j, hj, rfl⟩ := List.getElem_of_mem hv
  have hj' : j < (flat τ l).length := by rw [h.1]; exact hj
  exact plain_one (h.2 j _ _ (List.getElem?_eq_getElem hj') (List.getElem?_eq_getElem hj)) (flat_plain (List.getElem_mem hj'))
end
end Go.SX
end
section
namespace Go.Proofs.YtdcdmojbkmedpaaDoor
set_option linter.unusedSectionVars false
set_option linter.unusedSimpArgs false
set_option linter.unusedVariables false
open Go Go.SX Go.RowKit Go.Lib
set_option maxRecDepth 100000
set_option maxHeartbeats 4000000
theorem ins_szE (w : World) : (Go.sizeOf 109).run Tryd.prog w = .ok 7 w := letI : Globs := ⟨[]⟩; elem_sz ti109_ok (τ := .ent) rfl w
theorem ins_ovE (w : World) (g vb o m vc lb cb : Nat) (cur cur2 : Array Value) (e e2 : TypeId) (hvb : vb ≠ g) (hg : w.heap[g]? = some (.cells cur e (0, 0))) (hv : w.heap[vb]? = some (.cells cur2 e2 (0, 0))) (hk : cur.size ≠ 0) :
    (callFunc 243 #[.slice (some ⟨vb, 0, none⟩) m vc, .slice (some ⟨g, o, none⟩) lb cb]).run Tryd.prog w = .ok (.value (.bool false)) w := by
  rw [run_callFunc_extern Tryd.func243 (by kernel_rfl) (by kernel_rfl) (by kernel_rfl) (e := Extern.SlicesOverlaps.overlaps #[24, 24] #[4]) (by kernel_rfl),
      Lib.run_overlaps_apart w 24 4 109 Tryd.underlying24 7 ins_szE ⟨vb, 0, none⟩ ⟨g, o, none⟩ m vc lb cb hvb e2 e cur2.size cur.size (by simp [World.shape?, hv]) (by simp [World.shape?, hg]) hk (by simp [World.frozen?, hv]) (by simp [World.frozen?, hv])]
  rfl
theorem ins_shiftE (g n c i vb m vc : Nat) (cur cur2 : Array Value) (e e2 : TypeId) (w : World) (hi : i < n) (hm : 0 < m) (hroom : n + m ≤ c) (hc63 : c ≤ 9223372036854775807) (hvb : vb ≠ g)
    (hg : w.heap[g]? = some (.cells cur e (0, 0))) (hcs : cur.size = c * 7) (hv : w.heap[vb]? = some (.cells cur2 e2 (0, 0))) (hcs2 : cur2.size = vc * 7) (hvc : m ≤ vc)
    (h1c : ∀ v ∈ cur.toList.take (n * 7), v.oneCell' = true) (h1v : ∀ v ∈ cur2.toList.take (m * 7), v.oneCell' = true) :
    Calls Tryd.prog 205 #[.slice (some ⟨g, 0, none⟩) n c, .int .i64 i, .slice (some ⟨vb, 0, none⟩) m vc] w fun e w' =>
      e = .returned (.slice (some ⟨g, 0, none⟩) (n + m) c) ∧ w' = (w.drew.setRow g (spl cur ((i + m) * 7) ((cur.toList.take (n * 7)).drop (i * 7)))).setRow g (spl (spl cur ((i + m) * 7) ((cur.toList.take (n * 7)).drop (i * 7))) (i * 7) (cur2.toList.take (m * 7))) := by
  have mixed : Tryd.prog.follows .mixedOrders = true := by kernel_rfl
  have hz1 : ¬ ((m : Int) = 0) := by omega
  have hz2 : ¬ ((i : Int) = (n : Int)) := by omega
  have hw1 : IntKind.i64.wrap ((i : Int) + (m : Int)) = (i : Int) + (m : Int) := by rw [IntKind.wrap_i64]; omega
  have hb1 : (0 : Int) ≤ (i : Int) + (m : Int) := by omega
  have hin : i ≤ n := by omega
  have htn : ((i : Int) + (m : Int)).toNat = i + m := by omega
  have hb2 : ¬ (c = i + m) := by omega
  have hb3 : (i : Int) ≤ (n : Int) + (m : Int) := by omega
  have hb4 : ¬ (c = i) := by omega
  have hov : ∀ lb cb, (callFunc 243 #[.slice (some ⟨vb, 0, none⟩) m vc, .slice (some ⟨g, (i + m) * 7, none⟩) lb cb]).run Tryd.prog w = .ok (.value (.bool false)) w := fun lb cb =>
    ins_ovE w g vb _ m vc lb cb cur cur2 e e2 hvb hg hv (by omega)
  have hl : cur.toList.length = cur.size := Array.length_toList
  have hl2 : cur2.toList.length = cur2.size := Array.length_toList
  have hdl : ((cur.toList.take (n * 7)).drop (i * 7)).length = (n - i) * 7 := by rw [List.length_drop, List.length_take, hl]; omega
  have htl : (cur2.toList.take (m * 7)).length = m * 7 := by rw [List.length_take, hl2]; omega
  obtain ⟨r1, hr1⟩ : ∃ r1, r1 = spl cur ((i + m) * 7) ((cur.toList.take (n * 7)).drop (i * 7)) := ⟨_, rfl⟩
  have hfit : (i + m) * 7 + ((cur.toList.take (n * 7)).drop (i * 7)).length ≤ cur.size := by rw [hdl]; omega
  have hr1s : r1.size = cur.size := by rw [hr1]; exact spl_size hfit
  have hcp1 : ∀ ty dc sc, (Builtin.copy_ #[24, 24] ty #[.slice (some ⟨g, (i + m) * 7, none⟩) (n + m - (i + m)) dc, .slice (some ⟨g, i * 7, none⟩) (n + m - i) sc]).run Tryd.prog w.drew = .ok (goInt ((n - i : Nat) : Int)) (w.drew.setRow g r1) := fun ty dc sc => by
    have hmin : Nat.min (n + m - i) (n + m - (i + m)) = n - i := by show min _ _ = _; omega
    have := run_copyR w.drew 24 24 ty 109 7 g ((i + m) * 7) (n + m - (i + m)) dc ⟨g, i * 7, none⟩ (n + m - i) sc ((cur.toList.take (n * 7)).drop (i * 7)) cur e Tryd.underlying24 ins_szE (by rw [hdl, hmin])
      (fun j v hj => by
        rw [Addr.add_lit, cell_of_row w.drew g _ cur e (0, 0) hg]
        rw [List.getElem?_drop, List.getElem?_take] at hj
        split at hj
        · simpa using hj
        · cases hj) hg hfit (fun v hv => h1c v (List.mem_of_mem_drop hv))
    rw [hmin, ← hr1] at this
    exact this
  have hcp2 : ∀ (W : World), (∀ k : Nat, W.heap[k]? = (w.drew.setRow g r1).heap[k]?) → ∀ ty dc, (Builtin.copy_ #[24, 24] ty #[.slice (some ⟨g, i * 7, none⟩) (n + m - i) dc, .slice (some ⟨vb, 0, none⟩) m vc]).run Tryd.prog W = .ok (goInt ((m : Nat) : Int)) (W.setRow g (spl r1 (i * 7) (cur2.toList.take (m * 7)))) := fun W hW ty dc => by
    have hmin : Nat.min m (n + m - i) = m := by show min _ _ = _; omega
    have hvW : W.heap[vb]? = some (.cells cur2 e2 (0, 0)) := by rw [hW, setRow_other _ _ _ _ hvb]; exact hv
    have hgW : W.heap[g]? = some (.cells r1 e (0, 0)) := by rw [hW]; exact setRow_heap w.drew g cur r1 e (0, 0) hg
    have := run_copyR W 24 24 ty 109 7 g (i * 7) (n + m - i) dc ⟨vb, 0, none⟩ m vc (cur2.toList.take (m * 7)) r1 e Tryd.underlying24 ins_szE (by rw [htl, hmin])
      (fun j v hj => by
        rw [Addr.add_lit, cell_of_row W vb _ cur2 e2 (0, 0) hvW, Nat.zero_add]
        rw [List.getElem?_take] at hj
        split at hj
        · simpa using hj
        · cases hj) hgW (by rw [htl, hr1s]; omega) h1v
    rw [hmin] at this
    exact this
  rw [← hr1]
  clear hr1 hr1s h1c h1v hcs hcs2 hg hv hfit hl hl2 hdl htl
  go_enter Tryd.func205, Tryd.ntmps205
  go_wp2_with (simp only [hov])
  go_region_law_o (refine step_copy_runI rfl _ _ 24 24 rfl _ _ (by simp [Act.eval, Act.put]) (by simp [Act.eval, Act.put]) (hcp1 _ _ _) ?_)
  go_wp2_with (at_builtin; refine wpList_copy_runI _ rfl _ _ 24 24 rfl _ _ rfl rfl (hcp2 _ (fun _ => rfl) _ _) ?_)
  go_ret
  first | exact ⟨rfl, rfl⟩ | exact ⟨trivial, rfl⟩
theorem ins_end_roomE (g n c vb m vc : Nat) (cur cur2 : Array Value) (e e2 : TypeId) (w : World) (hm : 0 < m) (hroom : n + m ≤ c) (hc63 : c ≤ 9223372036854775807) (hvb : vb ≠ g)
    (hg : w.heap[g]? = some (.cells cur e (0, 0))) (hcs : cur.size = c * 7) (hv : w.heap[vb]? = some (.cells cur2 e2 (0, 0))) (hcs2 : cur2.size = vc * 7) (hvc : m ≤ vc)
    (h1c : ∀ v ∈ cur.toList.take (n * 7), v.oneCell' = true) (h1v : ∀ v ∈ cur2.toList.take (m * 7), v.oneCell' = true) (hbig : (n + m) * 104 ≤ 140737488355328) :
    Calls Tryd.prog 205 #[.slice (some ⟨g, 0, none⟩) n c, .int .i64 n, .slice (some ⟨vb, 0, none⟩) m vc] w fun e w' =>
      e = .returned (.slice (some ⟨g, 0, none⟩) (n + m) c) ∧ w' = w.setRow g (spl cur (n * 7) (cur2.toList.take (m * 7))) := by
  letI : Globs := ⟨[]⟩
  have mixed : Tryd.prog.follows .mixedOrders = true := by kernel_rfl
  have hz1 : ¬ ((m : Int) = 0) := by omega
  have hl : cur.toList.length = cur.size := Array.length_toList
  have hl2 : cur2.toList.length = cur2.size := Array.length_toList
  have htl : (cur2.toList.take (m * 7)).length = m * 7 := by rw [List.length_take, hl2]; omega
  have hrun : ∀ ty, (Builtin.append_ #[24, 24] ty #[.slice (some ⟨g, 0, none⟩) n c, .slice (some ⟨vb, 0, none⟩) m vc]).run Tryd.prog w = .ok (.slice (some ⟨g, 0, none⟩) (n + m) c) (w.setRow g (spl cur (n * 7) (cur2.toList.take (m * 7)))) := fun ty => by
    have hst := run_storeCells_at Tryd.prog g (n * 7) e (cur2.toList.take (m * 7)) 0 cur w hg (by rw [htl]; omega) h1v
    simp only [Nat.add_zero] at hst
    refine (run_append_gen (w := w) Tryd.underlying24 Tryd.underlying24 ti109_ok (τ := .ent) rfl ty (A := some ⟨g, 0, none⟩) (A2 := some ⟨vb, 0, none⟩) (n := n) (cap := c) (m := m) (c := vc) (olds := cur.toList.take (n * 7)) (news := cur2.toList.take (m * 7)) (fun w' hw => ?_) (fun w' hw => ?_) hbig (by unfold maxLen; omega)).1 hroom _ ?_
    · exact run_firstCells_some w' 7 n ⟨g, 0, none⟩ n c _ (by rw [List.length_take, hl]; omega) (fun j v hj => by
        rw [Addr.add_lit, cell_of_row w' g _ cur e (0, 0) (by rw [hw]; exact hg), Nat.zero_add]
        rw [List.getElem?_take] at hj
        split at hj
        · simpa using hj
        · cases hj)
    · exact run_firstCells_some w' 7 m ⟨vb, 0, none⟩ m vc _ htl (fun j v hj => by
        rw [Addr.add_lit, cell_of_row w' vb _ cur2 e2 (0, 0) (by rw [hw]; exact hv), Nat.zero_add]
        rw [List.getElem?_take] at hj
        split at hj
        · simpa using hj
        · cases hj)
    · show (storeCells ((⟨g, 0, none⟩ : Addr).add (n * 7)) _).run _ _ = _
      rw [Addr.add_lit, Nat.zero_add]
      exact hst
  clear h1c h1v hg hv hcs hcs2 hl hl2 htl
  go_enter Tryd.func205, Tryd.ntmps205
  go_wp2_with (at_builtin; refine Lib.wpList_append_run _ rfl _ _ _ _ rfl _ _ rfl rfl _ _ (hrun _) ?_)
  go_ret
  exact ⟨rfl, rfl⟩
theorem ins_end_growE (base : Option Addr) (n c vb m vc : Nat) (cs : List Value) (cur2 : Array Value) (e2 : TypeId) (w : World) (hm : 0 < m) (hnc : n ≤ c) (hroom : c < n + m)
    (hcl : cs.length = n * 7) (hcs : ∀ w' : World, w'.heap = w.heap → (Builtin.firstCells 7 n (.slice base n c)).run Tryd.prog w' = .ok cs.toArray w') (hv : w.heap[vb]? = some (.cells cur2 e2 (0, 0))) (hcs2 : cur2.size = vc * 7) (hvc : m ≤ vc)
    (h1v : ∀ v ∈ cur2.toList.take (m * 7), v.oneCell' = true) (hnil : base = none → n = 0 ∧ c = 0) (hbig : (n + m) * 104 ≤ 140737488355328) :
    Calls Tryd.prog 205 #[.slice base n c, .int .i64 n, .slice (some ⟨vb, 0, none⟩) m vc] w fun e w' =>
      ∃ z : Value, z.cells = ti109.zero.toArray ∧ e = .returned (.slice (some ⟨w.heap.size, 0, none⟩) (n + m) (grownCap w (n + m) c 109)) ∧
      w' = w.drew.alloc (.cells (cs.toArray ++ (cur2.toList.take (m * 7)).toArray ++ Builtin.zeroCells z.cells (grownCap w (n + m) c 109 - (n + m))) 109) := by
  letI : Globs := ⟨[]⟩
  have mixed : Tryd.prog.follows .mixedOrders = true := by kernel_rfl
  have hz1 : ¬ ((m : Int) = 0) := by omega
  have hl2 : cur2.toList.length = cur2.size := Array.length_toList
  have htl : (cur2.toList.take (m * 7)).length = m * 7 := by rw [List.length_take, hl2]; omega
  have hrun : ∃ z : Value, z.cells = ti109.zero.toArray ∧ ∀ ty, (Builtin.append_ #[24, 24] ty #[.slice base n c, .slice (some ⟨vb, 0, none⟩) m vc]).run Tryd.prog w =
      .ok (.slice (some ⟨w.heap.size, 0, none⟩) (n + m) (grownCap w (n + m) c 109)) (w.drew.alloc (.cells (cs.toArray ++ (cur2.toList.take (m * 7)).toArray ++ Builtin.zeroCells z.cells (grownCap w (n + m) c 109 - (n + m))) 109)) := by
    have h := fun ty => (run_append_gen (w := w) Tryd.underlying24 Tryd.underlying24 ti109_ok (τ := .ent) rfl ty (A := base) (A2 := some ⟨vb, 0, none⟩) (n := n) (cap := c) (m := m) (c := vc) (olds := cs) (news := cur2.toList.take (m * 7)) (fun w' hw => hcs w' hw) (fun w' hw => run_firstCells_some w' 7 m ⟨vb, 0, none⟩ m vc _ htl (fun j v hj => by
        rw [Addr.add_lit, cell_of_row w' vb _ cur2 e2 (0, 0) (by rw [hw]; exact hv), Nat.zero_add]
        rw [List.getElem?_take] at hj
        split at hj
        · simpa using hj
        · cases hj)) hbig (by unfold maxLen; omega)).2 hroom
    obtain ⟨z, hz, _⟩ := h 24
    refine ⟨z, hz, fun ty => ?_⟩
    obtain ⟨z', hz', h'⟩ := h ty
    rw [hz, ← hz']
    exact h'
  obtain ⟨z, hz, hrun⟩ := hrun
  obtain ⟨G, hG⟩ : ∃ G, G = grownCap w (n + m) c 109 := ⟨_, rfl⟩
  rw [← hG] at hrun ⊢
  obtain ⟨W1, hW1⟩ : ∃ W1, W1 = w.drew.alloc (.cells (cs.toArray ++ (cur2.toList.take (m * 7)).toArray ++ Builtin.zeroCells z.cells (G - (n + m))) 109) := ⟨_, rfl⟩
  rw [← hW1] at hrun
  refine Calls.mono (R := fun e w' => e = .returned (.slice (some ⟨w.heap.size, 0, none⟩) (n + m) G) ∧ w' = W1) ?_ (fun e w' h => ⟨z, hz, h.1, h.2.trans hW1⟩)
  clear h1v hv hcs2 hl2 htl hcs hW1 hG hz
  cases base with
  | none =>
    obtain ⟨h0, h0'⟩ := hnil rfl
    subst h0 h0'
    go_enter Tryd.func205, Tryd.ntmps205
    go_wp2_with (at_builtin; refine Lib.wpList_append_run _ rfl _ _ _ _ rfl _ _ rfl rfl _ _ (hrun _) ?_)
    go_ret
    exact ⟨rfl, rfl⟩
  | some a =>
    obtain ⟨ab, ao, asp⟩ := a
    go_enter Tryd.func205, Tryd.ntmps205
    go_wp2_with (at_builtin; refine Lib.wpList_append_run _ rfl _ _ _ _ rfl _ _ rfl rfl _ _ (hrun _) ?_)
    all_goals (go_ret; exact ⟨rfl, rfl⟩)
theorem ins_growE (g n c i vb m vc : Nat) (cur cur2 : Array Value) (e e2 : TypeId) (w : World) (hi : i < n) (hm : 0 < m) (hnc : n ≤ c) (hroom : c < n + m)
    (hg : w.heap[g]? = some (.cells cur e (0, 0))) (hcs : cur.size = c * 7) (hv : w.heap[vb]? = some (.cells cur2 e2 (0, 0))) (hcs2 : cur2.size = vc * 7) (hvc : m ≤ vc)
    (h1c : ∀ v ∈ cur.toList.take (n * 7), v.oneCell' = true) (h1v : ∀ v ∈ cur2.toList.take (m * 7), v.oneCell' = true) (hbig : (n + m) * 104 ≤ 140737488355328) :
    Calls Tryd.prog 205 #[.slice (some ⟨g, 0, none⟩) n c, .int .i64 i, .slice (some ⟨vb, 0, none⟩) m vc] w fun e' w' =>
      ∃ (row : Array Value) (W : World), row.size = grownCap w (n + m) c 109 * 7 ∧ (∀ j, j < i * 7 → row[j]? = cur[j]?) ∧
      e' = .returned (.slice (some ⟨w.heap.size, 0, none⟩) (n + m) (grownCap w (n + m) c 109)) ∧ W.heap = (w.drew.alloc (.cells row 109)).heap ∧ W.os = w.os ∧ W.tape = w.tape ∧ W.output = w.output ∧
      w' = (W.setRow w.heap.size (spl row (i * 7) (cur2.toList.take (m * 7)))).drew.setRow w.heap.size (spl (spl row (i * 7) (cur2.toList.take (m * 7))) ((i + m) * 7) ((cur.toList.take (n * 7)).drop (i * 7))) := by
  letI : Globs := ⟨[]⟩
  have mixed : Tryd.prog.follows .mixedOrders = true := by kernel_rfl
  have hz1 : ¬ ((m : Int) = 0) := by omega
  have hz2 : ¬ ((i : Int) = (n : Int)) := by omega
  have hz3 : (c : Int) < (n : Int) + (m : Int) := by omega
  have hbw : g < w.heap.size := (Array.getElem?_eq_some_iff.1 hg).1
  have hvw : vb < w.heap.size := (Array.getElem?_eq_some_iff.1 hv).1
  have hkk : (n : Int) + (m : Int) - (i : Int) = ((n + m - i : Nat) : Int) := by omega
  have hik : i + (n + m - i) = n + m := by omega
  have hl : cur.toList.length = cur.size := Array.length_toList
  have hl2 : cur2.toList.length = cur2.size := Array.length_toList
  have hdl : ((cur.toList.take (n * 7)).drop (i * 7)).length = (n - i) * 7 := by rw [List.length_drop, List.length_take, hl]; omega
  have htl : (cur2.toList.take (m * 7)).length = m * 7 := by rw [List.length_take, hl2]; omega
  obtain ⟨i0, z, hi0, hi1, hi2, hi3, hi4⟩ := ti109_ok.info
  have hzl : z.cells.size = 7 := by rw [hi4]; rfl
  have hold : (Builtin.firstCells i0.size i (.slice (some ⟨g, 0, none⟩) i c)).run Tryd.prog w.drew = .ok (cur.toList.take (i * 7)).toArray w.drew := by
    rw [hi1]
    exact run_firstCells_some w.drew 7 i ⟨g, 0, none⟩ i c _ (by rw [List.length_take, hl]; omega) (fun j v hj => by
        rw [Addr.add_lit, cell_of_row w.drew g _ cur e (0, 0) hg, Nat.zero_add]
        rw [List.getElem?_take] at hj
        split at hj
        · simpa using hj
        · cases hj)
  have hib : i0.bytes = 104 := hi2
  have his : i0.size = 7 := hi1
  have hrz : ∀ ty, (Builtin.append_ #[24, 3] ty #[.slice (some ⟨g, 0, none⟩) i c, .int .i64 ((n : Int) + (m : Int) - (i : Int))]).run Tryd.prog w =
      .ok (.slice (some ⟨w.heap.size, 0, none⟩) (n + m) (grownCap w (n + m) c 109)) (w.drew.alloc (.cells ((cur.toList.take (i * 7)).toArray ++ Builtin.zeroCells z.cells (n + m - i) ++ Builtin.zeroCells z.cells (grownCap w (n + m) c 109 - (n + m))) 109)) := fun ty => by
    have h := Lib.run_append_grow_zeros w 24 3 ty 109 i0 z .i64 .i64 Tryd.underlying24 Tryd.underlying3 hi0 hi3 (some ⟨g, 0, none⟩) i c _ hold (n + m - i) (by omega) (by omega) (by omega) (by omega) (by rw [hib]; omega) (by rw [hib, hik]; exact growslice_fits hroom hbig)
    rw [hik] at h
    rw [hkk]
    exact h
  obtain ⟨G, hG⟩ : ∃ G, G = grownCap w (n + m) c 109 := ⟨_, rfl⟩
  obtain ⟨ROW, hROW⟩ : ∃ ROW : Array Value, ROW = (cur.toList.take (i * 7)).toArray ++ Builtin.zeroCells z.cells (n + m - i) ++ Builtin.zeroCells z.cells (G - (n + m)) := ⟨_, rfl⟩
  rw [← hG] at hrz ⊢
  rw [← hROW] at hrz
  have hGn : n + m ≤ G := by rw [hG]; exact grownCap_ge w _ _ _
  have hG63 : G ≤ 9223372036854775807 := by
    have := grownCap_le_maxLen w (n + m) c 109 (by unfold maxLen; omega)
    rw [← hG] at this
    unfold maxLen at this
    omega
  have hRs : ROW.size = G * 7 := by
    rw [hROW]
    simp only [Array.size_append, List.size_toArray, size_zeroCells, hzl, List.length_take, hl]
    omega
  have hRa : ∀ j, j < i * 7 → ROW[j]? = cur[j]? := fun j hj => by
    rw [hROW, Array.append_assoc, Array.getElem?_append_left (by simp only [List.size_toArray, List.length_take, hl]; omega), List.getElem?_toArray, List.getElem?_take, if_pos hj, Array.getElem?_toList]
  obtain ⟨W1, hW1⟩ : ∃ W1, W1 = w.drew.alloc (.cells ROW 109) := ⟨_, rfl⟩
  have hWN : W1.heap[w.heap.size]? = some (.cells ROW 109 (0, 0)) := by rw [hW1]; exact heap_alloc_new w.drew _
  have hWo : ∀ k, k < w.heap.size → W1.heap[k]? = w.heap[k]? := fun k hk => by rw [hW1]; exact (Stp.alloc w.drew _).block k hk (fun h => h)
  rw [← hW1] at hrz
  have hcpA : ∀ (W : World), (∀ k : Nat, W.heap[k]? = W1.heap[k]?) → ∀ ty dc, (Builtin.copy_ #[24, 24] ty #[.slice (some ⟨w.heap.size, i * 7, none⟩) (n + m - i) dc, .slice (some ⟨vb, 0, none⟩) m vc]).run Tryd.prog W = .ok (goInt ((m : Nat) : Int)) (W.setRow w.heap.size (spl ROW (i * 7) (cur2.toList.take (m * 7)))) := fun W hW ty dc => by
    have hmin : Nat.min m (n + m - i) = m := by show min _ _ = _; omega
    have hvW : W.heap[vb]? = some (.cells cur2 e2 (0, 0)) := by rw [hW, hWo _ hvw]; exact hv
    have := run_copyR W 24 24 ty 109 7 w.heap.size (i * 7) (n + m - i) dc ⟨vb, 0, none⟩ m vc (cur2.toList.take (m * 7)) ROW 109 Tryd.underlying24 ins_szE (by rw [htl, hmin])
      (fun j v hj => by
        rw [Addr.add_lit, cell_of_row W vb _ cur2 e2 (0, 0) hvW, Nat.zero_add]
        rw [List.getElem?_take] at hj
        split at hj
        · simpa using hj
        · cases hj) (by rw [hW]; exact hWN) (by rw [htl, hRs]; omega) h1v
    rw [hmin] at this
    exact this
  have hRs2 : (spl ROW (i * 7) (cur2.toList.take (m * 7))).size = G * 7 := by rw [spl_size (by rw [htl, hRs]; omega), hRs]
  have hcpB : ∀ (W : World), (∀ k : Nat, W.heap[k]? = (W1.setRow w.heap.size (spl ROW (i * 7) (cur2.toList.take (m * 7)))).heap[k]?) → ∀ ty dc sc, (Builtin.copy_ #[24, 24] ty #[.slice (some ⟨w.heap.size, (i + m) * 7, none⟩) (n + m - (i + m)) dc, .slice (some ⟨g, i * 7, none⟩) (n - i) sc]).run Tryd.prog W = .ok (goInt ((n - i : Nat) : Int)) (W.setRow w.heap.size (spl (spl ROW (i * 7) (cur2.toList.take (m * 7))) ((i + m) * 7) ((cur.toList.take (n * 7)).drop (i * 7)))) := fun W hW ty dc sc => by
    have hmin : Nat.min (n - i) (n + m - (i + m)) = n - i := by show min _ _ = _; omega
    have hgW : W.heap[g]? = some (.cells cur e (0, 0)) := by rw [hW, setRow_other _ _ _ _ (by omega), hWo _ hbw]; exact hg
    have := run_copyR W 24 24 ty 109 7 w.heap.size ((i + m) * 7) (n + m - (i + m)) dc ⟨g, i * 7, none⟩ (n - i) sc ((cur.toList.take (n * 7)).drop (i * 7)) _ 109 Tryd.underlying24 ins_szE (by rw [hdl, hmin])
      (fun j v hj => by
        rw [Addr.add_lit, cell_of_row W g _ cur e (0, 0) hgW]
        rw [List.getElem?_drop, List.getElem?_take] at hj
        split at hj
        · simpa using hj
        · cases hj) (by rw [hW]; exact setRow_heap W1 _ ROW _ 109 (0, 0) hWN) (by rw [hdl, hRs2]; omega) (fun v hv => h1c v (List.mem_of_mem_drop hv))
    rw [hmin] at this
    exact this
  have hGi : ¬ (G = i) := by omega
  have hGim : ¬ (G = i + m) := by omega
  have hci : ¬ (c = i) := by omega
  refine Calls.mono (R := fun e' w' => e' = .returned (.slice (some ⟨w.heap.size, 0, none⟩) (n + m) G) ∧ w' = ((w.drew.alloc (.cells ROW 109)).setRow w.heap.size (spl ROW (i * 7) (cur2.toList.take (m * 7)))).drew.setRow w.heap.size (spl (spl ROW (i * 7) (cur2.toList.take (m * 7))) ((i + m) * 7) ((cur.toList.take (n * 7)).drop (i * 7)))) ?_ (fun e' w' h => ⟨ROW, w.drew.alloc (.cells ROW 109), hRs, hRa, h.1, rfl, rfl, rfl, rfl, h.2⟩)
  subst hW1
  have hE : ∀ k : Nat, ((w.alloc (.cells ROW 109)).drew).heap[k]? = (w.drew.alloc (.cells ROW 109)).heap[k]? := fun k => rfl
  have hF : ∀ k : Nat, (((w.alloc (.cells ROW 109)).drew.setRow w.heap.size (spl ROW (i * 7) (cur2.toList.take (m * 7)))).drew).heap[k]? = ((w.drew.alloc (.cells ROW 109)).setRow w.heap.size (spl ROW (i * 7) (cur2.toList.take (m * 7)))).heap[k]? := fun k => rfl
  have hw1 : IntKind.i64.wrap ((i : Int) + (m : Int)) = (i : Int) + (m : Int) := by rw [IntKind.wrap_i64]; omega
  have hb1 : (0 : Int) ≤ (i : Int) + (m : Int) := by omega
  have hin : i ≤ n := by omega
  have htn : ((i : Int) + (m : Int)).toNat = i + m := by omega
  have hb3 : (i : Int) ≤ (n : Int) := by omega
  clear hkk hik hold hROW hG hRs hRs2 hRa hg hv hcs hcs2 hi0 hi1 hi2 hi3 hi4 hib his hzl h1c h1v hWN hWo hl hl2 hdl htl
  go_enter Tryd.func205, Tryd.ntmps205
  go_wp2_with (first
    | (at_builtin; refine Lib.wpList_append_run _ rfl _ _ _ _ rfl _ _ rfl rfl _ _ (hrz _) ?_)
    | (at_builtin; refine wpList_copy_runI _ rfl _ _ 24 24 rfl _ _ rfl rfl (hcpA _ hE _ _) ?_)
    | (at_builtin; refine wpList_copy_runI _ rfl _ _ 24 24 rfl _ _ rfl rfl (hcpB _ (fun _ => rfl) _ _ _) ?_))
  go_region_law_o (refine step_copy_runI rfl _ _ 24 24 rfl (.slice (some ⟨w.heap.size, (i + m) * 7, none⟩) (n + m - (i + m)) (G - (i + m))) (.slice (some ⟨g, i * 7, none⟩) (n - i) (c - i)) (by simp [Act.eval, Act.put]) (by simp [Act.eval, Act.put]) (hcpB _ hF 3 (G - (i + m)) (c - i)) ?_)
  go_wp2
  go_ret
  exact ⟨rfl, rfl⟩
theorem s_insE [Globs] (l : List (den .ent)) (x : den .ent) (i : Nat) (hi : i ≤ l.length) (hbig : (l.length + 1) * 104 ≤ 140737488355328) :
    CSpec Tryd.prog 205 [.vec 1000 .ent l, .i .i64 i, .vec 1001 .ent [x]] [] (.vec 1000 .ent (l.take i ++ x :: l.drop i)) [] := by
  refine ⟨fun vs w => Tryd.call205 vs w, fun F X β w vs hvs hpin hI => ?_⟩
  match vs, hvs with
  | [v0, v1, v2], _ =>
    have h0 : VecAt β (SX.Own X ⟨argSlots 0 [.vec 1000 .ent l, .i .i64 i, .vec 1001 .ent [x]], []⟩ β) w 1000 .ent l v0 := hI.slots 0
    have h1 : SX.Im (SX.Own X ⟨argSlots 0 [.vec 1000 .ent l, .i .i64 i, .vec 1001 .ent [x]], []⟩ β) w (.i .i64 i) v1 := hI.slots 1
    have h2 : VecAt β (SX.Own X ⟨argSlots 0 [.vec 1000 .ent l, .i .i64 i, .vec 1001 .ent [x]], []⟩ β) w 1001 .ent [x] v2 := hI.slots 2
    have N0 : Nm ⟨argSlots 0 [.vec 1000 .ent l, .i .i64 i, .vec 1001 .ent [x]], []⟩ 1000 := .inr (.inl ⟨0, List.mem_singleton.2 rfl⟩)
    have N1 : Nm ⟨argSlots 0 [.vec 1000 .ent l, .i .i64 i, .vec 1001 .ent [x]], []⟩ 1001 := .inr (.inl ⟨2, List.mem_singleton.2 rfl⟩)
    cases h1
    have hL : (l.take i ++ x :: l.drop i).length = l.length + 1 := by rw [List.length_append, List.length_cons, List.length_take, List.length_drop]; omega
    rcases h2 with ⟨h2, _⟩ | ⟨vb, vc, cur2, e2, b1, rfl, b3, b4, b5, b6, b7⟩
    · cases h2
    have hx : All2 (SX.Im (SX.Own X ⟨argSlots 0 [.vec 1000 .ent l, .i .i64 i, .vec 1001 .ent [x]], []⟩ β) w) (flat .ent [x]) (cur2.toList.take (1 * 7)) := vec_cells b6 b4 b7
    have h1v := vec_one (l := [x]) hx
    have hb4 : 1 ≤ vc := b4
    have hb6 : cur2.size = vc * 7 := b6
    have hxl : (cur2.toList.take (1 * 7)).length = 7 := by rw [← hx.1]; rfl
    have hmx : l.length + 1 ≤ maxLen := by unfold maxLen; omega
    have hge := fun c => grownCap_ge w (l.length + 1) c 109
    have hcm := fun c => grownCap_le_maxLen w (l.length + 1) c 109 hmx
    rcases h0 with ⟨rfl, rfl, h0⟩ | ⟨g, c, cur, e, p1, rfl, p3, p4, p5, p6, p7⟩
    · have hi0 : i = 0 := by simpa using hi
      subst hi0
      refine (ins_end_growE none 0 0 vb 1 vc [] cur2 e2 w (by omega) (by omega) (by omega) rfl (fun w' _ => run_firstCells_none w' 7 0 0 0) b3 hb6 hb4 h1v (fun _ => ⟨rfl, rfl⟩) (by omega)).mono ?_
      rintro e' w' ⟨z, hz, rfl, rfl⟩
      have hzl : z.cells.size = 7 := by rw [hz]; rfl
      refine ⟨_, _, rfl, vec_end (us := cur2.toList.take (1 * 7)) (show 1 ≤ 3 by omega) hI (((Stp.drew w).trans (Stp.alloc w.drew _) (fun _ _ h => h)).mono (fun _ _ h => h.elim)) (.inr (Nat.le_refl _)) (heap_alloc_new w.drew _) (hge 0) (hcm 0) ?_ hx ?_⟩
      · simp only [Array.size_append, List.size_toArray, size_zeroCells, hzl, hxl, List.length_nil]
        have := hge 0
        simp only [List.length_nil] at this
        show _ = _ * 7
        omega
      · intro j u hj
        have hj' : j < (cur2.toList.take (1 * 7)).length := (List.getElem?_eq_some_iff.1 hj).1
        rw [Array.getElem?_append_left (by simpa using hj')]
        simpa using hj
    have hne : vb ≠ g := fun h => by have := hI.inj 1001 1000 g N1 N0 (h ▸ b1) p1; omega
    have hc := vec_cells p6 p4 p7
    have h1c := vec_one hc
    have hp6 : cur.size = c * 7 := p6
    have hcl : cur.toList.length = cur.size := Array.length_toList
    have hall : All2 (SX.Im (SX.Own X ⟨argSlots 0 [.vec 1000 .ent l, .i .i64 i, .vec 1001 .ent [x]], []⟩ β) w) (flat .ent (l.take i ++ x :: l.drop i)) ((cur.toList.take (l.length * 7)).take (i * 7) ++ (cur2.toList.take (1 * 7) ++ (cur.toList.take (l.length * 7)).drop (i * 7))) := ins_cells hc hx i hi
    have h5 : c ≤ 9223372036854775807 := by unfold maxLen at p5; omega
    have hA : ((cur.toList.take (l.length * 7)).take (i * 7)).length = i * 7 := by rw [List.length_take, List.length_take, hcl]; omega
    have hC : ((cur.toList.take (l.length * 7)).drop (i * 7)).length = (l.length - i) * 7 := by rw [List.length_drop, List.length_take, hcl]; omega
    have hAt : ∀ j, j < i * 7 → ((cur.toList.take (l.length * 7)).take (i * 7))[j]? = cur[j]? := fun j hj => by rw [List.getElem?_take, if_pos hj, List.getElem?_take, if_pos (by omega), Array.getElem?_toList]
    by_cases hin : i = l.length
    · subst hin
      have hd : (cur.toList.take (l.length * 7)).drop (l.length * 7) = [] := List.drop_eq_nil_of_le (by rw [List.length_take]; omega)
      have hu : (cur.toList.take (l.length * 7)).take (l.length * 7) ++ (cur2.toList.take (1 * 7) ++ (cur.toList.take (l.length * 7)).drop (l.length * 7)) = cur.toList.take (l.length * 7) ++ cur2.toList.take (1 * 7) := by
        rw [hd, List.append_nil, List.take_of_length_le (by rw [List.length_take]; omega)]
      have hTl : (cur.toList.take (l.length * 7)).length = l.length * 7 := by rw [List.length_take, hcl]; omega
      have hall : All2 (SX.Im (SX.Own X ⟨argSlots 0 [.vec 1000 .ent l, .i .i64 l.length, .vec 1001 .ent [x]], []⟩ β) w) (flat .ent (l.take l.length ++ x :: l.drop l.length)) (cur.toList.take (l.length * 7) ++ cur2.toList.take (1 * 7)) := hu ▸ hall
      by_cases hroom : l.length + 1 ≤ c
      · have hfit : l.length * 7 + (cur2.toList.take (1 * 7)).length ≤ cur.size := by rw [hxl]; omega
        refine (ins_end_roomE g l.length c vb 1 vc cur cur2 e e2 w (by omega) hroom h5 hne p3 hp6 b3 hb6 hb4 h1c h1v hbig).mono ?_
        rintro e' w' ⟨rfl, rfl⟩
        rw [← hL]
        refine ⟨_, _, rfl, vec_end (show 1 ≤ 3 by omega) hI (Stp.setRow w g _) (.inl ⟨N0, p1⟩) (setRow_heap w g cur _ e _ p3) (by rw [hL]; exact hroom) p5 (by rw [spl_size hfit]; exact p6) hall ?_⟩
        intro j u hj
        rw [spl_at hfit, hxl]
        by_cases c1 : j < l.length * 7
        · rw [List.getElem?_append_left (by omega), List.getElem?_take, if_pos c1] at hj
          rw [if_pos (by omega)]
          simpa using hj
        · rw [List.getElem?_append_right (by omega), hTl] at hj
          have := (List.getElem?_eq_some_iff.1 hj).1
          rw [if_neg (by omega), if_pos (by omega)]
          exact hj
      · refine (ins_end_growE (some ⟨g, 0, none⟩) l.length c vb 1 vc (cur.toList.take (l.length * 7)) cur2 e2 w (by omega) p4 (by omega) hTl (fun w' hw => run_firstCells_some w' 7 _ ⟨g, 0, none⟩ _ c _ hTl (fun j v hj => by
          rw [Addr.add_lit, cell_of_row w' g _ cur e (0, 0) (by rw [hw]; exact p3), Nat.zero_add]
          rw [List.getElem?_take] at hj
          split at hj
          · simpa using hj
          · cases hj)) b3 hb6 hb4 h1v (fun h => by cases h) hbig).mono ?_
        rintro e' w' ⟨z, hz, rfl, rfl⟩
        have hzl : z.cells.size = 7 := by rw [hz]; rfl
        have hgc := hge c
        have hcc := hcm c
        generalize grownCap w (l.length + 1) c 109 = G at hgc hcc
        rw [← hL]
        refine ⟨_, _, rfl, vec_end (show 1 ≤ 3 by omega) hI (((Stp.drew w).trans (Stp.alloc w.drew _) (fun _ _ h => h)).mono (fun _ _ h => h.elim)) (.inr (Nat.le_refl _)) (heap_alloc_new w.drew _) (by rw [hL]; exact hgc) hcc ?_ hall ?_⟩
        · simp only [Array.size_append, List.size_toArray, size_zeroCells, hzl, hxl, hTl, hL]
          show _ = _ * 7
          omega
        · intro j u hj
          have hj' : j < (cur.toList.take (l.length * 7) ++ cur2.toList.take (1 * 7)).length := (List.getElem?_eq_some_iff.1 hj).1
          rw [Array.getElem?_append_left (by simpa using hj')]
          simpa using hj
    · by_cases hroom : l.length + 1 ≤ c
      · refine (ins_shiftE g l.length c i vb 1 vc cur cur2 e e2 w (by omega) (by omega) hroom h5 hne p3 hp6 b3 hb6 hb4 h1c h1v).mono ?_
        rintro e' w' ⟨rfl, rfl⟩
        have hf1 : (i + 1) * 7 + ((cur.toList.take (l.length * 7)).drop (i * 7)).length ≤ cur.size := by rw [hC]; omega
        have hs1 := spl_size hf1
        have hf2 : i * 7 + (cur2.toList.take (1 * 7)).length ≤ (spl cur ((i + 1) * 7) ((cur.toList.take (l.length * 7)).drop (i * 7))).size := by rw [hs1, hxl]; omega
        rw [← hL]
        refine ⟨_, _, rfl, vec_end (show 1 ≤ 3 by omega) hI (((Stp.drew w).mono (fun _ _ h => h.elim)).trans ((Stp.setRow _ g _).trans (Stp.setRow _ g _) (fun _ _ h => h)) (fun _ _ h => h)) (.inl ⟨N0, p1⟩) (setRow_heap _ g _ _ e _ (setRow_heap w.drew g cur _ e _ p3)) (by rw [hL]; exact hroom) p5 (by rw [spl_size hf2, hs1]; exact p6) hall (row_pre (fun j hj => ?_) (fun j hj => ?_) (fun j hj => ?_))⟩
        · rw [hA] at hj
          rw [hAt j hj, spl_at hf2, if_pos hj, spl_at hf1, if_pos (by omega)]
        · rw [hA, spl_at hf2, if_neg (by omega), if_pos (by omega)]
          congr 1
          omega
        · rw [hA, hxl, spl_at hf2, hxl, if_neg (by omega), if_neg (by omega), spl_at hf1, if_neg (by omega), if_pos (by omega)]
          congr 1
          omega
      · refine (ins_growE g l.length c i vb 1 vc cur cur2 e e2 w (by omega) (by omega) p4 (by omega) p3 hp6 b3 hb6 hb4 h1c h1v hbig).mono ?_
        rintro e' w' ⟨row, W, hrs, hra, rfl, hWh, hWo, hWt, hWp, rfl⟩
        have hgc := hge c
        have hcc := hcm c
        generalize grownCap w (l.length + 1) c 109 = G at hrs hgc hcc
        have hf1 : i * 7 + (cur2.toList.take (1 * 7)).length ≤ row.size := by rw [hxl]; omega
        have hs1 := spl_size hf1
        have hf2 : (i + 1) * 7 + ((cur.toList.take (l.length * 7)).drop (i * 7)).length ≤ (spl row (i * 7) (cur2.toList.take (1 * 7))).size := by rw [hs1, hC]; omega
        have hst : Stp (fun _ => False) w W := ⟨hWo, hWt, hWp, by rw [hWh]; simp, fun k hk _ => by rw [hWh]; exact (Stp.alloc w.drew _).block k hk (fun h => h)⟩
        rw [← hL]
        refine ⟨_, _, rfl, vec_end (show 1 ≤ 3 by omega) hI ((hst.mono (fun _ _ h => h.elim)).trans ((Stp.setRow _ w.heap.size _).trans (((Stp.drew _).mono (fun _ _ h => h.elim)).trans (Stp.setRow _ w.heap.size _) (fun _ _ h => h)) (fun _ _ h => h)) (fun _ _ h => h)) (.inr (Nat.le_refl _)) (setRow_heap _ _ _ _ 109 _ (setRow_heap W _ row _ 109 _ (by rw [hWh]; exact heap_alloc_new w.drew _))) (by rw [hL]; exact hgc) hcc (by rw [spl_size hf2, hs1]; exact hrs) hall (row_pre (fun j hj => ?_) (fun j hj => ?_) (fun j hj => ?_))⟩
        · rw [hA] at hj
          rw [hAt j hj, spl_at hf2, if_pos (by omega), spl_at hf1, if_pos hj, hra j hj]
        · rw [hA, spl_at hf2, if_pos (by omega), spl_at hf1, if_neg (by omega), if_pos (by omega)]
          congr 1
          omega
        · rw [hA, hxl, spl_at hf2, if_neg (by omega), if_pos (by omega)]
          congr 1
          omega
end Go.Proofs.YtdcdmojbkmedpaaDoor
end
section
namespace Go.Proofs.YtdcdmojbkmedpaaDoor
set_option linter.unusedSectionVars false
set_option linter.unusedSimpArgs false
set_option linter.unusedVariables false
open Go Go.SX Go.Vl
set_option maxRecDepth 100000
set_option maxHeartbeats 0
section
variable [G : Globs]
theorem w_dropV (l : List Ent) (k : Str) (hl1 : l.length ≤ 100000000) (hn : ∀ p ∈ l, VN 100000000 p.2) : vc Tryd.prog Γ 29 [0, 1, 4, 5, 7, 8, 9, 10, 11, 17, 1000] (Tryd.f148.body.getD .skip) (postBK Γ [.tmp 4] (.vec 1000 .ent (withoutE l k)) []) ⟨argSlots 0 [.rd .ent l, .s k], []⟩ := by
  intro hl
  refine Exists.intro [(5, 5, .ent)] (Exists.intro [] (Exists.intro [] (Exists.intro Nat (Exists.intro (fun i => i ≤ l.length) (Exists.intro (fun i => ⟨[(1, .s k), (5, .vec 5 .ent (withoutE (l.take i) k)), (8, .rd .ent l), (9, .i .i64 l.length), (10, .i .i64 i)], []⟩) (Exists.intro (fun i => l.length - i) (Exists.intro 0 (And.intro (Nat.zero_le _) (And.intro ?_ ?_)))))))))
  · (repeat' (first | exact trivial | exact Or.inl rfl | exact Or.inr (Or.inl ⟨rfl, _, rfl⟩) | exact Or.inr (Or.inr (Or.inr ⟨_, _, _, rfl, rfl⟩)) | refine And.intro ?_ ?_))
  · rintro i hi
    refine And.intro (fun he => ?_) (fun he => ?_)
    · have hi : i < l.length := by have : (i : Int) < (l.length : Int) := of_decide_eq_true he
                                   omega
      have hg : l.getD (Int.toNat (i : Int)) (dflt .ent) = l[i] := by rw [Int.toNat_natCast, List.getD_eq_getElem?_getD, List.getElem?_eq_getElem hi]; rfl
      refine And.intro ⟨by omega, by omega⟩ ?_
      refine And.intro (fun hz => ?_) (fun hz => ?_)
      · have hz : keyIs k l[i] = false := by rw [← hg]; simpa [keyIs] using hz
        have hs := s_Own l[i].2 (hn _ (List.getElem_mem hi))
        rw [← hg] at hs
        refine Exists.intro [.blk [0, 1, 2, 3, 4, 5, 6, 7] [25], .one 8, .take 9] (And.intro (by kernel_rfl) ?_)
        refine Exists.intro _ (And.intro (hs) ?_)
        rw [hg]
        have hfl := filter_len (l := l) (k := k) (i := i)
        refine And.intro (show ((withoutE (l.take i) k).length + 1) * 104 ≤ 140737488355328 by omega) ?_
        (refine And.intro (rng64 (by omega) (by omega)) ?_)
        refine Exists.intro [(26, 5)] (Exists.intro (i + 1) (And.intro hi (And.intro ?_ ?_)))
        · have e : withoutE (l.take i) k ++ [(l[i].1, (⟨l[i].2.kind, l[i].2.n, l[i].2.f, l[i].2.s, l[i].2.l, l[i].2.e⟩ : Val))] = withoutE (l.take (i + 1)) k := by rw [val_eta]; exact (filter_next hi hz).symm
          (repeat' (first | exact trivial | exact Or.inl rfl | exact Or.inl ((congrArg (AV.vec 5 .ent) e)) | refine And.intro ?_ ?_))
        · show l.length - (i + 1) < l.length - i
          omega
      · have hz : keyIs k l[i] = true := by rw [← hg]; simpa [keyIs] using hz
        (refine And.intro (rng64 (by omega) (by omega)) ?_)
        refine Exists.intro [] (Exists.intro (i + 1) (And.intro hi (And.intro ?_ ?_)))
        · (repeat' (first | exact trivial | exact Or.inl rfl | exact Or.inl ((congrArg (AV.vec 5 .ent) (filter_skip hi hz).symm)) | refine And.intro ?_ ?_))
        · show l.length - (i + 1) < l.length - i
          omega
    · have hi : i = l.length := by have : ¬ (i : Int) < (l.length : Int) := of_decide_eq_false he
                                   omega
      subst hi
      rw [List.take_length]
      refine Exists.intro [(5, 1000)] (And.intro rfl (by (repeat' (first | exact trivial | exact Or.inl rfl | exact Or.inr (Or.inl ⟨rfl, _, rfl⟩) | exact Or.inr (Or.inr (Or.inr ⟨_, _, _, rfl, rfl⟩)) | refine And.intro ?_ ?_))))
theorem s_dropV (l : List Ent) (k : Str) (hl1 : l.length ≤ 100000000) (hn : ∀ p ∈ l, VN 100000000 p.2) : CSpec Tryd.prog 148 [.rd .ent l, .s k] [] (.vec 1000 .ent (withoutE l k)) [] :=
  cspec_of_vc Γ_good Tryd.func148 rfl Tryd.call148 Tryd.results148 Tryd.ntmps148 (Nat.le_of_ble_eq_true rfl) (Nat.le_of_ble_eq_true rfl) (by rfl) (w_dropV l k hl1 hn)
theorem w_put (l : List Ent) (k : Str) (a : Val) (hl1 : l.length ≤ 100000000) (hn : ∀ p ∈ l, VN 100000000 p.2) (ha : VN 100000000 a) : VCs Tryd.prog Γ 27 [0, 4, 5, 6, 7, 8, 16] (Tryd.f146.body.getD .skip) (postK Γ [.tmp 6] (fun v => v = .rd .ent (putE l k a))) ⟨argSlots 0 [.rd .ent l, .s k, .agg (encVal a)], []⟩ := by
  refine VCs.seq (by first | exact Γ_good | exact Ctx.good_kp Γ_good _) ?_
  refine VCs.seq (by first | exact Γ_good | exact Ctx.good_kp Γ_good _) ?_
  refine Or.inr (Or.inl (Exists.intro [] (Exists.intro _ (Exists.intro _ (Exists.intro _ (Exists.intro _ (Exists.intro _ (Exists.intro [(1000, 7)] (And.intro (s_dropV l k hl1 hn) ?_)))))))))
  refine (And.intro rfl (And.intro rfl (And.intro rfl (And.intro rfl ?_))))
  have hml : (withoutE l k).length ≤ l.length := List.length_filter_le _ _
  unfold putE
  generalize withoutE l k = m at hml
  refine VCs.seq (by first | exact Γ_good | exact Ctx.good_kp Γ_good _) ?_
  refine Or.inr (Or.inr (Or.inl (Exists.intro _ (And.intro (s_ixE m k (keyGt k) 204 (fun x _ => s_put1 x k)) ?_))))
  refine VCs.cut (by first | exact Γ_good | exact Ctx.good_kp Γ_good _) Unit (fun _ => True) (fun _ => ⟨[(7, .vec 7 .ent m), (4, .pt 4 0), (5, .pt 5 0), (8, .i .i64 (m.findIdx (keyGt k) : Nat))], [(4, [.s k]), (5, encVal a)]⟩) ?_ ?_
  · have hle := List.findIdx_le_length (p := keyGt k) (xs := m)
    refine And.intro (fun hz => ?_) (fun hz => ?_)
    · have hz : ixI m (keyGt k) < 0 := of_decide_eq_true hz
      have e : m.length = m.findIdx (keyGt k) := by
        unfold ixI at hz
        split at hz
        · omega
        · omega
      intro _
      refine Exists.intro () (And.intro trivial ?_)
      (repeat' (first | exact trivial | exact Or.inl rfl | exact Or.inl ((congrArg (fun n : Nat => AV.i .i64 n) e)) | refine And.intro ?_ ?_))
    · have hz : ¬ ixI m (keyGt k) < 0 := of_decide_eq_false hz
      have e : ixI m (keyGt k) = (m.findIdx (keyGt k) : Nat) := by
        unfold ixI at hz ⊢
        split at hz
        · rename_i h; rw [if_pos h]
        · omega
      refine Exists.intro () (And.intro trivial ?_)
      (repeat' (first | exact trivial | exact Or.inl rfl | exact Or.inl ((congrArg (fun n : Int => AV.i .i64 n) e)) | refine And.intro ?_ ?_))
  rintro _ _
  have hle := List.findIdx_le_length (p := keyGt k) (xs := m)
  generalize m.findIdx (keyGt k) = j at hle
  refine VCs.of_vc (by first | exact Γ_good | exact Ctx.good_kp Γ_good _) ?_
  refine Exists.intro [.take 0, .take 1, .blk [2, 3, 4, 5], .one 6, .one 7, .take 8] (And.intro (by kernel_rfl) ?_)
  refine Exists.intro _ (And.intro (s_Own a ha) ?_)
  refine Or.inr (Or.inl (Exists.intro [] (Exists.intro _ (Exists.intro _ (Exists.intro _ (Exists.intro _ (Exists.intro _ (Exists.intro [(1000, 7), (1001, 25)] (And.intro (s_insE m (k, (⟨a.kind, a.n, a.f, a.s, a.l, a.e⟩ : Val)) j hle (by omega)) ?_)))))))))
  refine (And.intro rfl (And.intro rfl (And.intro rfl (And.intro rfl ?_))))
  have e : m.take j ++ (k, (⟨a.kind, a.n, a.f, a.s, a.l, a.e⟩ : Val)) :: m.drop j = m.take j ++ (k, a) :: m.drop j := by rw [val_eta]
  exact congrArg (AV.rd .ent) e
theorem s_put (l : List Ent) (k : Str) (a : Val) (hl1 : l.length ≤ 100000000) (hn : ∀ p ∈ l, VN 100000000 p.2) (ha : VN 100000000 a) : PSpec Tryd.prog 146 [.rd .ent l, .s k, .agg (encVal a)] (.rd .ent (putE l k a)) :=
  pspec_of_VCs Γ_good Tryd.func146 rfl Tryd.call146 Tryd.results146 Tryd.ntmps146 (Nat.le_of_ble_eq_true rfl) (w_put l k a hl1 hn ha) Γ_good
end
end Go.Proofs.YtdcdmojbkmedpaaDoor
end
