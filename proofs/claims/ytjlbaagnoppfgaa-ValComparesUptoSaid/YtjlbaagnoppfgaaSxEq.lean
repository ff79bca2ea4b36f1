/-
  Two structs compared: all of whose fields are numbers, strings and booleans.
-/
import Derived.Test.YtjlbaagnoppfgaaSxOps
namespace Go.SX
set_option linter.unusedSectionVars false
variable [Globs]
open Go
def cellEq : EK → Value → Value → Bool
  | .int, .int _ a, .int _ b => decide (a = b)
  | .str, .string a, .string b => a == b
  | .bool, .bool a, .bool b => a == b
  | _, _, _ => false
def cellOK : EK → Value → Value → Prop
  | .int, .int k _, .int k' _ => k = k'
  | .str, .string _, .string _ => True
  | .bool, .bool _, .bool _ => True
  | _, _, _ => False
theorem ek_run {P : Program} {f : Field} {k : EK} (h : ekOf P f = some k) : f.name ≠ "_" ∧ (∀ w, (isAgg f.type).run P w = .ok false w) ∧
    ∀ d x y w, cellOK k x y → (Op.equalIn (d + 1) f.type x y).run P w = .ok (cellEq k x y) w := by
  unfold ekOf at h
  cases hn : f.name == "_" with
  | true => rw [hn] at h; cases h
  | false =>
    rw [hn, cond_false] at h
    refine ⟨fun e => by rw [e] at hn; simp at hn, ?_⟩
    split at h
    · rename_i kk hu
      injection h with h; subst h
      refine ⟨fun w => by simp [isAgg, run_underlying hu], fun d x y w hc => ?_⟩
      cases x <;> cases y <;> first | exact hc.elim | skip
      rename_i k1 a k2 b
      have : k1 = k2 := hc
      subst this
      simp [Op.equalIn, run_underlying hu, cellEq]
      rfl
    · rename_i hu
      injection h with h; subst h
      refine ⟨fun w => by simp [isAgg, run_underlying hu], fun d x y w hc => ?_⟩
      cases x <;> cases y <;> first | exact hc.elim | skip
      simp [Op.equalIn, run_underlying hu, cellEq]
    · rename_i hu
      injection h with h; subst h
      refine ⟨fun w => by simp [isAgg, run_underlying hu], fun d x y w hc => ?_⟩
      cases x <;> cases y <;> first | exact hc.elim | skip
      simp [Op.equalIn, run_underlying hu, cellEq]
    · cases h

/-- field by field -/
def cellsEq : List EK → List Nat → List Value → List Value → Bool
  | k :: ks, o :: os, xs, ys => cellEq k (xs.getD o undef) (ys.getD o undef) && cellsEq ks os xs ys
  | _, _, _, _ => true
def cellsOK : List EK → List Nat → List Value → List Value → Prop
  | [], [], _, _ => True
  | k :: ks, o :: os, xs, ys => o < xs.length ∧ o < ys.length ∧ cellOK k (xs.getD o undef) (ys.getD o undef) ∧ cellsOK ks os xs ys
  | _, _, _, _ => False
theorem eq_loop {P : Program} {d : Nat} {xs ys : List Value} (w : World) : ∀ (fs : List Field) (ks : List EK), fs.map (ekOf P) = ks.map some → cellsOK ks (fs.map (·.offset)) xs ys →
    ∃ r, Sem.run P (forIn fs ((none, ()) : Option Bool × Unit) fun f __s =>
            if f.name = "_" then pure (ForInStep.yield (none, ()))
            else do
              let __do_lift ← part f.type xs.toArray f.offset
              let __do_lift_1 ← part f.type ys.toArray f.offset
              let __do_lift ← Op.equalIn (d + 1) f.type __do_lift __do_lift_1
              if __do_lift = false then pure (ForInStep.done (some false, ())) else pure (ForInStep.yield (none, ()))) w = .ok r w ∧
      r.1 = (if cellsEq ks (fs.map (·.offset)) xs ys then none else some false) := by
  intro fs
  induction fs with
  | nil =>
    intro ks h1 h2
    cases ks with
    | nil => exact ⟨(none, ()), by simp, by simp [cellsEq]⟩
    | cons _ _ => cases h1
  | cons f fs ih =>
    intro ks h1 h2
    cases ks with
    | nil => cases h1
    | cons k ks =>
      simp only [List.map_cons, List.cons.injEq] at h1
      obtain ⟨h3, h4⟩ := h1
      obtain ⟨h5, h6, h7, h8⟩ := (show f.offset < xs.length ∧ f.offset < ys.length ∧ cellOK k (xs.getD f.offset undef) (ys.getD f.offset undef) ∧ cellsOK ks (fs.map (·.offset)) xs ys from h2)
      obtain ⟨hn, hag, hrun⟩ := ek_run h3
      have hx : (part f.type xs.toArray f.offset).run P w = .ok (xs.getD f.offset undef) w := by
        have : xs.toArray[f.offset]? = some (xs.getD f.offset undef) := by simp [h5]
        simp [part, hag, this]
      have hy : (part f.type ys.toArray f.offset).run P w = .ok (ys.getD f.offset undef) w := by
        have : ys.toArray[f.offset]? = some (ys.getD f.offset undef) := by simp [h6]
        simp [part, hag, this]
      have he := hrun d _ _ w h7
      obtain ⟨r, h9, h10⟩ := ih ks h4 h8
      rw [List.forIn_cons]
      simp only [hn, if_false, Sem.run_bind, hx, hy, he, Result.andThen_ok]
      cases hc : cellEq k (xs.getD f.offset undef) (ys.getD f.offset undef) with
      | false =>
        refine ⟨(some false, ()), by simp, ?_⟩
        simp only [List.map_cons, cellsEq, hc, Bool.false_and]
        simp
      | true =>
        refine ⟨r, by simpa using h9, ?_⟩
        simp only [List.map_cons, cellsEq, hc, Bool.true_and]
        exact h10
theorem struct_eq_run {P : Program} {t : TypeId} {fs : Array Field} {ks : List EK} (hu : P.underlying t = some (.struct fs)) (hs : P.stoodInHeld t = false) (hk : fs.toList.map (ekOf P) = ks.map some) {xs ys : List Value}
    (h : cellsOK ks (fs.toList.map (·.offset)) xs ys) (d : Nat) (w : World) :
    (Op.equalIn (d + 2) t (.agg xs.toArray) (.agg ys.toArray)).run P w = .ok (cellsEq ks (fs.toList.map (·.offset)) xs ys) w := by
  obtain ⟨r, h1, h2⟩ := eq_loop (d := d) w fs.toList ks hk h
  rw [Op.equalIn]
  simp [run_underlying hu, hs]
  rw [← Array.forIn_toList, h1]
  simp only [Result.andThen_ok]
  rw [h2]
  cases cellsEq ks (fs.toList.map (·.offset)) xs ys <;> simp
theorem bin_struct_run {P : Program} {t : TypeId} {eqs : List EK} (hne : eqs ≠ []) (hok : eqOK P t eqs = true) {fl : List (Nat × Nat)} (hfl : ∀ fs : Array Field, P.underlying t = some (.struct fs) → fs.toList.map (fun f => (f.offset, P.cellsOf f.type)) = fl)
    {xs ys : List Value} (h : cellsOK eqs (fl.map (·.1)) xs ys) (x y : Operand) (w : World) :
    (do eqGuard .eql t x y (.agg xs.toArray) (.agg ys.toArray); binOp .eql t (.agg xs.toArray) (.agg ys.toArray) : Sem Value).run P w = .ok (.bool (cellsEq eqs (fl.map (·.1)) xs ys)) w ∧
    (do eqGuard .neq t x y (.agg xs.toArray) (.agg ys.toArray); binOp .neq t (.agg xs.toArray) (.agg ys.toArray) : Sem Value).run P w = .ok (.bool (!(cellsEq eqs (fl.map (·.1)) xs ys))) w := by
  unfold eqOK at hok
  have he : eqs.isEmpty = false := by cases eqs with
    | nil => exact absurd rfl hne
    | cons _ _ => rfl
  rw [he, Bool.false_or] at hok
  split at hok
  · rename_i fs hu
    simp only [Bool.and_eq_true, Bool.not_eq_true', decide_eq_true_eq] at hok
    obtain ⟨⟨h1, h2⟩, h3⟩ := hok
    have hf := hfl fs hu
    have hoff : fl.map (·.1) = fs.toList.map (·.offset) := by rw [← hf]; simp
    rw [hoff] at h ⊢
    have hr := struct_eq_run hu h1 h3 h 9998 w
    refine ⟨?_, ?_⟩
    · simp only [eqGuard, binOp]
      simp [h2, Op.equal, Op.maxDepth, hr]
    · simp only [eqGuard, binOp]
      simp [h2, Op.equal, Op.maxDepth, hr]
  · cases hok
theorem bytes_beq (a c : Str) : (ByteArray.mk a.toArray == ByteArray.mk c.toArray) = (a == c) := by
  show (a.toArray == c.toArray) = (a == c)
  simp
section
variable {W0 : World} {F : Fr} {X : Nat → Prop} {N : Nat} {s : St} {β : Nat → Option Nat} {a : Act} {w : World}
theorem cellEq_im {O : Nat → Prop} {k : EK} {c d : AV} {u v : Value} {K : Bool → Prop} (h : cellEqK k c d K) (hc : Im O w c u) (hd : Im O w d v) : cellOK k u v ∧ K (cellEq k u v) := by
  cases k <;> cases c <;> cases d <;> first | exact h.elim | skip
  · rename_i k1 n k2 m
    cases hc; cases hd
    obtain ⟨h1, h2⟩ := (chkK_iff _ _).1 (show chkK (decide (k1 = k2)) (K (decide (n = m))) from h)
    exact ⟨(of_decide_eq_true h1 : k1 = k2), h2⟩
  · rename_i x y
    cases hc; cases hd
    exact ⟨trivial, by simp only [cellEq]; rw [bytes_beq]; exact h⟩
  · cases hc; cases hd
    exact ⟨trivial, h⟩
theorem aggEq_im {O : Nat → Prop} {cs ds : List AV} {us vs : List Value} (hc : All2 (Im O w) cs us) (hd : All2 (Im O w) ds vs) (ks : List EK) : ∀ (fl : List (Nat × Nat)) {K : Bool → Prop}, aggEqK ks fl cs ds K →
    cellsOK ks (fl.map (·.1)) us vs ∧ K (cellsEq ks (fl.map (·.1)) us vs) := by
  induction ks with
  | nil =>
    intro fl K h
    cases fl with
    | nil => exact ⟨trivial, h⟩
    | cons _ _ => exact h.elim
  | cons k ks ih =>
    intro fl K h
    cases fl with
    | nil => exact h.elim
    | cons p fl =>
      obtain ⟨o, sz⟩ := p
      obtain ⟨c, h1, h⟩ := (nthK_iff _ _ _).1 (show nthK cs o fun a => nthK ds o fun b => cellEqK k a b fun x => aggEqK ks fl cs ds fun y => K (x && y) from h)
      obtain ⟨d, h2, h⟩ := (nthK_iff _ _ _).1 h
      have hl1 : o < us.length := by rw [← hc.1]; exact (List.getElem?_eq_some_iff.1 h1).1
      have hl2 : o < vs.length := by rw [← hd.1]; exact (List.getElem?_eq_some_iff.1 h2).1
      have e1 : us[o]? = some (us.getD o undef) := by rw [List.getD_eq_getElem?_getD, List.getElem?_eq_getElem hl1]; rfl
      have e2 : vs[o]? = some (vs.getD o undef) := by rw [List.getD_eq_getElem?_getD, List.getElem?_eq_getElem hl2]; rfl
      obtain ⟨h3, h4⟩ := cellEq_im h (hc.2 _ _ _ h1 e1) (hd.2 _ _ _ h2 e2)
      obtain ⟨h5, h6⟩ := ih fl h4
      exact ⟨⟨hl1, hl2, h3, h5⟩, h6⟩
end
end Go.SX
