/-
  What 'copy' does with elements of several cells. No conditions.
-/
import Derived.Test.YtjlbaagnoppfgaaSxArg4
import Derived.Laws.IdiomCopy
import Derived.Lib.Overlaps
import Derived.Lib.AppendZerosOnto
namespace Go.SX
set_option linter.unusedSectionVars false
set_option linter.unusedSimpArgs false
set_option linter.unusedVariables false
variable {P : Program}
/-- a row of which cells are turned -/
def spl (cur : Array Value) (o : Nat) (cs : List Value) : Array Value := (cur.toList.take o ++ cs ++ cur.toList.drop (o + cs.length)).toArray
theorem spl_size {cur : Array Value} {o : Nat} {cs : List Value} (h : o + cs.length ≤ cur.size) : (spl cur o cs).size = cur.size := by
  have : cur.toList.length = cur.size := Array.length_toList
  simp only [spl, List.size_toArray, List.length_append, List.length_take, List.length_drop, this]
  omega
theorem spl_at {cur : Array Value} {o : Nat} {cs : List Value} (h : o + cs.length ≤ cur.size) (k : Nat) : (spl cur o cs)[k]? = if k < o then cur[k]? else if k < o + cs.length then cs[k - o]? else cur[k]? := by
  have hl : cur.toList.length = cur.size := Array.length_toList
  rw [spl, List.getElem?_toArray, List.append_assoc]
  have ht : (cur.toList.take o).length = o := by rw [List.length_take, hl]; omega
  by_cases h1 : k < o
  · rw [if_pos h1, List.getElem?_append_left (by omega), List.getElem?_take, if_pos h1, Array.getElem?_toList]
  · rw [if_neg h1, List.getElem?_append_right (by omega), ht]
    by_cases h2 : k < o + cs.length
    · rw [if_pos h2, List.getElem?_append_left (by omega)]
    · rw [if_neg h2, List.getElem?_append_right (by omega), List.getElem?_drop, Array.getElem?_toList]
      congr 1
      omega
/-- all is read before anything is written -/
theorem run_copyR (w : World) (dT sT ty elem : TypeId) (z g o dLen dCap : Nat) (a : Addr) (sLen sCap : Nat) (cs : List Value) (cur : Array Value) (e : TypeId)
    (hu : P.underlying dT = some (.slice elem)) (hs : ∀ w, (Go.sizeOf elem).run P w = .ok z w) (hn : cs.length = Nat.min sLen dLen * z)
    (hsrc : ∀ j v, cs[j]? = some v → w.cell? (a.add j) = some v) (hh : w.heap[g]? = some (.cells cur e (0, 0))) (hfit : o + cs.length ≤ cur.size) (h1 : ∀ v ∈ cs, v.oneCell' = true) :
    (Builtin.copy_ #[dT, sT] ty #[.slice (some ⟨g, o, none⟩) dLen dCap, .slice (some a) sLen sCap]).run P w = .ok (goInt (Nat.min sLen dLen)) (w.setRow g (spl cur o cs)) := by
  have hl := run_loadCells_list (P := P) w a cs hsrc
  have hst := run_storeCells_at P g o e cs 0 cur w hh (by simpa using hfit) h1
  simp only [Nat.add_zero] at hst
  simp [Builtin.copy_, run_underlying hu, Builtin.lenOf, Builtin.firstCells, hs, ← hn, hl, hst, spl]
section
variable [Globs]
theorem All2.take {α γ : Type} {R : α → γ → Prop} {a : List α} {b : List γ} (h : All2 R a b) (n : Nat) : All2 R (a.take n) (b.take n) := by
  refine ⟨by rw [List.length_take, List.length_take, h.1], fun j x y hx hy => ?_⟩
  rw [List.getElem?_take] at hx hy
  split at hx
  · rename_i hj
    rw [if_pos hj] at hy
    exact h.2 j x y hx hy
  · cases hx
theorem All2.drop {α γ : Type} {R : α → γ → Prop} {a : List α} {b : List γ} (h : All2 R a b) (n : Nat) : All2 R (a.drop n) (b.drop n) := by
  refine ⟨by rw [List.length_drop, List.length_drop, h.1], fun j x y hx hy => ?_⟩
  rw [List.getElem?_drop] at hx hy
  exact h.2 _ x y hx hy
theorem flat_take (τ : Ty) (l : List (den τ)) (i : Nat) (hi : i ≤ l.length) : flat τ (l.take i) = (flat τ l).take (i * esz τ) := by
  have h := flat_append τ (l.take i) (l.drop i)
  rw [List.take_append_drop] at h
  rw [h, List.take_left' (by rw [flat_length, List.length_take, Nat.min_eq_left hi])]
theorem flat_drop (τ : Ty) (l : List (den τ)) (i : Nat) (hi : i ≤ l.length) : flat τ (l.drop i) = (flat τ l).drop (i * esz τ) := by
  have h := flat_append τ (l.take i) (l.drop i)
  rw [List.take_append_drop] at h
  rw [h, List.drop_left' (by rw [flat_length, List.length_take, Nat.min_eq_left hi])]
/-- the cells of a list into which one element is put -/
theorem ins_cells {O : Nat → Prop} {w : World} {τ : Ty} {l : List (den τ)} {x : den τ} {us vs : List Value} (h : All2 (Im O w) (flat τ l) us) (h2 : All2 (Im O w) (flat τ [x]) vs) (i : Nat) (hi : i ≤ l.length) :
    All2 (Im O w) (flat τ (l.take i ++ x :: l.drop i)) (us.take (i * esz τ) ++ (vs ++ us.drop (i * esz τ))) := by
  rw [flat_append, show x :: l.drop i = [x] ++ l.drop i from rfl, flat_append, flat_take τ l i hi, flat_drop τ l i hi]
  exact (h.take _).append (h2.append (h.drop _))
/-- a row of which three parts are known -/
theorem row_pre {row : Array Value} {A B C : List Value} (h1 : ∀ j, j < A.length → row[j]? = A[j]?) (h2 : ∀ j, j < B.length → row[A.length + j]? = B[j]?) (h3 : ∀ j, j < C.length → row[A.length + B.length + j]? = C[j]?) :
    ∀ (j : Nat) u, (A ++ (B ++ C))[j]? = some u → row[j]? = some u := by
  intro j u hj
  by_cases c1 : j < A.length
  · rw [List.getElem?_append_left c1] at hj
    rw [h1 j c1, hj]
  · rw [List.getElem?_append_right (by omega)] at hj
    by_cases c2 : j - A.length < B.length
    · rw [List.getElem?_append_left c2] at hj
      have := h2 _ c2
      rw [show A.length + (j - A.length) = j by omega] at this
      rw [this, hj]
    · rw [List.getElem?_append_right (by omega)] at hj
      have c3 : j - A.length - B.length < C.length := (List.getElem?_eq_some_iff.1 hj).1
      have := h3 _ c3
      rw [show A.length + B.length + (j - A.length - B.length) = j by omega] at this
      rw [this, hj]
/-- where one own slice is handed back -/
theorem vec_end {F : Fr} {X : Nat → Prop} {N : Nat} {s : St} {β : Nat → Option Nat} {a : Act} {w w' : World} (hN : 1 ≤ N) (hI : InvB w F X N s β a w) {id g c : Nat} {τ : Ty} {L : List (den τ)} {cur : Array Value} {e : TypeId} {us : List Value}
    (hstp : Stp (fun k => k = g) w w') (hg : (Nm s id ∧ β id = some g) ∨ w.heap.size ≤ g) (hh : w'.heap[g]? = some (.cells cur e (0, 0))) (hlc : L.length ≤ c) (hc : c ≤ maxLen) (hsz : cur.size = c * esz τ)
    (hus : All2 (Im (Own X s β) w) (flat τ L) us) (hpre : ∀ (j : Nat) u, us[j]? = some u → cur[j]? = some u) :
    InvB w F X 1 ⟨[(0, .vec id τ L)], []⟩ (fun n => if n = id then some g else none) ⟨#[.slice (some ⟨g, 0, none⟩) L.length c], []⟩ w' := by
  have hNm : ∀ n, Nm ⟨[(0, .vec id τ L)], []⟩ n → n = id := by
    rintro n (⟨cs, h⟩ | ⟨m, h⟩ | ⟨b, cs, h, _⟩)
    · cases h
    · simp only [look] at h
      cases hb : Nat.beq 0 m with
      | true => rw [hb] at h; simpa [ids, ids0] using h
      | false => rw [hb] at h; simp [ids, ids0] at h
    · cases h
  have hO : ∀ k, Own X ⟨[(0, .vec id τ L)], []⟩ (fun n => if n = id then some g else none) k → X k ∨ k = g := by
    rintro k (h | ⟨n, h1, h2⟩)
    · exact .inl h
    · have := hNm n h1
      subst this
      simp only [if_true] at h2
      injection h2 with h2
      exact .inr h2.symm
  have hgo : ∀ k, k < w.heap.size → k = g → Own X s β k := by
    rintro k hk rfl
    rcases hg with ⟨h1, h2⟩ | h1
    · exact .inr ⟨id, h1, h2⟩
    · omega
  have hlt : g < w'.heap.size := (Array.getElem?_eq_some_iff.1 hh).1
  have hown : w.heap.size ≤ g ∨ F.own g := by
    rcases hg with ⟨h1, h2⟩ | h1
    · exact (hI.own id g h1 h2).2
    · exact .inl h1
  refine ⟨hstp.mono (fun k hk e => ?_), fun n => ?_, rfl, fun n cs h => (by cases h), fun n m k hn hm _ _ => (hNm n hn).trans (hNm m hm).symm, fun n k hn hk => ?_, rfl, hI.ext2, fun n cs k h => (by cases h), fun n hn => hI.pinN n (by omega), hI.gl⟩
  · rcases hown with h | h
    · omega
    · rw [e]; exact h
  · show Rel _ _ _ (look [(0, .vec id τ L)] n) _
    simp only [look]
    cases hb : Nat.beq 0 n with
    | true =>
      have := Nat.eq_of_beq_eq_true hb
      subst this
      refine vec_of (β := fun n => if n = id then some g else none) (d := id) (g := g) (if_pos rfl) hh hlc hc hsz (hus.mono fun _ _ _ _ him => him.step hstp hgo fun k hk ho => ?_) hpre
      rcases hO k ho with h | h
      · exact .inl h
      · exact hgo k hk h
    | false => exact Rel.x
  · have := hNm n hn
    subst this
    simp only [if_true] at hk
    injection hk with hk
    subst hk
    exact ⟨hlt, hown⟩
/-- what is read of an own slice's block -/
theorem vec_one {O : Nat → Prop} {w : World} {τ : Ty} {l : List (den τ)} {cur : Array Value} (h : All2 (Im O w) (flat τ l) (cur.toList.take (l.length * esz τ))) : ∀ v ∈ cur.toList.take (l.length * esz τ), v.oneCell' = true := by
  intro v hv
  obtain ⟨j, hj, rfl⟩ := List.getElem_of_mem hv
  have hj' : j < (flat τ l).length := by rw [h.1]; exact hj
  exact plain_one (h.2 j _ _ (List.getElem?_eq_getElem hj') (List.getElem?_eq_getElem hj)) (flat_plain (List.getElem_mem hj'))
end
end Go.SX
