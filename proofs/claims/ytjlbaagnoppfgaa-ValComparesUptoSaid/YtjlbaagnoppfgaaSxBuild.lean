/-
  Literals: structs and slices; append; a store into an element of an own slice.
-/
import Derived.Test.YtjlbaagnoppfgaaSxVec
namespace Go.SX
set_option linter.unusedSectionVars false
variable [Globs]
section
variable {P : Program} {N : Nat} {Γ : Ctx} {W0 : World} {F : Fr} {X : Nat → Prop} {s : St} {β : Nat → Option Nat} {a : Act} {w : World}

theorem fold_splice (v : List Value) : ∀ (k off : Nat) (cs : Array Value), off + k + v.length ≤ cs.size →
    (v.zipIdx k).foldl (fun (cs : Array Value) (x : Value × Nat) => cs.setIfInBounds (off + x.2) x.1) cs = (cs.toList.take (off + k) ++ v ++ cs.toList.drop (off + k + v.length)).toArray := by
  induction v with
  | nil => intro k off cs h; simp
  | cons x r ih =>
    intro k off cs h
    simp only [List.length_cons] at h
    simp only [List.zipIdx_cons, List.foldl_cons]
    rw [ih (k + 1) off _ (by simp; omega)]
    apply Array.ext'
    simp only [Array.toList_setIfInBounds]
    apply List.ext_getElem?
    intro j
    have hl : (cs.toList.take (off + k)).length = off + k := by simp; omega
    have hl2 : ((cs.toList.set (off + k) x).take (off + (k + 1))).length = off + k + 1 := by simp; omega
    by_cases h1 : j < off + k
    · rw [List.append_assoc, List.append_assoc, List.getElem?_append_left (by omega), List.getElem?_append_left (by omega)]
      rw [List.getElem?_take, List.getElem?_take, if_pos (by omega), if_pos h1, List.getElem?_set_ne (by omega)]
    · by_cases h2 : j = off + k
      · subst h2
        rw [List.append_assoc, List.append_assoc, List.getElem?_append_left (by omega), List.getElem?_append_right (l₁ := cs.toList.take (off + k)) (by omega), hl, Nat.sub_self]
        rw [List.getElem?_take, if_pos (by omega), List.getElem?_set_self (by simp; omega)]
        rfl
      · rw [List.append_assoc, List.append_assoc, List.getElem?_append_right (l₁ := (cs.toList.set (off + k) x).take (off + (k + 1))) (by omega), hl2, List.getElem?_append_right (l₁ := cs.toList.take (off + k)) (by omega), hl]
        have e1 : j - (off + k + 1) + 1 = j - (off + k) := by omega
        rw [← e1]
        simp only [List.cons_append, List.getElem?_cons_succ]
        by_cases h3 : j - (off + k + 1) < r.length
        · rw [List.getElem?_append_left h3, List.getElem?_append_left h3]
        · rw [List.getElem?_append_right (by omega), List.getElem?_append_right (by omega), List.getElem?_drop, List.getElem?_drop, List.getElem?_set_ne (by omega)]
          congr 1
          simp only [List.length_cons]
          omega
theorem fold_splice' (v cs : Array Value) (off : Nat) (h : off + v.size ≤ cs.size) :
    v.zipIdx.foldl (fun (cs : Array Value) (x : Value × Nat) => cs.setIfInBounds (off + x.2) x.1) cs = (cs.toList.take off ++ v.toList ++ cs.toList.drop (off + v.size)).toArray := by
  have := fold_splice v.toList 0 off cs (by simpa using h)
  rw [← Array.foldl_toList, Array.toList_zipIdx]
  simpa using this

def cellsK' : AV → (List AV → Prop) → Prop
  | .agg l, K => K l
  | .x, _ => False
  | .tup _, _ => False
  | v, K => K [v]
def fillK (plK : Nat → (Nat × Nat → Prop) → Prop) : List AV → List (Nat × AV) → (List AV → Prop) → Prop
  | cells, [], K => K cells
  | cells, (i, v) :: r, K => plK i fun d => cellsK v fun cs => chkK (Nat.beq cs.length d.2) (spliceK cells d.1 cs fun cells => fillK plK cells r K)
def partsK (s : St) : List (Nat × Operand) → (List (Nat × AV) → Prop) → Prop
  | [], K => K []
  | (i, x) :: r, K => evK s x fun v => partsK s r fun l => K ((i, v) :: l)
def parts (s : St) : List (Nat × Operand) → List (Nat × AV)
  | [] => []
  | (i, x) :: r => (i, ev s x) :: parts s r
theorem partsK_eq (s : St) (l : List (Nat × Operand)) : ∀ K, partsK s l K = K (parts s l) := by
  induction l with
  | nil => intro K; rfl
  | cons p r ih => intro K; obtain ⟨i, x⟩ := p; simp only [partsK, parts, evK_eq, ih]
/-- the own slices among operands -/
def opVecs (s : St) : List (Nat × Operand) → List Nat
  | [] => []
  | (_, x) :: r => match ev s x with
    | .vec id _ _ => id :: opVecs s r
    | _ => opVecs s r
def opVecsK (s : St) : List (Nat × Operand) → (List Nat → Prop) → Prop
  | [], K => K []
  | (_, x) :: r, K => evK s x fun v => match v with
    | .vec id _ _ => opVecsK s r fun l => K (id :: l)
    | _ => opVecsK s r K
theorem opVecsK_eq (s : St) (l : List (Nat × Operand)) : ∀ K, opVecsK s l K = K (opVecs s l) := by
  induction l with
  | nil => intro K; rfl
  | cons p r ih =>
    intro K
    obtain ⟨i, x⟩ := p
    have h1 : opVecsK s ((i, x) :: r) K = (match ev s x with
      | .vec id _ _ => opVecsK s r fun l => K (id :: l)
      | _ => opVecsK s r K) := by
      show evK s x _ = _
      rw [evK_eq]
    have h2 : opVecs s ((i, x) :: r) = (match ev s x with
      | .vec id _ _ => id :: opVecs s r
      | _ => opVecs s r) := rfl
    rw [h1, h2]
    cases ev s x <;> simp [ih]
theorem InvB.frzAll (h : InvB W0 F X N s β a w) : ∀ l, InvB W0 F X N (frzAll l s) β a w := by
  intro l
  induction l generalizing s with
  | nil => exact h
  | cons n r ih => exact ih (h.frz n)

theorem plainC_ids (l : List AV) : ∀ c ∈ plainC l, ids c = [] := by
  induction l with
  | nil => intro c hc; cases hc
  | cons v r ih => intro c hc; cases v <;> (rcases List.mem_cons.1 hc with rfl | hc <;> first | rfl | exact ih c hc)

/-- the parts are laid in their places -/
theorem fill_ok (hI : InvB W0 F X N s β a w) {plK : Nat → (Nat × Nat → Prop) → Prop} {place : Nat → Option (Nat × Nat)} (hpl : ∀ i K, plK i K → ∃ d, place i = some d ∧ K d) (ps : List (Nat × Operand)) :
    ∀ (cells : List AV) (us : Array Value) (K : List AV → Prop), All2 (RelC β (Own X s β) w) cells us.toList → (∀ c ∈ cells, ∀ n ∈ ids c, Nm s n) → fillK plK cells (parts s ps) K →
      ∃ cells' us', K cells' ∧ Instr.fill place us (ps.map fun p => (p.1, a.eval p.2)) = some us' ∧ All2 (RelC β (Own X s β) w) cells' us'.toList ∧ (∀ c ∈ cells', ∀ n ∈ ids c, Nm s n) ∧ us'.size = us.size := by
  induction ps with
  | nil => intro cells us K h hids hK; exact ⟨cells, us, hK, rfl, h, hids, rfl⟩
  | cons p r ih =>
    intro cells us K h hids hK
    obtain ⟨i, x⟩ := p
    obtain ⟨d, hd, hK⟩ := hpl i _ (show plK i fun d => cellsK (ev s x) fun cs => chkK (Nat.beq cs.length d.2) (spliceK cells d.1 cs fun cells => fillK plK cells (parts s r) K) from hK)
    obtain ⟨cs, hK, h1, h2, h3⟩ := cells_ok (ev_rel hI x).1 (ev_rel hI x).2 hK
    obtain ⟨hsz, hK⟩ := (chkK_iff _ _).1 hK
    obtain ⟨hle, hK⟩ := spliceK_iff _ _ _ _ hK
    have hlen : cs.length = (a.eval x).cells.size := by rw [h1.1]; simp
    have hlenc : cells.length = us.size := by rw [h.1]; simp
    have hd2 : (a.eval x).cells.size = d.2 := by rw [← hlen]; exact Nat.eq_of_beq_eq_true hsz
    have hfit : d.1 + (a.eval x).cells.size ≤ us.size := by rw [← hlen, ← hlenc]; exact hle
    have hnew : All2 (RelC β (Own X s β) w) (cells.take d.1 ++ cs ++ cells.drop (d.1 + cs.length)) (us.toList.take d.1 ++ (a.eval x).cells.toList ++ us.toList.drop (d.1 + (a.eval x).cells.size)).toArray.toList := by
      have := All2.splice h h1 d.1 hle
      simpa using this
    obtain ⟨cells', us', k1, k2, k3, k4, k5⟩ := ih _ _ K hnew (fun c hc n hn => by
      rcases List.mem_append.1 hc with hc | hc
      · rcases List.mem_append.1 hc with hc | hc
        · exact hids c (List.mem_of_mem_take hc) n hn
        · exact h2 c hc n hn
      · exact hids c (List.mem_of_mem_drop hc) n hn) hK
    have hul : us.toList.length = us.size := Array.length_toList
    refine ⟨cells', us', k1, ?_, k3, k4, ?_⟩
    · have hcond : ((a.eval x).cells.size != d.2 || decide (us.size < d.1 + (a.eval x).cells.size)) = false := by
        simp [hd2]; omega
      have hcond' : ((a.eval x).cells.size != d.2 || decide (d.1 + (a.eval x).cells.size > us.size)) = false := hcond
      simp only [List.map_cons, Instr.fill, hd]
      rw [if_neg (by
        simp only [ne_eq, Bool.or_eq_true, decide_eq_true_eq, hd2, not_true_eq_false, false_or]
        omega), fold_splice' _ _ _ hfit]
      exact k2
    · rw [k5]
      simp only [List.size_toArray, List.length_append, List.length_take, List.length_drop, hul, Array.length_toList]
      omega
end
end Go.SX
