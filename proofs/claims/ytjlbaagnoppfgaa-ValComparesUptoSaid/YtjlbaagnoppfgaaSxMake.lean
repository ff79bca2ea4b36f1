/-
  A slice made of zeros.
-/
import Derived.Test.YtjlbaagnoppfgaaSxConv
import Derived.IntWalk
namespace Go.SX
set_option linter.unusedSectionVars false
variable [Globs]
section
variable {P : Program} {N : Nat} {Γ : Ctx} {W0 : World} {F : Fr} {X : Nat → Prop} {s : St} {β : Nat → Option Nat} {a : Act} {w : World}

def makeK (Γ : Ctx) (N : Nat) (s : St) (t : TypeId) (x y : Operand) (dst : Option Nat) (K : St → Prop) : Prop :=
  optK dst fun d => stFrzK d s fun s => evK s x fun a => evK s y fun b => intK a fun n => intK b fun m => tiK Γ t fun ti => sliceTK ti.desc fun e => tiK Γ e fun te => tyK te.ty fun τ =>
    chkK (Nat.beq te.cells (esz τ)) (chkK (Nat.beq te.zero.length (esz τ)) ((0 ≤ n ∧ n ≤ m ∧ m ≤ 1099511627776 ∧ m.toNat * te.bytes ≤ 140737488355328) ∧ ofValsK te.zero fun zs => optK (dec τ zs) fun z => stKillK d s fun s => stPutK N s (some d) (.vec d τ (List.replicate n.toNat z)) K))
theorem zero_cells {O : Nat → Prop} {τ : Ty} {zs : List Value} {z : den τ} (hz : dec τ (ofVals zs) = some z) (hl : zs.length = esz τ) (n : Nat) :
    All2 (Im O w) (flat τ (List.replicate n z)) ((List.range (n * esz τ)).map fun i => zs.toArray[i % zs.toArray.size]!) := by
  have hle := dec_le hz
  have hpos := esz_pos τ
  have him : All2 (Im O w) (enc τ z) zs := by
    refine all_le ?_ hle
    clear hz hle hl
    induction zs with
    | nil => exact All2.nil _
    | cons v r ih => exact All2.cons (ofVal_im _ _ _) ih
  refine ⟨by rw [flat_length]; simp, fun k av u hk hu => ?_⟩
  obtain ⟨i, j, x, rfl, hx, hj⟩ := flat_of hk
  have hjl : j < esz τ := by rw [← enc_length τ x]; exact (List.getElem?_eq_some_iff.1 hj).1
  have hxz : x = z := List.eq_of_mem_replicate (List.mem_of_getElem? hx)
  subst hxz
  rw [List.getElem?_map, Option.map_eq_some_iff] at hu
  obtain ⟨q, hq, rfl⟩ := hu
  have hq' : q = i * esz τ + j := by
    have h1 := (List.getElem?_eq_some_iff.1 hq)
    obtain ⟨h2, h3⟩ := h1
    rw [List.getElem_range] at h3
    exact h3.symm
  subst hq'
  have hmod : (i * esz τ + j) % zs.toArray.size = j := by
    rw [List.size_toArray, hl, Nat.add_comm, Nat.add_mul_mod_self_right, Nat.mod_eq_of_lt hjl]
  rw [hmod]
  have hjz : j < zs.length := by omega
  have hget : zs.toArray[j]! = zs[j] := by simp [hjz]
  rw [hget]
  exact him.2 j av _ hj (List.getElem?_eq_getElem hjz)
theorem range_pre {f : Nat → Value} {a b j : Nat} {u : Value} (h : a ≤ b) (hu : ((List.range a).map f)[j]? = some u) : (((List.range b).map f).toArray)[j]? = some u := by
  have hj : j < a := by have := (List.getElem?_eq_some_iff.1 hu).1; simpa using this
  rw [List.getElem?_toArray, List.getElem?_map, List.getElem?_range (by omega)]
  rw [List.getElem?_map, List.getElem?_range hj] at hu
  exact hu
theorem make_ok (hΓ : Γ.ok P) (hI : InvB W0 F X N s β a w) {o : Oper} {t : TypeId} {x y : Operand} (ho : o.op = .makeSlice t x y) {K : St → Prop} (h : makeK Γ N s t x y o.dst K)
    {next : Act → World → Prop} {Q : Exit → Act → World → Prop} (hn : ∀ s' a' w', K s' → Inv W0 F X N s' a' w' → next a' w') : o.wp P a w next Q := by
  obtain ⟨d, hd, h⟩ := (optK_iff _ _).1 (show optK o.dst fun d => _ from h)
  rw [stFrzK_eq, evK_eq, evK_eq] at h
  have hI1 := hI.frz d
  obtain ⟨k1, n, hx, h⟩ := int_ok h (ev_rel hI1 x).1
  obtain ⟨k2, m, hy, h⟩ := int_ok h (ev_rel hI1 y).1
  obtain ⟨ti, hti, h⟩ := tiK_ok hΓ h
  obtain ⟨e, h, hu⟩ := slice_ok hti h
  obtain ⟨te, hte, h⟩ := tiK_ok hΓ h
  obtain ⟨τ, hτ, h⟩ := (tyK_iff _ _).1 h
  obtain ⟨hsz, hA⟩ := (chkK_iff _ _).1 h
  obtain ⟨hzl, hB⟩ := (chkK_iff _ _).1 hA
  obtain ⟨⟨h0, hnm, h1, h2⟩, hC⟩ := hB
  rw [ofValsK_eq] at hC
  obtain ⟨z, hz, hK⟩ := (optK_iff _ _).1 hC
  have hsz := Nat.eq_of_beq_eq_true hsz
  have hzl := Nat.eq_of_beq_eq_true hzl
  rw [stKillK_eq] at hK
  cases hdN : Nat.blt d N with
  | false => rw [stPutK_some, hdN] at hK; exact hK.elim
  | true =>
    rw [stPutK_some, hdN, cond_true] at hK
    rw [Nat.blt_eq] at hdN
    have hnm' : n.toNat * esz τ ≤ m.toNat * esz τ := Nat.mul_le_mul_right _ (by omega)
    have hlm : m.toNat ≤ maxLen := by unfold maxLen; omega
    obtain ⟨zv, hzr, hzc⟩ := hte.zeroValue w
    have hI2 := hI1.newVec (Ow := fun _ => False) (id1 := d) (b := some w.heap.size) (u := .slice (some ⟨w.heap.size, 0, none⟩) n.toNat m.toNat) (τ := τ) (l := List.replicate n.toNat z) hdN (fun _ => rfl)
      (Stp.alloc w (.cells ((List.range (m.toNat * esz τ)).map fun i => te.zero.toArray[i % te.zero.toArray.size]!).toArray e)) (fun _ h => h.elim)
      (fun g hg => by injection hg with hg; subst hg; exact ⟨by simp, .inr (Nat.le_refl _)⟩) (fun O' hO' => by
        have := vec_of (d := d) (β := setβ β d (some w.heap.size)) (c := m.toNat) (cur := ((List.range (m.toNat * esz τ)).map fun i => te.zero.toArray[i % te.zero.toArray.size]!).toArray) (e := e) (by simp [setβ]) (heap_alloc_new w _) (by simp; omega) hlm (by simp)
          (zero_cells (O := O') (w := w.alloc (.cells ((List.range (m.toNat * esz τ)).map fun i => te.zero.toArray[i % te.zero.toArray.size]!).toArray e)) hz hzl n.toNat) (fun j u hu => range_pre hnm' hu)
        simpa using this)
    refine wp_val (u := .slice (some ⟨w.heap.size, 0, none⟩) n.toNat m.toNat) (w' := w.alloc (.cells ((List.range (m.toNat * esz τ)).map fun i => te.zero.toArray[i % te.zero.toArray.size]!).toArray e)) ?_ (by rw [hd]; exact hn _ _ _ hK ⟨_, hI2⟩)
    have hwrap : IntKind.i64.wrap n = n := by
      exact IntWalk.i64_in n ⟨by omega, by omega⟩
    have hwrapm : IntKind.i64.wrap m = m := by
      exact IntWalk.i64_in m ⟨by omega, by omega⟩
    have hbign : ¬ ((te.bytes : Int) * n > 2 ^ 48) := by
      have e1 : ((n.toNat * te.bytes : Nat) : Int) = (te.bytes : Int) * n := by rw [Int.natCast_mul, Int.toNat_of_nonneg h0, Int.mul_comm]
      have e3 : n.toNat * te.bytes ≤ m.toNat * te.bytes := Nat.mul_le_mul_right _ (by omega)
      rw [← e1]
      show ¬ _ > (281474976710656 : Int)
      omega
    have hbig : ¬ ((te.bytes : Int) * m > 2 ^ 48) := by
      have e1 : ((m.toNat * te.bytes : Nat) : Int) = (te.bytes : Int) * m := by rw [Int.natCast_mul, Int.toNat_of_nonneg (by omega), Int.mul_comm]
      have e2 : ((m.toNat * te.bytes : Nat) : Int) ≤ 140737488355328 := by omega
      rw [← e1]
      show ¬ _ > (281474976710656 : Int)
      omega
    have hroom : ¬ (m.toNat * te.bytes > roomBytes) := by show ¬ (m.toNat * te.bytes > 2 ^ 47); omega
    obtain ⟨i, zz, hi1, hi2, hi3, hi4, hi5⟩ := hte.info
    have hti' : (typeInfo e).run P w = .ok i w := by simp [typeInfo, hi1]
    simp only [execOp, ho, Instr.makeSlice, Sem.run_bind, run_underlying hu, Result.andThen_ok, hx, hy, asInt, asIntOf, Sem.run_pure, hti', hwrap, hwrapm, hi3, askRoom, hroom]
    rw [if_neg (by simp only [Bool.or_eq_true, decide_eq_true_eq]; omega)]
    simp only [if_false, Sem.run_bind, Sem.run_pure, Result.andThen_ok, hte.sizeOf w]
    rw [hsz]
    have e0 : ∀ f : Nat → Value, ((List.range (m.toNat * esz τ)).map f).toArray = (Array.range (m.toNat * esz τ)).map f := by intro f; apply Array.ext'; simp
    rw [e0]
    by_cases hz0 : m.toNat * esz τ = 0
    · have er : ∀ f : Nat → Value, Array.map f (Array.range 0) = #[] := fun f => by simp
      simp only [hz0, if_true, Sem.run_bind, Sem.run_pure, Result.andThen_ok, er]
      simp [newRow, newObj]
      rfl
    · simp only [hz0, if_false, Sem.run_bind, hzr, Sem.run_pure, Result.andThen_ok, hzc]
      simp [newRow, newObj]
      rfl
end
end Go.SX
