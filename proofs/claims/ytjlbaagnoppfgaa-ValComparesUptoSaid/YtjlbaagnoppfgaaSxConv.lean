/-
  Bytes turned into a text.
-/
import Derived.Test.YtjlbaagnoppfgaaSxVp
import Derived.Lib.ConvBytes
import Derived.Laws.IdiomStrings
import Derived.Lib.QuoteLoop
import Derived.Lib.TrimUEq
import Derived.Laws.AppendOwn
namespace Go.SX
set_option linter.unusedSectionVars false
variable [Globs]
section
variable {P : Program} {N : Nat} {Γ : Ctx} {W0 : World} {F : Fr} {X : Nat → Prop} {s : St} {β : Nat → Option Nat} {a : Act} {w : World}

theorem push_loop {P : Program} {w : World} (f : Value → ByteArray → Sem (ForInStep ByteArray)) (l : List Int) (hf : ∀ n b, f (.int .u8 n) b = pure (.yield (b.push (UInt8.ofNat n.toNat)))) : ∀ (b : ByteArray),
    Sem.run P (forIn (l.map fun n => Value.int .u8 n) b f) w = .ok ⟨(b.data.toList ++ l.map ofB).toArray⟩ w := by
  induction l with
  | nil => intro b; simp
  | cons n l ih =>
    intro b
    simp only [List.map_cons, List.forIn_cons, hf, Sem.run_bind, Sem.run_pure, Result.andThen_ok]
    rw [ih]
    simp [ByteArray.push, ofB]
theorem bytes_run {P : Program} {O : Nat → Prop} {l : List Int} {v : Value} (h : Im O w (.rd .u8 l) v) (w' : World) (hw : w'.heap = w.heap) : (Conv.bytesToString v).run P w' = .ok (.string ⟨(l.map ofB).toArray⟩) w' := by
  obtain ⟨A, c, us, rfl, h1, h2, h3⟩ := src_cells h
  have hus : us = l.map fun n => Value.int .u8 n := by
    have hf : ∀ (l : List Int), flat .u8 l = l.map fun n => AV.i .u8 n := by
      intro l; induction l with
      | nil => rfl
      | cons n l ih => simp only [flat, List.flatMap_cons, List.map_cons] at ih ⊢; rw [ih]; rfl
    rw [hf] at h1
    have h1 : All2 (Im O w) (l.map fun n => AV.i .u8 n) us := h1
    clear h h2 h3 hf
    induction l generalizing us with
    | nil => exact h1.nil_inv
    | cons n l ih =>
      obtain ⟨u, us', rfl, h4, h5⟩ := h1.cons_inv
      cases h4
      rw [ih _ h5 h5]; rfl
  cases A with
  | none =>
    have : l = [] := by
      have h3 := h3 w' hw
      cases l with
      | nil => rfl
      | cons n l => exfalso; cases h
    subst this
    rfl
  | some A =>
    have h3 := h3 w' hw
    have h3 : (loadCells A (l.length * esz .u8)).run P w' = .ok us.toArray w' := h3
    have h4 : (loadCells A l.length).run P w' = .ok us.toArray w' := by simpa [esz] using h3
    rw [hus] at h4
    simp only [Conv.bytesToString, Sem.run_bind, h4, Result.andThen_ok]
    simp only [List.forIn_toArray]
    rw [push_loop]
    · simp
    · intro n b; rfl
theorem convA_cases {sd d : TD} {v : AV} {K : AV → Prop} (h : convAK Γ sd d v K) :
    convK d v K ∨ (∃ e l, sd = .slice e ∧ d = .str ∧ (v = .rd .u8 l ∨ ∃ id, v = .vec id .u8 l) ∧ tiK Γ e fun te => chkK (isU8T te.desc) (K (.s (l.map ofB)))) ∨
      ∃ e l, d = .slice e ∧ v = .s l ∧ chkK (isStrT sd) (tiK Γ e fun te => convSK te.desc l K) := by
  unfold convAK at h
  split at h
  · exact .inr (.inl ⟨_, _, rfl, rfl, .inl rfl, h⟩)
  · exact .inr (.inl ⟨_, _, rfl, rfl, .inr ⟨_, rfl⟩, h⟩)
  · exact .inr (.inr ⟨_, _, rfl, rfl, h⟩)
  · exact .inl h
/-- a text turned into bytes: a block of its own, that nobody writes -/
theorem bytes_stp (w : World) (e : TypeId) (s : ByteArray) : Stp (fun _ => False) w (Lib.bytesWorld w e s) :=
  ⟨rfl, rfl, rfl, by rw [Lib.bytesWorld_size]; omega, fun k hk _ => Lib.bytesWorld_at_old w e s k hk⟩
theorem runes_from (s : Str) : ∀ (f i : Nat) (acc : Array Value), (Conv.runesFrom ⟨s.toArray⟩ f i acc) = acc ++ ((runesF s f i).map fun n => Value.int .i32 n).toArray := by
  have hsz : (⟨s.toArray⟩ : ByteArray).size = s.length := by simp [ByteArray.size]
  have hdec : ∀ p, Utf8.decode ⟨s.toArray⟩ p = decAt s p := fun p => by rw [Lib.decode_N]; simp [decAt]
  intro f
  induction f with
  | zero => intro i acc; simp [Conv.runesFrom, runesF]
  | succ f ih =>
    intro i acc
    unfold Conv.runesFrom runesF
    rw [hsz]
    split
    · simp only [hdec]
      rw [ih]
      simp
    · simp
theorem runes_eq (s : Str) : Conv.runesFrom ⟨s.toArray⟩ (⟨s.toArray⟩ : ByteArray).size 0 #[] = ((runes s).map fun n => Value.int .i32 n).toArray := by
  rw [runes_from]
  simp [runes, ByteArray.size]
theorem runesF_len (s : Str) : ∀ (f i : Nat), (runesF s f i).length ≤ f := by
  intro f
  induction f with
  | zero => intro i; simp [runesF]
  | succ f ih =>
    intro i
    unfold runesF
    split
    · have := ih (i + (decAt s i).2); simp; omega
    · simp
theorem runes_len (s : Str) : (runes s).length ≤ s.length := runesF_len s _ _
theorem convS_ok (hΓ : Γ.ok P) (hO : ∀ k, Own X s β k → k < w.heap.size) {o : Oper} {src dst e : TypeId} {x : Operand} (ho : o.op = .convert src dst x) {ts ti : TI} (hts : ts.ok P src) (hti : ti.ok P dst) {l : Str} {v : AV} (hv : v = .s l) (hr : Rel β (Own X s β) w v (a.eval x)) (hd : ti.desc = .slice e) {K : AV → Prop}
    (h : chkK (isStrT ts.desc) (tiK Γ e fun te => convSK te.desc l K)) :
    ∃ r u w', K r ∧ Stp (fun _ => False) w w' ∧ (execOp a.eval o).run P w = .ok (.value u) w' ∧ Im (Own X s β) w' r u := by
  subst hv
  obtain ⟨hst, h⟩ := (chkK_iff _ _).1 h
  have k1 := str_ok hts hst
  obtain ⟨te, hte, h⟩ := tiK_ok hΓ h
  obtain ⟨d2, k3, k4⟩ := hti.desc
  rw [hd] at k4
  obtain rfl := (show d2 = .slice e from k4)
  obtain ⟨d3, k5, k6⟩ := hte.desc
  obtain ⟨hlen, hx⟩ : l.length ≤ maxLen ∧ a.eval x = .string ⟨l.toArray⟩ := by
    have hr : Im (Own X s β) w (.s l) (a.eval x) := hr
    generalize a.eval x = xv at hr
    cases hr with
    | s _ h => exact ⟨h, rfl⟩
  have hde : te.desc = .int .u8 ∨ te.desc = .int .i32 := by
    cases hd : te.desc with
    | int k => rw [hd] at h; cases k <;> first | exact .inl rfl | exact .inr rfl | exact h.elim
    | _ => rw [hd] at h; exact h.elim
  rcases hde with hde | hde
  · rw [hde] at k6 h
    obtain rfl := (show d3 = .int .u8 from k6)
    have h : K (.rd .u8 (l.map fun b => (b.toNat : Int))) := h
    refine ⟨_, .slice (some ⟨w.heap.size, 0, none⟩) l.length (grownCap w l.length 0 e), Lib.bytesWorld w e ⟨l.toArray⟩, h, bytes_stp _ _ _, ?_, ?_⟩
    · have := Lib.run_convert_string_bytes (P := P) w src dst e ⟨l.toArray⟩ k1 k3 k5
      rw [← hx] at this
      simp only [execOp, ho, Sem.run_bind, this, Result.andThen_ok, Sem.run_pure]
      rfl
    · by_cases hl : l = []
      · subst hl
        exact .rd0 .u8 _ _ (grownCap_le_maxLen w 0 0 e (Nat.zero_le _))
      · have hnb : ¬ Own X s β w.heap.size := fun h => Nat.lt_irrefl _ (hO _ h)
        have := Im.rd (O := Own X s β) (w := Lib.bytesWorld w e ⟨l.toArray⟩) .u8 (l.map fun b => (b.toNat : Int)) w.heap.size 0 (grownCap w l.length 0 e) (fun i _ => .int .u8 ((l.getD i 0).toNat : Int)) hnb (by simpa using grownCap_ge w l.length 0 e) (grownCap_le_maxLen w _ 0 e hlen) (by simpa using hl)
          (fun i y j av hy hav => by
            obtain ⟨hi, rfl⟩ := List.getElem?_eq_some_iff.1 hy
            have hi : i < l.length := by simpa using hi
            obtain ⟨hj, rfl⟩ := List.getElem?_eq_some_iff.1 hav
            have hj : j = 0 := by simp [enc] at hj; exact hj
            subst hj
            have := Lib.bytesWorld_cell w e ⟨l.toArray⟩ i (by simpa [ByteArray.size] using hi)
            simpa [esz] using this)
          (fun i y j av hy hav => by
            obtain ⟨hi, rfl⟩ := List.getElem?_eq_some_iff.1 hy
            have hi : i < l.length := by simpa using hi
            obtain ⟨hj, rfl⟩ := List.getElem?_eq_some_iff.1 hav
            have hj : j = 0 := by simp [enc] at hj; exact hj
            subst hj
            have hg : l.getD i 0 = l[i] := by simp [List.getD, hi]
            rw [hg]
            simp only [enc, List.getElem_map, List.getElem_cons_zero]
            exact .i .u8 _)
        simpa using this
  · rw [hde] at k6 h
    obtain rfl := (show d3 = .int .i32 from k6)
    obtain ⟨h46, h⟩ := (show l.length ≤ 70368744177664 ∧ K (.rd .rune (runes l)) from h)
    have hrl := runes_len l
    have hle : (runes l).length ≤ maxLen := Nat.le_trans hrl hlen
    have hsz : (((runes l).map fun n => Value.int .i32 n).toArray).size = (runes l).length := by simp
    have hrun := run_runes_of_string (P := P) w src dst e ⟨l.toArray⟩ k1 k3 k5 (by rw [runes_eq, hsz]; omega)
    rw [runes_eq, hsz, ← hx] at hrun
    refine ⟨_, .slice (some ⟨w.heap.size, 0, none⟩) (runes l).length (grownCap w (runes l).length 0 e), w.drew.alloc (.cells (((runes l).map fun n => Value.int .i32 n).toArray ++ Array.replicate (grownCap w (runes l).length 0 e - (runes l).length) (.int .i32 0)) e), h, (Stp.drew w).trans (Stp.alloc w.drew _) (fun _ _ h => h), ?_, ?_⟩
    rotate_left 1
    · have hnb : ¬ Own X s β w.heap.size := fun h => Nat.lt_irrefl _ (hO _ h)
      by_cases hl : runes l = []
      · rw [hl]
        exact .rd0 .rune _ _ (grownCap_le_maxLen w 0 0 e (Nat.zero_le _))
      · refine Im.rd .rune (runes l) w.heap.size 0 (grownCap w (runes l).length 0 e) (fun i _ => .int .i32 ((runes l).getD i 0)) hnb (by simpa using grownCap_ge w (runes l).length 0 e) (grownCap_le_maxLen w _ 0 e hle) hl (fun i y j av hy hav => ?_) (fun i y j av hy hav => ?_)
        · obtain ⟨hi, rfl⟩ := List.getElem?_eq_some_iff.1 hy
          obtain ⟨hj, rfl⟩ := List.getElem?_eq_some_iff.1 hav
          have hj : j = 0 := by simp [enc] at hj; exact hj
          subst hj
          have hc : (w.drew.alloc (.cells (((runes l).map fun n => Value.int .i32 n).toArray ++ Array.replicate (grownCap w (runes l).length 0 e - (runes l).length) (.int .i32 0)) e)).heap[w.heap.size]? = some (.cells (((runes l).map fun n => Value.int .i32 n).toArray ++ Array.replicate (grownCap w (runes l).length 0 e - (runes l).length) (.int .i32 0)) e (0, 0)) := heap_alloc_new w.drew _
          have hi2 : i < (((runes l).map fun n => Value.int .i32 n).toArray).size := by simpa using hi
          simp only [World.cell?, hc, Nat.zero_add, esz, Nat.mul_one, Nat.add_zero]
          simp [Array.getElem?_append, hi, List.getD_eq_getElem?_getD]
        · obtain ⟨hi, rfl⟩ := List.getElem?_eq_some_iff.1 hy
          obtain ⟨hj, rfl⟩ := List.getElem?_eq_some_iff.1 hav
          have hj : j = 0 := by simp [enc] at hj; exact hj
          subst hj
          have hg : (runes l).getD i 0 = (runes l)[i] := by simp [List.getD, hi]
          rw [hg]
          exact .i .i32 _
    · simp only [execOp, ho, Sem.run_bind, hrun, Result.andThen_ok, Sem.run_pure]
theorem convA_ok (hΓ : Γ.ok P) {o : Oper} {src dst : TypeId} {x : Operand} (ho : o.op = .convert src dst x) {ts ti : TI} (hts : ts.ok P src) (hti : ti.ok P dst) {v : AV} (hr : Rel β (Own X s β) w v (a.eval x)) {K : AV → Prop}
    (h : convAK Γ ts.desc ti.desc v K) : LoadOK P X s β a w o K ∨ ∃ e l, ti.desc = .slice e ∧ v = .s l ∧ chkK (isStrT ts.desc) (tiK Γ e fun te => convSK te.desc l K) := by
  rcases convA_cases h with h | ⟨e, l, h1, h2, h3, h⟩ | h
  · obtain ⟨d, hd, _⟩ := hts.desc
    obtain ⟨v', u, k1, k2, k3, k4⟩ := conv_ok ho hti hr h ⟨d, hd⟩
    exact .inl ⟨v', u, k1, k2, k3, k4 w⟩
  rotate_left
  · exact .inr h
  obtain ⟨te, hte, h⟩ := tiK_ok hΓ h
  obtain ⟨hu8, h⟩ := (chkK_iff _ _).1 h
  have him : Im (fun _ => False) w (.rd .u8 l) (a.eval x) := by
    rcases h3 with rfl | ⟨id, rfl⟩
    · exact (show Im _ _ _ _ from hr).mono fun _ h => h.elim
    · exact VecAt.freeze hr fun _ h => h.elim
  obtain ⟨de, k1, k2⟩ := hts.desc
  rw [h1] at k2
  obtain rfl := (show de = .slice e from k2)
  obtain ⟨de, k3, k4⟩ := hti.desc
  rw [h2] at k4
  obtain rfl := (show de = .string from k4)
  obtain ⟨de, k5, k6⟩ := hte.desc
  have hde : te.desc = .int .u8 := by
    cases hd : te.desc with
    | int k => rw [hd] at hu8; cases k <;> first | rfl | cases hu8
    | _ => rw [hd] at hu8; cases hu8
  rw [hde] at k6
  obtain rfl := (show de = .int .u8 from k6)
  have hlen : l.length ≤ maxLen := by
    generalize a.eval x = xv at him
    cases him with
    | rd0 => exact Nat.zero_le _
    | rd _ _ g off c u hg hc hm hne hcell him => omega
  refine .inl (.im h (.s _ (by simpa using hlen)) ?_)
  have hx : ∃ A n c, a.eval x = .slice A n c := by obtain ⟨A, c, _, h5, _⟩ := src_cells (P := P) him; exact ⟨_, _, _, h5⟩
  obtain ⟨A, n, c, hx⟩ := hx
  have hb := bytes_run (P := P) him w rfl
  rw [hx] at hb
  simp [execOp, ho, hx, convert, run_underlying k1, run_underlying k3, run_underlying k5, hb]
theorem convA_of {sd d : TD} {v : AV} {K : AV → Prop} (h : convK d v K) : convAK Γ sd d v K := by
  unfold convAK
  split
  · exact h.elim
  · exact h.elim
  · exact h.elim
  · exact h
end
end Go.SX
