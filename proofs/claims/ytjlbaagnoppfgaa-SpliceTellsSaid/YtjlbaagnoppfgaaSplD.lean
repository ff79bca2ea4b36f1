/-
  A part of the proof that 'typecaselaw.SpliceComposes' returns true, whatever the input: the normal change. No conditions.
-/
import Derived.Test.YtjlbaagnoppfgaaSplC
namespace Go.Proofs.Ytjlbaagnoppfgaa
open Go Go.SX Go.Spl
set_option maxRecDepth 100000
set_option maxHeartbeats 0
structure Bm (b : Bld) (m : Int) : Prop where
  out : (b.out.length : Int) ≤ m
  cut0 : 0 ≤ b.cut
  cut : b.cut ≤ m
  put : (b.put.length : Int) ≤ m
  ns : ∀ q ∈ b.out, 0 ≤ q.n ∧ q.n ≤ m
theorem Bm.flush {b : Bld} {m : Int} (h : Bm b m) : Bm (flush b) (m + 2) := by
  have h1 := h.out
  have h2 := h.cut0
  have h3 := h.cut
  have h4 := h.put
  refine ⟨?_, by simp [Spl.flush], by simp [Spl.flush]; omega, by simp [Spl.flush]; omega, fun q hq => ?_⟩
  · unfold Spl.flush; simp only [List.length_append]; split <;> split <;> simp <;> omega
  · simp only [Spl.flush, List.mem_append] at hq
    rcases hq with (hq | hq) | hq
    · have := h.ns q hq; omega
    · split at hq
      · rw [List.mem_singleton] at hq; subst hq; simp; omega
      · cases hq
    · split at hq
      · rw [List.mem_singleton] at hq; subst hq; simp; omega
      · cases hq
theorem Bm.addP {b : Bld} {m : Int} (h : Bm b m) (x : Prim) : Bm (addP b x) (m + 3) := by
  have h1 := h.out
  have h2 := h.cut0
  have h3 := h.cut
  have h4 := h.put
  cases x with
  | keep =>
    have hf := h.flush
    simp only [Spl.addP, add, show ((1 : Int) = 3) = False by simp, show ((1 : Int) = 2) = False by simp, show ((1 : Int) = 0) = False by simp, if_false, if_true]
    have hf1 := hf.out
    have hlen : ∀ l : List Part, (tail l ⟨1, 1, []⟩).length ≤ l.length + 1 := by
      intro l
      unfold tail
      split
      · split <;> simp <;> omega
      · simp
    refine ⟨by have := hlen (Spl.flush b).out; simp only; omega, by simp, by simp; omega, by simp; omega, fun q hq => ?_⟩
    have hq : q ∈ tail (Spl.flush b).out ⟨1, 1, []⟩ := hq
    unfold tail at hq
    have aux : ∀ q ∈ (Spl.flush b).out ++ [(⟨1, 1, []⟩ : Part)], 0 ≤ q.n ∧ q.n ≤ m + 3 := by
      intro q hq
      rcases List.mem_append.1 hq with hq | hq
      · have := hf.ns q hq; omega
      · rw [List.mem_singleton] at hq; subst hq; simp; omega
    split at hq
    · rename_i q0 hq0
      split at hq
      · rcases List.mem_append.1 hq with hq | hq
        · have := hf.ns q (List.dropLast_subset _ hq); omega
        · have := hf.ns q0 (List.mem_of_getLast? hq0)
          rw [List.mem_singleton] at hq; subst hq; simp; omega
      · exact aux q hq
    · exact aux q hq
  | cut =>
    simp only [Spl.addP, add, show ((2 : Int) = 3) = False by simp, if_false, if_true]
    exact ⟨by simp only; omega, by simp only; omega, by simp only; omega, by simp only; omega, fun q hq => by have := h.ns q hq; omega⟩
  | put c =>
    simp only [Spl.addP, add, if_true]
    exact ⟨by simp only; omega, by simp only; omega, by simp only; omega, by simp; omega, fun q hq => by have := h.ns q hq; omega⟩
theorem Bm.adds (ps : List Prim) : ∀ {b : Bld} {m : Int}, Bm b m → Bm (ps.foldl Spl.addP b) (m + 3 * ps.length) := by
  induction ps with
  | nil => intro b m h; simpa using h
  | cons x ps ih =>
    intro b m h
    have := ih (h.addP x)
    rw [List.foldl_cons]
    rwa [show m + 3 * ((x :: ps).length : Int) = m + 3 + 3 * (ps.length : Int) by simp; omega]
theorem bd_adds (ps : List Prim) (h : ps.length ≤ 30000000) : Bd (ps.foldl addP .init) := by
  have h0 : Bm .init 0 := ⟨by simp [Bld.init], by simp [Bld.init], by simp [Bld.init], by simp [Bld.init], by simp [Bld.init]⟩
  have h1 := h0.adds ps
  have h2 := h1.out
  have h3 := h1.cut
  have h4 := h1.put
  exact ⟨by omega, h1.cut0, by omega, by omega, fun q hq => by have := h1.ns q hq; omega⟩
theorem ok_of {p : Part} (h : pfault p = 0) : Ok p := by
  obtain ⟨h1, h2, h3, h4, h5, h6, h7⟩ := pf_bounds h
  exact ⟨by omega, h3, h7, h5⟩
theorem ex_len {p : Part} (h : pfault p = 0) : (ex p).length ≤ 20000 := by
  obtain ⟨h1, h2, h3, h4, h5, h6, h7⟩ := pf_bounds h
  unfold ex
  split
  · simp; omega
  · split
    · simp; omega
    · split
      · simp; omega
      · simp
theorem exs_len {c : List Part} (h : ∀ p ∈ c, pfault p = 0) : (exs c).length ≤ 20000 * c.length := by
  induction c with
  | nil => simp
  | cons p c ih =>
    have h1 := ex_len (h p (List.mem_cons_self ..))
    have h2 := ih fun q hq => h q (List.mem_cons_of_mem _ hq)
    rw [exs_cons, List.length_append, List.length_cons]
    omega
theorem bd_take {c : List Part} (h : ∀ p ∈ c, pfault p = 0) (hl : c.length ≤ 400) (k : Nat) : Bd ((c.take k).foldl add .init) := by
  have h1 : ∀ p ∈ c.take k, pfault p = 0 := fun p hp => h p (List.mem_of_mem_take hp)
  rw [adds_ex fun p hp => ok_of (h1 p hp)]
  refine bd_adds _ ?_
  have := exs_len h1
  have h2 : (c.take k).length ≤ c.length := by simp; omega
  omega
theorem fold_take {α : Type} (f : α → Part → α) (a : α) {c : List Part} {k : Nat} (hk : k < c.length) : (c.take (k + 1)).foldl f a = f ((c.take k).foldl f a) (c.getD (Int.toNat k) default) := by
  rw [List.take_add_one, List.getElem?_eq_getElem hk, List.foldl_append, Int.toNat_natCast, List.getD_eq_getElem?_getD, List.getElem?_eq_getElem hk]
  rfl
theorem walk76 (c : List Part) (h : ∀ p ∈ c, pfault p = 0) (hl : c.length ≤ 400) : vc Try.prog Γ 16 [0, 2, 3, 5, 6, 7, 8, 9] (Try.f76.body.getD .skip) (postBK Γ [.tmp 2] (.vec 1000 .part (norm c)) []) ⟨argSlots 0 [.rd .part c], []⟩ := by
  intro _
  refine Exists.intro [] (Exists.intro [(3, 0, 9, .part)] (Exists.intro [] (Exists.intro Nat (Exists.intro (fun k => k ≤ c.length) (Exists.intro (fun k => ⟨[(3, .pt 3 0), (6, .rd .part c), (7, .i .i64 c.length), (8, .i .i64 k)],
    [(3, [.vec 9 .part ((c.take k).foldl add .init).out, .i .i64 ((c.take k).foldl add .init).cut, .s ((c.take k).foldl add .init).put])]⟩) (Exists.intro (fun k => c.length - k) (Exists.intro 0 (And.intro (Nat.zero_le _) (And.intro ?_ ?_)))))))))
  · repeat' (first | exact trivial | exact Or.inl rfl | refine And.intro ?_ ?_)
  · intro k hk
    refine And.intro (fun h1 => ?_) (fun h1 => ?_)
    · have hk : k < c.length := by have := of_decide_eq_true h1; omega
      refine And.intro ⟨by omega, by omega⟩ ?_
      have hm : c.getD (Int.toNat k) default ∈ c := by rw [Int.toNat_natCast, List.getD_eq_getElem?_getD, List.getElem?_eq_getElem hk]; exact List.getElem_mem hk
      have hpf := h _ hm
      obtain ⟨_, _, hn0, hn1, _, hs, _⟩ := pf_bounds hpf
      refine Or.inr (Exists.intro [] (Exists.intro 68 (Exists.intro [.pt 1000 0, pv (c.getD (Int.toNat k) default)] (Exists.intro [(1000, bcells ((c.take k).foldl add .init))] (Exists.intro (.tup []) (Exists.intro [(1000, bcells (add ((c.take k).foldl add .init) (c.getD (Int.toNat k) default)))]
        (Exists.intro [(1000, 3), (1001, 9)] (And.intro (spec68 _ _ (bd_take h hl k) (ok_of hpf) (by omega) (by omega)) ?_))))))))
      refine And.intro rfl (And.intro rfl (And.intro rfl (And.intro rfl (And.intro rfl ?_))))
      refine And.intro ⟨by show (-9223372036854775808 : Int) ≤ _; omega, by show _ ≤ (9223372036854775807 : Int); omega⟩ ?_
      have e := fold_take add Bld.init hk
      refine Exists.intro [] (Exists.intro (k + 1) (And.intro hk (And.intro ?_ ?_)))
      · refine And.intro (And.intro (Or.inl rfl) (And.intro (Or.inl rfl) (And.intro (Or.inl rfl) (And.intro (Or.inl rfl) trivial)))) (And.intro (And.intro (Or.inl ?_) (And.intro (Or.inl ?_) (And.intro (Or.inl ?_) trivial))) trivial)
        · rw [e]
        · rw [e]
        · rw [e]
      · show c.length - (k + 1) < c.length - k
        omega
    · have hk : k = c.length := by have := of_decide_eq_false h1; omega
      subst hk
      have hb := bd_take h hl c.length
      refine Or.inr (Exists.intro [] (Exists.intro 72 (Exists.intro [.pt 1000 0] (Exists.intro [(1000, bcells ((c.take c.length).foldl add .init))] (Exists.intro (.vec 1001 .part (done ((c.take c.length).foldl add .init))) (Exists.intro []
        (Exists.intro [(1000, 3), (1001, 9)] (And.intro (spec72 _ hb) ?_))))))))
      refine And.intro rfl (And.intro rfl (And.intro rfl (And.intro rfl (And.intro rfl ?_))))
      refine Exists.intro [(9, 1000)] (And.intro ?_ trivial)
      show AV.vec 1000 .part (done ((c.take c.length).foldl add .init)) = AV.vec 1000 .part (norm c)
      rw [List.take_length]
      rfl
theorem spec76 (c : List Part) (h : ∀ p ∈ c, pfault p = 0) (hl : c.length ≤ 400) : CSpec Try.prog 76 [.rd .part c] [] (.vec 1000 .part (norm c)) [] :=
  cspec_of_vc Γ_good Try.func76 rfl Try.call76 Try.results76 Try.ntmps76 (Nat.le_of_ble_eq_true rfl) (Nat.le_of_ble_eq_true rfl) (by rfl) (walk76 c h hl)
end Go.Proofs.Ytjlbaagnoppfgaa
