/-
  Own slices: append, a literal, make, a store into an element.
-/
import Derived.Test.YtjlbaagnoppfgaaSxMemOps
namespace Go.SX
set_option linter.unusedSimpArgs false
set_option linter.unusedVariables false
set_option linter.unusedSectionVars false
variable [Globs]
section
variable {P : Program} {N : Nat} {Γ : Ctx} {W0 : World} {F : Fr} {X : Nat → Prop} {s : St} {β : Nat → Option Nat} {a : Act} {w : World}

/-- the cells of a list of elements -/
def flat (τ : Ty) (l : List (den τ)) : List AV := l.flatMap (enc τ)
theorem flat_length (τ : Ty) (l : List (den τ)) : (flat τ l).length = l.length * esz τ := by
  induction l with
  | nil => simp [flat]
  | cons x r ih => simp only [flat, List.flatMap_cons, List.length_append, enc_length] at ih ⊢; rw [ih, List.length_cons, Nat.succ_mul]; omega
theorem flat_at {τ : Ty} {l : List (den τ)} {i : Nat} {x : den τ} (h : l[i]? = some x) {j : Nat} (hj : j < esz τ) : (flat τ l)[i * esz τ + j]? = (enc τ x)[j]? := by
  induction l generalizing i with
  | nil => simp at h
  | cons y r ih =>
    cases i with
    | zero =>
      simp at h; subst h
      simp only [flat, List.flatMap_cons, Nat.zero_mul, Nat.zero_add]
      rw [List.getElem?_append_left (by rw [enc_length]; exact hj)]
    | succ i =>
      simp at h
      have := ih h
      simp only [flat, List.flatMap_cons] at this ⊢
      rw [List.getElem?_append_right (by rw [enc_length, Nat.succ_mul]; omega), enc_length, Nat.succ_mul]
      rw [← this]
      congr 1
      omega
theorem flat_of {τ : Ty} {l : List (den τ)} {k : Nat} {av : AV} (h : (flat τ l)[k]? = some av) : ∃ i j x, k = i * esz τ + j ∧ l[i]? = some x ∧ (enc τ x)[j]? = some av := by
  have hp := esz_pos τ
  have hk : k < l.length * esz τ := by rw [← flat_length]; exact (List.getElem?_eq_some_iff.1 h).1
  have hi : k / esz τ < l.length := by rw [Nat.div_lt_iff_lt_mul hp]; exact hk
  have hmod : k % esz τ < esz τ := Nat.mod_lt _ hp
  have hkk : k = (k / esz τ) * esz τ + k % esz τ := by rw [Nat.mul_comm]; exact (Nat.div_add_mod k (esz τ)).symm
  refine ⟨k / esz τ, k % esz τ, l[k / esz τ], hkk, List.getElem?_eq_getElem hi, ?_⟩
  rw [← flat_at (List.getElem?_eq_getElem hi) hmod, ← hkk]
  exact h
theorem flat_plain {τ : Ty} {l : List (den τ)} {av : AV} (h : av ∈ flat τ l) : av.plain = true := by
  obtain ⟨x, _, hx⟩ := List.mem_flatMap.1 h
  exact enc_plain τ x av hx

/-- a slice that is read: its cells -/
theorem src_cells {O : Nat → Prop} {τ : Ty} {l : List (den τ)} {v : Value} (h : Im O w (.rd τ l) v) :
    ∃ A c us, v = .slice A l.length c ∧ All2 (Im O w) (flat τ l) us ∧ (∀ u ∈ us, u.oneCell' = true) ∧
      ∀ w' : World, w'.heap = w.heap → (Builtin.firstCells (esz τ) l.length v).run P w' = .ok us.toArray w' := by
  cases h with
  | rd0 _ A c hc => exact ⟨A, c, [], rfl, All2.nil _, by simp, fun w' _ => by cases A <;> simp [Builtin.firstCells, loadCells, loadCellsFrom]⟩
  | rd _ _ g o c u hg hlc hm hne hcell him =>
    obtain ⟨us, h1, h2⟩ := cells_all2 (R := Im O w) (cs := flat τ l) (f := fun j => w.cell? ⟨g, o + j, none⟩) (fun k av hk => by
      obtain ⟨i, j, x, rfl, hx, hj⟩ := flat_of hk
      exact ⟨_, hcell i x j av hx hj, him i x j av hx hj⟩)
    have hlen : us.length = l.length * esz τ := by rw [← h1.1, flat_length]
    refine ⟨_, c, us, rfl, h1, fun x hx => ?_, fun w' hw => ?_⟩
    · obtain ⟨j, hj, rfl⟩ := List.getElem_of_mem hx
      have hj' : j < (flat τ l).length := by rw [h1.1]; exact hj
      exact plain_one (h1.2 j _ _ (List.getElem?_eq_getElem hj') (List.getElem?_eq_getElem hj)) (flat_plain (List.getElem_mem hj'))
    · have := loadCells_run P w' g o us (fun j x hx => by rw [show w'.cell? ⟨g, o + j, none⟩ = w.cell? ⟨g, o + j, none⟩ from by simp only [World.cell?, hw]]; exact h2 j x hx)
      rw [hlen] at this
      simp only [Builtin.firstCells]
      exact this

/-- what is made of two lists of cells -/
theorem vec_of {β : Nat → Option Nat} {O : Nat → Prop} {w : World} {d g c : Nat} {τ : Ty} {l : List (den τ)} {cur : Array Value} {e : TypeId} {us : List Value} (hβ : β d = some g) (hh : w.heap[g]? = some (.cells cur e (0, 0)))
    (hlc : l.length ≤ c) (hcm : c ≤ maxLen) (hsz : cur.size = c * esz τ) (hus : All2 (Im O w) (flat τ l) us) (hpre : ∀ (j : Nat) u, us[j]? = some u → cur[j]? = some u) : VecAt β O w d τ l (.slice (some ⟨g, 0, none⟩) l.length c) := by
  refine .inr ⟨g, c, cur, e, hβ, rfl, hh, hlc, hcm, hsz, fun i x j av hx hav => ?_⟩
  have hj : j < esz τ := by rw [← enc_length τ x]; exact (List.getElem?_eq_some_iff.1 hav).1
  have hf : (flat τ l)[i * esz τ + j]? = some av := by rw [flat_at hx hj]; exact hav
  have hlt : i * esz τ + j < us.length := by rw [← hus.1]; exact (List.getElem?_eq_some_iff.1 hf).1
  exact ⟨us[i * esz τ + j], hpre _ _ (List.getElem?_eq_getElem hlt), hus.2 _ _ _ hf (List.getElem?_eq_getElem hlt)⟩
theorem vec_cells {O : Nat → Prop} {w : World} {c : Nat} {τ : Ty} {l : List (den τ)} {cur : Array Value} (hsz : cur.size = c * esz τ) (hlc : l.length ≤ c)
    (h : ∀ (i : Nat) x (j : Nat) av, l[i]? = some x → (enc τ x)[j]? = some av → ∃ u, cur[i * esz τ + j]? = some u ∧ Im O w av u) :
    All2 (Im O w) (flat τ l) (cur.toList.take (l.length * esz τ)) := by
  have hle : l.length * esz τ ≤ cur.size := by rw [hsz]; exact Nat.mul_le_mul_right _ hlc
  have hcl : cur.toList.length = cur.size := Array.length_toList
  refine ⟨by rw [flat_length, List.length_take, hcl]; omega, fun k av u hk hu => ?_⟩
  obtain ⟨i, j, x, rfl, hx, hj⟩ := flat_of hk
  obtain ⟨u', hu', him⟩ := h i x j av hx hj
  rw [List.getElem?_take] at hu
  split at hu
  · rw [Array.getElem?_toList, hu'] at hu
    injection hu with hu
    subst hu
    exact him
  · cases hu

theorem All2.append {α γ : Type} {R : α → γ → Prop} {a c : List α} {b d : List γ} (hab : All2 R a b) (hcd : All2 R c d) : All2 R (a ++ c) (b ++ d) := by
  refine ⟨by simp [hab.1, hcd.1], fun j x y hx hy => ?_⟩
  by_cases hj : j < a.length
  · rw [List.getElem?_append_left hj] at hx
    rw [List.getElem?_append_left (by rw [← hab.1]; exact hj)] at hy
    exact hab.2 j x y hx hy
  · rw [List.getElem?_append_right (by omega)] at hx
    rw [List.getElem?_append_right (by rw [← hab.1]; omega), ← hab.1] at hy
    exact hcd.2 _ x y hx hy
theorem flat_append (τ : Ty) (l m : List (den τ)) : flat τ (l ++ m) = flat τ l ++ flat τ m := by simp [flat]

theorem run_append_gen {t e t' e' : TypeId} {te : TI} (ht : P.underlying t = some (.slice e)) (ht' : P.underlying t' = some (.slice e')) (hte : te.ok P e) {τ : Ty} (hsz : te.cells = esz τ) (ty : TypeId) {A A2 : Option Addr} {n cap m c : Nat} {olds news : List Value}
    (hold : ∀ w' : World, w'.heap = w.heap → (Builtin.firstCells (esz τ) n (.slice A n cap)).run P w' = .ok olds.toArray w') (hnew : ∀ w' : World, w'.heap = w.heap → (Builtin.firstCells (esz τ) m (.slice A2 m c)).run P w' = .ok news.toArray w')
    (hbytes : (n + m) * te.bytes ≤ 140737488355328) (h63 : n + m ≤ maxLen) :
    (n + m ≤ cap → ∀ w', (match A with | some a => storeCells (a.add (n * esz τ)) news | none => pure () : Sem Unit).run P w = .ok () w' → (Builtin.append_ #[t, t'] ty #[.slice A n cap, .slice A2 m c]).run P w = .ok (.slice A (n + m) cap) w') ∧
    (cap < n + m → ∃ z : Value, z.cells = te.zero.toArray ∧ (Builtin.append_ #[t, t'] ty #[.slice A n cap, .slice A2 m c]).run P w =
      .ok (.slice (some ⟨w.heap.size, 0, none⟩) (n + m) (grownCap w (n + m) cap e)) (w.drew.alloc (.cells (olds.toArray ++ news.toArray ++ Builtin.zeroCells z.cells (grownCap w (n + m) cap e - (n + m))) e))) := by
  obtain ⟨i, z, hi, h1, h2, h3, h4⟩ := hte.info
  refine ⟨fun hroom w' hst => ?_, fun hgrow => ⟨z, h4, ?_⟩⟩
  · have hn := hnew w rfl
    cases A with
    | none =>
      obtain rfl : w' = w := by simpa using hst.symm
      simp [Builtin.append_, run_underlying ht, run_underlying ht', sizeOf, typeInfo, hi, Builtin.lenOf, hroom, h1, hsz, hn]
    | some ad =>
      simp [Builtin.append_, run_underlying ht, run_underlying ht', sizeOf, typeInfo, hi, Builtin.lenOf, hroom, h1, hsz, hn]
      simp at hst
      rw [hst]
      rfl
  · have hn : ¬ (n + m ≤ cap) := by omega
    have h63' : ¬ (9223372036854775807 < ((n : Int) + (m : Int))) := by unfold maxLen at h63; omega
    have h48' : ¬ (281474976710656 < Builtin.nextslicecap (n + m) cap * i.bytes) := by
      have := growslice_fits hgrow hbytes
      rw [h2]
      omega
    have hf := hnew w.drew rfl
    have hfo := hold w.drew rfl
    simp [Builtin.append_, run_underlying ht, run_underlying ht', sizeOf, typeInfo, zeroValue, hi, h3, Builtin.lenOf, hn, h63', h48', Question.forced, h1, hsz, hf, hfo, newRow, grownCap]
    rw [show (olds ++ news).toArray = olds.toArray ++ news.toArray from by simp, Array.append_assoc]

/-- the result of an append: an own slice of l1 ++ l2, at the old block, or at a new one -/
theorem append_vec (hI : InvB W0 F X N s β a w) {t e t' e0 : TypeId} {te : TI} (ht : P.underlying t = some (.slice e)) (ht' : P.underlying t' = some (.slice e0)) (hte : te.ok P e) {τ : Ty} (hsz : te.cells = esz τ) (hz1 : te.zero.length = te.cells) (ty : TypeId)
    {id1 d : Nat} (hd : d < N) (hfree : Nm s d → d = id1) {l1 l2 : List (den τ)} {u1 u2 : Value}
    (h1 : (l1 = [] ∧ u1 = .slice none 0 0) ∨ (Nm s id1 ∧ VecAt β (Own X s β) w id1 τ l1 u1)) (h2 : Im (Own X s β) w (.rd τ l2) u2)
    (hbytes : (l1.length + l2.length) * te.bytes ≤ 140737488355328) (h63 : l1.length + l2.length ≤ maxLen) :
    ∃ u w' β', (Builtin.append_ #[t, t'] ty #[u1, u2]).run P w = .ok u w' ∧ InvB W0 F X N ((s.kill id1).put d (.vec d τ (l1 ++ l2))) β' (a.put (some d) u) w' := by
  obtain ⟨A2, c2, news, rfl, hn1, hn2, hn3⟩ := src_cells h2
  have hesz : 0 < esz τ := esz_pos τ
  -- the old slice
  have hold : ∃ A cap olds, u1 = .slice A l1.length cap ∧ All2 (Im (Own X s β) w) (flat τ l1) olds ∧ l1.length ≤ cap ∧
      (∀ w' : World, w'.heap = w.heap → (Builtin.firstCells (esz τ) l1.length u1).run P w' = .ok olds.toArray w') ∧
      ((A = none ∧ cap = 0) ∨ ∃ g cur e', A = some ⟨g, 0, none⟩ ∧ Nm s id1 ∧ β id1 = some g ∧ w.heap[g]? = some (.cells cur e' (0, 0)) ∧ cap ≤ maxLen ∧ cur.size = cap * esz τ ∧ olds = cur.toList.take (l1.length * esz τ)) := by
    rcases h1 with ⟨rfl, rfl⟩ | ⟨hid, hv⟩
    · exact ⟨none, 0, [], rfl, All2.nil _, Nat.le_refl _, fun w' _ => by simp [Builtin.firstCells], .inl ⟨rfl, rfl⟩⟩
    · rcases hv with ⟨rfl, rfl, _⟩ | ⟨g, c, cur, e', p1, rfl, p3, p4, p5, p6, p7⟩
      · exact ⟨none, 0, [], rfl, All2.nil _, Nat.le_refl _, fun w' _ => by simp [Builtin.firstCells], .inl ⟨rfl, rfl⟩⟩
      · have hc := vec_cells p6 p4 p7
        have hlen : (cur.toList.take (l1.length * esz τ)).length = l1.length * esz τ := by rw [← hc.1, flat_length]
        refine ⟨_, c, _, rfl, hc, p4, fun w' hw => ?_, .inr ⟨g, cur, e', rfl, hid, p1, p3, p5, p6, rfl⟩⟩
        have := loadCells_run P w' g 0 (cur.toList.take (l1.length * esz τ)) (fun j x hx => by
          rw [cell_of_row w' g _ cur e' (0, 0) (by rw [hw]; exact p3), Nat.zero_add]
          rw [List.getElem?_take] at hx
          split at hx
          · simpa using hx
          · cases hx)
        rw [hlen] at this
        simp only [Builtin.firstCells]
        exact this
  obtain ⟨A, cap, olds, rfl, ho1, ho2, ho3, ho4⟩ := hold
  have hnl : news.length = l2.length * esz τ := by rw [← hn1.1, flat_length]
  have hol : olds.length = l1.length * esz τ := by rw [← ho1.1, flat_length]
  have hgen := run_append_gen (w := w) ht ht' hte hsz ty ho3 hn3 hbytes h63
  have hall : All2 (Im (Own X s β) w) (flat τ (l1 ++ l2)) (olds ++ news) := by rw [flat_append]; exact ho1.append hn1
  by_cases hroom : l1.length + l2.length ≤ cap
  · rcases ho4 with ⟨rfl, rfl⟩ | ⟨g, cur, e', rfl, hid, hb, hh, hcm, hcs, hcur⟩
    · -- nil and nothing
      have e1 : l1 = [] := List.eq_nil_of_length_eq_zero (by omega)
      have e2 : l2 = [] := List.eq_nil_of_length_eq_zero (by omega)
      subst e1 e2
      refine ⟨_, w, setβ β d none, hgen.1 hroom w rfl, ?_⟩
      exact hI.newVec (Ow := fun _ => False) hd hfree (Stp.refl _ _) (fun _ h => h.elim) (fun g hg => by cases hg) (fun O' _ => .inl ⟨rfl, rfl, by simp [setβ]⟩)
    · -- in place
      have hfit : l1.length * esz τ + 0 + news.length ≤ cur.size := by rw [hnl, hcs, Nat.add_zero, ← Nat.add_mul]; exact Nat.mul_le_mul_right _ hroom
      have hst := run_storeCells_at P g (l1.length * esz τ) e' news 0 cur w hh hfit hn2
      simp only [Nat.add_zero] at hst
      have hrun := hgen.1 hroom _ (by simp only [add_none, Nat.zero_add]; exact hst)
      refine ⟨_, _, setβ β d (some g), hrun, ?_⟩
      have hcl : cur.toList.length = cur.size := Array.length_toList
      refine hI.newVec (Ow := fun k => k = g) hd hfree (Stp.setRow w g _) (fun k hk => ⟨hid, by rw [hk]; exact hb⟩) (fun g' hg' => ?_) (fun O' hO' => ?_)
      · injection hg' with hg'; subst hg'
        exact ⟨by have := (hI.own id1 g hid hb).1; simpa [World.setRow] using this, .inl ⟨hid, hb⟩⟩
      · have hstp := Stp.setRow w g (cur.toList.take (l1.length * esz τ) ++ news ++ cur.toList.drop (l1.length * esz τ + news.length)).toArray
        have hall' : All2 (Im O' (w.setRow g (cur.toList.take (l1.length * esz τ) ++ news ++ cur.toList.drop (l1.length * esz τ + news.length)).toArray)) (flat τ (l1 ++ l2)) (olds ++ news) :=
          hall.mono fun _ _ _ _ him => him.step hstp (fun k hk e => .inr ⟨id1, hid, by rw [e]; exact hb⟩) hO'
        rw [show l1.length + l2.length = (l1 ++ l2).length from by simp]
        refine vec_of (by simp [setβ]) (setRow_heap w g cur _ e' _ hh) (by simpa using hroom) hcm ?_ hall' (fun j x hx => ?_)
        · simp only [List.size_toArray, List.length_append, List.length_take, List.length_drop, hcl]
          rw [← hcs]
          omega
        · rw [← hcur]
          rw [List.getElem?_toArray, List.getElem?_append_left (by have := (List.getElem?_eq_some_iff.1 hx).1; exact this)]
          exact hx
  · -- a new array
    obtain ⟨z, hz, hrun⟩ := hgen.2 (by omega)
    have hzl : z.cells.size = esz τ := by rw [hz]; simp [hz1, hsz]
    have hge := grownCap_ge w (l1.length + l2.length) cap e
    have hcm := grownCap_le_maxLen w (l1.length + l2.length) cap e h63
    refine ⟨_, _, setβ β d (some w.heap.size), hrun, ?_⟩
    have hstp : Stp (fun _ => False) w (w.drew.alloc (.cells (olds.toArray ++ news.toArray ++ Builtin.zeroCells z.cells (grownCap w (l1.length + l2.length) cap e - (l1.length + l2.length))) e)) :=
      (Stp.drew w).trans (Stp.alloc w.drew _) (fun _ _ h => h)
    refine hI.newVec (Ow := fun _ => False) hd hfree hstp (fun _ h => h.elim) (fun g' hg' => ?_) (fun O' hO' => ?_)
    · injection hg' with hg'; subst hg'
      exact ⟨by simp, .inr (Nat.le_refl _)⟩
    · rw [show l1.length + l2.length = (l1 ++ l2).length from by simp] at hge hcm ⊢
      have hall' := hall.mono (R' := Im O' (w.drew.alloc (.cells (olds.toArray ++ news.toArray ++ Builtin.zeroCells z.cells (grownCap w (l1 ++ l2).length cap e - (l1 ++ l2).length)) e))) fun _ _ _ _ him =>
        him.step (Ow := fun _ => False) ((Stp.drew w).trans (Stp.alloc w.drew _) (fun _ _ h => h)) (fun k _ h => h.elim) hO'
      refine vec_of (by simp [setβ]) (heap_alloc_new w.drew _) hge hcm ?_ hall' (fun j x hx => ?_)
      · simp only [Array.size_append, List.size_toArray, size_zeroCells, hzl, hol, hnl]
        rw [← Nat.add_mul, ← Nat.add_mul]
        congr 1
        simp only [List.length_append] at hge ⊢
        omega
      · have hj : j < (olds ++ news).length := (List.getElem?_eq_some_iff.1 hx).1
        rw [Array.getElem?_append_left (by simpa using hj)]
        simpa using hx

/-- what is read behind the first k of an own slice -/
theorem vec_tail {O : Nat → Prop} {w : World} {g k : Nat} {τ : Ty} {l : List (den τ)} {cur : Array Value} {e' : TypeId} (hh : w.heap[g]? = some (.cells cur e' (0, 0))) (hk : k ≤ l.length)
    (hus : All2 (Im O w) (flat τ l) (cur.toList.take (l.length * esz τ))) :
    All2 (Im O w) (flat τ (l.drop k)) ((cur.toList.take (l.length * esz τ)).drop (k * esz τ)) ∧
      ∀ w' : World, w'.heap = w.heap → (loadCells ⟨g, k * esz τ, none⟩ ((l.length - k) * esz τ)).run P w' = .ok ((cur.toList.take (l.length * esz τ)).drop (k * esz τ)).toArray w' := by
  have hfl : (flat τ (l.take k)).length = k * esz τ := by rw [flat_length, List.length_take, Nat.min_eq_left hk]
  have hsplit : flat τ l = flat τ (l.take k) ++ flat τ (l.drop k) := by rw [← flat_append, List.take_append_drop]
  have hlen : (cur.toList.take (l.length * esz τ)).length = l.length * esz τ := by rw [← hus.1, flat_length]
  refine ⟨⟨by rw [List.length_drop, hlen, flat_length, List.length_drop, Nat.sub_mul], fun j av u hav hu => ?_⟩, fun w' hw => ?_⟩
  · rw [List.getElem?_drop] at hu
    refine hus.2 (k * esz τ + j) av u ?_ hu
    rw [hsplit, List.getElem?_append_right (by omega), hfl, Nat.add_sub_cancel_left]
    exact hav
  · have := loadCells_run P w' g (k * esz τ) ((cur.toList.take (l.length * esz τ)).drop (k * esz τ)) (fun j x hx => by
      rw [cell_of_row w' g _ cur e' (0, 0) (by rw [hw]; exact hh)]
      rw [List.getElem?_drop, List.getElem?_take] at hx
      split at hx
      · simpa using hx
      · cases hx)
    rw [List.length_drop, hlen, ← Nat.sub_mul] at this
    exact this

/-- the result of an append to what is behind the first k: at the old block, or at a new one, where nothing is ahead of it -/
theorem append_suf (hI : InvB W0 F X N s β a w) {t e t' e0 : TypeId} {te : TI} (ht : P.underlying t = some (.slice e)) (ht' : P.underlying t' = some (.slice e0)) (hte : te.ok P e) {τ : Ty} (hsz : te.cells = esz τ) (hz1 : te.zero.length = te.cells) (ty : TypeId)
    {id1 d : Nat} (hd : d < N) (hfree : Nm s d → d = id1) {l1 l2 : List (den τ)} {k : Nat} {u1 u2 : Value}
    (hid : Nm s id1) (h1 : VsAt β (Own X s β) w id1 τ l1 k u1) (h2 : Im (Own X s β) w (.rd τ l2) u2)
    (hbytes : (l1.length - k + l2.length) * te.bytes ≤ 140737488355328) (h63 : l1.length - k + l2.length ≤ maxLen) :
    ∃ u w' β' pre, pre.length ≤ k ∧ (Builtin.append_ #[t, t'] ty #[u1, u2]).run P w = .ok u w' ∧ InvB W0 F X N ((s.kill id1).put d (.vs d τ (pre ++ (l1.drop k ++ l2)) pre.length)) β' (a.put (some d) u) w' := by
  obtain ⟨A2, c2, news, rfl, hn1, hn2, hn3⟩ := src_cells h2
  have hesz : 0 < esz τ := esz_pos τ
  obtain ⟨hk, v', hv, hsuf⟩ := h1
  have hnl : news.length = l2.length * esz τ := by rw [← hn1.1, flat_length]
  -- the old slice
  have hold : ∃ A cap olds, u1 = .slice A (l1.length - k) cap ∧ All2 (Im (Own X s β) w) (flat τ (l1.drop k)) olds ∧ l1.length - k ≤ cap ∧
      (∀ w' : World, w'.heap = w.heap → (Builtin.firstCells (esz τ) (l1.length - k) u1).run P w' = .ok olds.toArray w') ∧
      (cap = 0 ∨ ∃ g c cur e', 0 < cap ∧ cap = c - k ∧ A = some ⟨g, k * esz τ, none⟩ ∧ β id1 = some g ∧ w.heap[g]? = some (.cells cur e' (0, 0)) ∧ l1.length ≤ c ∧ c ≤ maxLen ∧ cur.size = c * esz τ ∧ All2 (Im (Own X s β) w) (flat τ l1) (cur.toList.take (l1.length * esz τ))) := by
    rcases hv with ⟨rfl, rfl, _⟩ | ⟨g, c, cur, e', p1, rfl, p3, p4, p5, p6, p7⟩
    · rcases hsuf with ⟨rfl, rfl⟩ | ⟨g, n, c, ad, h3, _⟩
      · exact ⟨none, 0, [], rfl, All2.nil _, Nat.le_refl _, fun w' _ => by simp [Builtin.firstCells], .inl rfl⟩
      · cases h3
    · have hc := vec_cells p6 p4 p7
      obtain ⟨ht1, ht2⟩ := vec_tail (P := P) p3 hk hc
      rcases hsuf with ⟨rfl, rfl⟩ | ⟨g', n, c', ad, h3, rfl, h5⟩
      · refine ⟨_, c, _, rfl, ht1, by omega, fun w' hw => ?_, ?_⟩
        · have := ht2 w' hw
          simp only [Builtin.firstCells, Nat.zero_mul, Nat.sub_zero] at this ⊢
          exact this
        · by_cases hc0 : c = 0
          · exact .inl hc0
          · exact .inr ⟨g, c, cur, e', by omega, rfl, by rw [Nat.zero_mul], p1, p3, p4, p5, p6, hc⟩
      · cases h3
        by_cases hkc : k < c
        · have had := h5 hkc
          subst had
          refine ⟨_, c - k, _, rfl, ht1, by omega, fun w' hw => ?_, .inr ⟨g, c, cur, e', by omega, rfl, rfl, p1, p3, p4, p5, p6, hc⟩⟩
          have := ht2 w' hw
          simp only [Builtin.firstCells]
          exact this
        · refine ⟨_, c - k, _, rfl, ht1, by omega, fun w' hw => ?_, .inl (by omega)⟩
          have hz : l1.length - k = 0 := by omega
          have hz2 : (List.drop (k * esz τ) (List.take (l1.length * esz τ) cur.toList)) = [] := by
            refine List.drop_eq_nil_of_le ?_
            rw [List.length_take]
            exact Nat.le_trans (Nat.min_le_left _ _) (Nat.mul_le_mul_right _ (by omega))
          rw [hz, hz2]
          simp [Builtin.firstCells, loadCells, loadCellsFrom]
  obtain ⟨A, cap, olds, rfl, ho1, ho2, ho3, ho4⟩ := hold
  have hol : olds.length = (l1.length - k) * esz τ := by rw [← ho1.1, flat_length, List.length_drop]
  have hgen := run_append_gen (w := w) ht ht' hte hsz ty ho3 hn3 hbytes h63
  by_cases hroom : l1.length - k + l2.length ≤ cap
  · by_cases he : l2 = []
    · -- nothing
      subst he
      have hn0 : news = [] := List.eq_nil_of_length_eq_zero (by simpa using hnl)
      subst hn0
      refine ⟨_, w, setβ β d (β id1), l1.take k, by rw [List.length_take]; omega, hgen.1 hroom w (by cases A <;> simp [storeCells]), ?_⟩
      refine hI.newAv (Ow := fun _ => False) hd hfree (Stp.refl _ _) (fun _ h => h.elim) (fun g hg => ⟨(hI.own id1 g hid hg).1, .inl ⟨hid, hg⟩⟩) (by simp [ids, ids0]) (fun O' hO' => ?_)
      rw [List.append_nil, List.take_append_drop, List.length_take, Nat.min_eq_left hk]
      refine ⟨hk, v', ?_, hsuf⟩
      rcases hv with ⟨p1, p2, p3⟩ | ⟨g, c, cur, e', p1, p2, p3, p4, p5, p6, p7⟩
      · exact .inl ⟨p1, p2, by simp [setβ, p3]⟩
      · refine .inr ⟨g, c, cur, e', by simp [setβ, p1], p2, p3, p4, p5, p6, fun i x j av hx hav => ?_⟩
        obtain ⟨u, hu, him⟩ := p7 i x j av hx hav
        exact ⟨u, hu, him.step (Ow := fun _ => False) (Stp.refl _ _) (fun _ _ h => h.elim) hO'⟩
    · have hl2 : 0 < l2.length := List.length_pos_iff.2 he
      rcases ho4 with h0 | ⟨g, c, cur, e', hcap, rfl, rfl, hb, hh, hlc, hcm, hcs, hcur⟩
      · omega
      · -- in place
        have hcl : cur.toList.length = cur.size := Array.length_toList
        have hfit : l1.length * esz τ + 0 + news.length ≤ cur.size := by rw [hnl, hcs, Nat.add_zero, ← Nat.add_mul]; exact Nat.mul_le_mul_right _ (by omega)
        have hst := run_storeCells_at P g (l1.length * esz τ) e' news 0 cur w hh hfit hn2
        simp only [Nat.add_zero] at hst
        have hadr : k * esz τ + (l1.length - k) * esz τ = l1.length * esz τ := by rw [← Nat.add_mul]; congr 1; omega
        have hrun := hgen.1 hroom _ (by simp only [add_none, hadr]; exact hst)
        refine ⟨_, _, setβ β d (some g), l1.take k, by rw [List.length_take]; omega, hrun, ?_⟩
        refine hI.newAv (Ow := fun k => k = g) hd hfree (Stp.setRow w g _) (fun k hk => ⟨hid, by rw [hk]; exact hb⟩) (fun g' hg' => ?_) (by simp [ids, ids0]) (fun O' hO' => ?_)
        · injection hg' with hg'; subst hg'
          exact ⟨by have := (hI.own id1 g hid hb).1; simpa [World.setRow] using this, .inl ⟨hid, hb⟩⟩
        · have hstp := Stp.setRow w g (cur.toList.take (l1.length * esz τ) ++ news ++ cur.toList.drop (l1.length * esz τ + news.length)).toArray
          have hall : All2 (Im (Own X s β) w) (flat τ (l1 ++ l2)) (cur.toList.take (l1.length * esz τ) ++ news) := by rw [flat_append]; exact hcur.append hn1
          have hall' : All2 (Im O' (w.setRow g (cur.toList.take (l1.length * esz τ) ++ news ++ cur.toList.drop (l1.length * esz τ + news.length)).toArray)) (flat τ (l1 ++ l2)) (cur.toList.take (l1.length * esz τ) ++ news) :=
            hall.mono fun _ _ _ _ him => him.step hstp (fun k hk e => .inr ⟨id1, hid, by rw [e]; exact hb⟩) hO'
          rw [← List.append_assoc, List.take_append_drop, List.length_take, Nat.min_eq_left hk]
          refine ⟨by simp only [List.length_append]; omega, .slice (some ⟨g, 0, none⟩) (l1 ++ l2).length c, ?_, .inr ⟨g, _, c, _, rfl, ?_, fun _ => rfl⟩⟩
          · refine vec_of (by simp [setβ]) (setRow_heap w g cur _ e' _ hh) (by simp only [List.length_append]; omega) hcm ?_ hall' (fun j x hx => ?_)
            · simp only [List.size_toArray, List.length_append, List.length_take, List.length_drop, hcl]
              rw [← hcs]
              omega
            · rw [List.getElem?_toArray, List.getElem?_append_left (by have := (List.getElem?_eq_some_iff.1 hx).1; exact this)]
              exact hx
          · simp only [List.length_append]
            congr 1
            omega
  · -- a new array
    obtain ⟨z, hz, hrun⟩ := hgen.2 (by omega)
    have hzl : z.cells.size = esz τ := by rw [hz]; simp [hz1, hsz]
    have hge := grownCap_ge w (l1.length - k + l2.length) cap e
    have hcm := grownCap_le_maxLen w (l1.length - k + l2.length) cap e h63
    refine ⟨_, _, setβ β d (some w.heap.size), [], Nat.zero_le _, hrun, ?_⟩
    have hstp : Stp (fun _ => False) w (w.drew.alloc (.cells (olds.toArray ++ news.toArray ++ Builtin.zeroCells z.cells (grownCap w (l1.length - k + l2.length) cap e - (l1.length - k + l2.length))) e)) :=
      (Stp.drew w).trans (Stp.alloc w.drew _) (fun _ _ h => h)
    have hall : All2 (Im (Own X s β) w) (flat τ (l1.drop k ++ l2)) (olds ++ news) := by rw [flat_append]; exact ho1.append hn1
    refine hI.newAv (Ow := fun _ => False) hd hfree hstp (fun _ h => h.elim) (fun g' hg' => ?_) (by simp [ids, ids0]) (fun O' hO' => ?_)
    · injection hg' with hg'; subst hg'
      exact ⟨by simp, .inr (Nat.le_refl _)⟩
    · rw [List.nil_append, List.length_nil]
      refine ⟨Nat.zero_le _, _, ?_, .inl ⟨rfl, rfl⟩⟩
      rw [show l1.length - k + l2.length = (l1.drop k ++ l2).length from by simp] at hge hcm ⊢
      have hall' := hall.mono (R' := Im O' (w.drew.alloc (.cells (olds.toArray ++ news.toArray ++ Builtin.zeroCells z.cells (grownCap w (l1.drop k ++ l2).length cap e - (l1.drop k ++ l2).length)) e))) fun _ _ _ _ him =>
        him.step (Ow := fun _ => False) ((Stp.drew w).trans (Stp.alloc w.drew _) (fun _ _ h => h)) (fun k _ h => h.elim) hO'
      refine vec_of (by simp [setβ]) (heap_alloc_new w.drew _) hge hcm ?_ hall' (fun j x hx => ?_)
      · simp only [Array.size_append, List.size_toArray, size_zeroCells, hzl, hol, hnl]
        rw [← Nat.add_mul, ← Nat.add_mul]
        congr 1
        simp only [List.length_append, List.length_drop] at hge ⊢
        omega
      · have hj : j < (olds ++ news).length := (List.getElem?_eq_some_iff.1 hx).1
        rw [Array.getElem?_append_left (by simpa using hj)]
        simpa using hx
end
end Go.SX
