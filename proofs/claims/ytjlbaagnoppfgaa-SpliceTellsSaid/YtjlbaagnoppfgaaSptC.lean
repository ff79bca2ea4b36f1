/-
  A part of the proof that 'typecaselaw.SpliceTells' returns true, whatever the input: the changed text of the document. No conditions.
-/
import Derived.Test.YtjlbaagnoppfgaaSptA
namespace Go.Proofs.Ytjlbaagnoppfgaa
open Go Go.SX Go.Spl
set_option maxRecDepth 100000
set_option maxHeartbeats 0
/-- the atoms that a change makes -/
def made (s : Str) (c : List Part) : List Atom := atomsOf (wholeFrom 0 s.length) c
theorem made_pos {s : Str} {c : List Part} : ∀ a ∈ made s c, a.pos < s.length := fun a ha => by
  unfold made at ha
  rw [atomsOf_eq] at ha
  rcases at_mem _ _ _ ha with ha | ha
  · have := whole_pos _ 0 a ha; omega
  · omega
theorem made_len {s : Str} {c : List Part} (h2 : ∀ p ∈ c, pfault p = 0) (h : sumOv c = s.length) : (made s c).length = wt fMk (exs c) := by
  have := (wt_sums h2).1
  rw [made, atomsOf_eq, at_length _ _ (by rw [wholeFrom_length]; omega)]
theorem aval_take {s : Str} {a : Atom} (h0 : 0 ≤ a.pos) (h : a.pos < s.length) : (s.take (a.pos + 1).toNat).drop a.pos.toNat = aval s a := by
  have hk : a.pos.toNat < s.length := by omega
  rw [aval, if_neg (by omega), show (a.pos + 1).toNat = a.pos.toNat + 1 by omega, List.take_succ_eq_append_getElem hk, List.drop_append_of_le_length (by rw [List.length_take]; omega), List.drop_eq_nil_of_le (by rw [List.length_take]; omega)]
  simp [List.getD_eq_getElem?_getD, List.getElem?_eq_getElem hk]
theorem changed_take {s : Str} {l : List Atom} {k : Nat} (hk : k < l.length) : changed s (l.take (k + 1)) = changed s (l.take k) ++ aval s (l.getD (Int.toNat k) default) := by
  unfold changed
  rw [List.take_add_one, List.getElem?_eq_getElem hk, List.flatMap_append, Int.toNat_natCast, List.getD_eq_getElem?_getD, List.getElem?_eq_getElem hk]
  simp
theorem changed_len (s : Str) (l : List Atom) : (changed s l).length = l.length := by
  induction l with
  | nil => rfl
  | cons a l ih =>
    unfold changed at ih ⊢
    rw [List.flatMap_cons, List.length_append, ih]
    unfold aval
    split <;> simp <;> omega
theorem w_Changed (s : Str) (c : List Part) (h : (chk c).2.2 = 0) (heq0 : sumOv c = s.length) : vc Try.prog Γ 38 [0, 1, 4, 5, 7, 12, 13, 14, 15, 20] (Try.f26.body.getD .skip) (postK Γ [.tmp 4] (fun v => v = .s (changed s (made s c)))) ⟨argSlots 0 [.s s, .rd .part c], []⟩ := by
  obtain ⟨h1, h2, h3, h4, h5⟩ := chk_inv h
  have hw := wt_sums h2
  have hml := made_len h2 heq0
  have hmp := made_pos (s := s) (c := c)
  intro _
  refine Or.inl (Exists.intro _ (And.intro (spec75 s.length (by omega)) ?_))
  refine Or.inl (Exists.intro _ (And.intro (spec74 (wholeFrom 0 s.length) c h2 h1 (by rw [wholeFrom_length]; omega)) ?_))
  show _ → _
  intro _
  rw [show atomsOf (wholeFrom 0 s.length) c = made s c from rfl]
  generalize made s c = l at hml hmp
  refine Exists.intro [] (Exists.intro [] (Exists.intro [] (Exists.intro Nat (Exists.intro (fun k => k ≤ l.length) (Exists.intro (fun k => ⟨[(0, .s s), (5, .s (changed s (l.take k))), (12, .rd .atom l), (13, .i .i64 l.length), (14, .i .i64 k)], []⟩) (Exists.intro (fun k => l.length - k) (Exists.intro 0 (And.intro (Nat.zero_le _) (And.intro ?_ ?_)))))))))
  · (repeat' (first | exact trivial | exact Or.inl rfl | refine And.intro ?_ ?_))
  · intro k hk0
    have hcl := changed_len s (l.take k)
    rw [List.length_take] at hcl
    refine And.intro (fun hc => ?_) (fun hc => ?_)
    · have hk : k < l.length := by have : (k : Int) < l.length := of_decide_eq_true hc; omega
      refine And.intro ⟨by omega, by omega⟩ ?_
      have hm : l.getD (Int.toNat k) default ∈ l := by rw [Int.toNat_natCast, List.getD_eq_getElem?_getD, List.getElem?_eq_getElem hk]; exact List.getElem_mem hk
      have hp := hmp _ hm
      have hct := changed_take (s := s) hk
      refine And.intro (fun hn => ?_) (fun hn => ?_)
      · have hn : (l.getD (Int.toNat k) default).pos < 0 := of_decide_eq_true hn
        have ha : aval s (l.getD (Int.toNat k) default) = List.map ofB [(l.getD (Int.toNat k) (dflt .atom)).c] := by unfold aval; rw [if_pos hn]; rfl
        rw [ha] at hct
        refine And.intro (by show _ + 1 ≤ _; unfold maxLen; omega) ?_
        refine And.intro ⟨by omega, by omega⟩ ?_
        refine Exists.intro [] (Exists.intro (k + 1) (And.intro hk (And.intro ?_ ?_)))
        · rw [← hct]
          (repeat' (first | exact trivial | exact Or.inl rfl | refine And.intro ?_ ?_))
        · show l.length - (k + 1) < l.length - k
          omega
      · have hn : ¬ (l.getD (Int.toNat k) default).pos < 0 := of_decide_eq_false hn
        have ha := aval_take (s := s) (a := l.getD (Int.toNat k) default) (by omega) hp
        rw [← ha] at hct
        have hl1 : ((s.take ((l.getD (Int.toNat k) default).pos + 1).toNat).drop (l.getD (Int.toNat k) default).pos.toNat).length = 1 := by rw [ha]; unfold aval; split <;> rfl
        refine And.intro ⟨by show _ ≤ (l.getD (Int.toNat k) default).pos + 1; omega, by show (l.getD (Int.toNat k) default).pos + 1 ≤ _; omega⟩ ?_
        refine And.intro ⟨by show 0 ≤ (l.getD (Int.toNat k) default).pos; omega, by show (l.getD (Int.toNat k) default).pos ≤ (l.getD (Int.toNat k) default).pos + 1; omega, by show (l.getD (Int.toNat k) default).pos + 1 ≤ _; omega⟩ ?_
        refine And.intro (by show _ + ((s.take ((l.getD (Int.toNat k) default).pos + 1).toNat).drop (l.getD (Int.toNat k) default).pos.toNat).length ≤ _; rw [hl1]; unfold maxLen; omega) ?_
        refine And.intro ⟨by omega, by omega⟩ ?_
        refine Exists.intro [] (Exists.intro (k + 1) (And.intro hk (And.intro ?_ ?_)))
        · (repeat' (first | exact trivial | exact Or.inl rfl | exact Or.inl (congrArg AV.s hct.symm) | refine And.intro ?_ ?_))
        · show l.length - (k + 1) < l.length - k
          omega
    · have hk : k = l.length := by have : ¬ (k : Int) < l.length := of_decide_eq_false hc; omega
      subst hk
      show _ = _
      rw [List.take_length]
      rfl
theorem s_Changed (s : Str) (c : List Part) (h : (chk c).2.2 = 0) (heq0 : sumOv c = s.length) : PSpec Try.prog 26 [.s s, .rd .part c] (.s (changed s (made s c))) :=
  pspec_of_vc Γ_good Try.func26 rfl Try.call26 Try.results26 Try.ntmps26 (Nat.le_of_ble_eq_true rfl) (w_Changed s c h heq0)
theorem putsB_cons (s : Str) {lo hi : Nat} (h : lo < hi) (hs : hi ≤ s.length) : putsB s lo hi = ⟨-1, ((s.getD lo 0).toNat : Int)⟩ :: putsB s (lo + 1) hi := by
  unfold putsB
  rw [drop_cons' (l := s.take hi) (i := lo) 0 (by rw [List.length_take]; omega), List.map_cons]
  have : (s.take hi).getD lo 0 = s.getD lo 0 := by simp [List.getD_eq_getElem?_getD, List.getElem?_take, h]
  rw [this]
structure KS where
  out : List Atom
  nx : Nat
  k : Nat
structure KI (s : Str) (l T : List Atom) (x : KS) : Prop where
  k : x.k ≤ l.length
  nx : x.nx ≤ s.length
  eq : x.out ++ back s x.k x.nx (l.drop x.k) = T
structure KJ (s : Str) (p : Nat) (R T : List Atom) (x : List Atom × Nat) : Prop where
  nx : x.2 ≤ s.length
  eq : x.1 ++ (putsB s x.2 p ++ R) = T
theorem drop_consA {l : List Atom} {k : Nat} (hk : k < l.length) : l.drop k = l.getD (Int.toNat k) default :: l.drop (k + 1) := by rw [Int.toNat_natCast]; exact drop_cons' _ hk
theorem w_Backwards (s : Str) (c : List Part) (h : (chk c).2.2 = 0) (heq0 : sumOv c = s.length) : vc Try.prog Γ 64 [0, 1, 4, 5, 6, 7, 8, 9, 15, 16, 17, 18, 24, 28, 50] (Try.f27.body.getD .skip) (postK Γ [.tmp 4] (fun v => v = .rd .part (normalOf (back s 0 0 (made s c)) (made s c).length))) ⟨argSlots 0 [.s s, .rd .part c], []⟩ := by
  obtain ⟨h1, h2, h3, h4, h5⟩ := chk_inv h
  have hw := wt_sums h2
  have hml := made_len h2 heq0
  have hmp := made_pos (s := s) (c := c)
  have hT : back s 0 0 (made s c) = at' (wholeFrom 0 (wt fMk (exs c))) (inv s (exs c)) := by
    have := back_eq s (exs c) 0 0 s.length (wt fMk (exs c)) 0 (by omega) (by omega) rfl (Nat.le_refl _)
    rw [putsB_nil s (Nat.le_refl _), List.nil_append, List.drop_zero] at this
    rw [made, atomsOf_eq, ← this]
  have hov := inv_ov (exs c) s (by omega)
  have hTl : (back s 0 0 (made s c)).length = wt fMk (inv s (exs c)) := by rw [hT, at_length _ _ (by rw [wholeFrom_length]; omega)]
  have hTp : ∀ a ∈ back s 0 0 (made s c), a.pos ≤ 1000000 := fun a ha => by
    rw [hT] at ha
    rcases at_mem _ _ _ ha with ha | ha
    · have := whole_pos _ 0 a ha; omega
    · omega
  have hTb : (back s 0 0 (made s c)).length ≤ 1000000 := by
    rw [hTl]
    have := inv_mk (exs c) s
    omega
  intro _
  refine Or.inl (Exists.intro _ (And.intro (spec75 s.length (by omega)) ?_))
  refine Or.inl (Exists.intro _ (And.intro (spec74 (wholeFrom 0 s.length) c h2 h1 (by rw [wholeFrom_length]; omega)) ?_))
  rw [show atomsOf (wholeFrom 0 s.length) c = made s c from rfl]
  generalize made s c = l at hml hmp hTb hTp
  generalize hTd : back s 0 0 l = T at hTb hTp
  show _ → _
  intro _
  refine Exists.intro [(6, 30, .atom)] (Exists.intro [] (Exists.intro [] (Exists.intro KS (Exists.intro (KI s l T) (Exists.intro (fun ⟨out, nx, k⟩ => ⟨[(0, .s s), (5, .rd .atom l), (6, .vec 30 .atom out), (7, .i .i64 nx), (15, .rd .atom l), (16, .i .i64 l.length), (17, .i .i64 k)], []⟩) (Exists.intro (fun x => l.length - x.k) (Exists.intro ⟨[], 0, 0⟩ (And.intro ⟨Nat.zero_le _, Nat.zero_le _, by simpa using hTd⟩ (And.intro ?_ ?_)))))))))
  · (repeat' (first | exact trivial | exact Or.inl rfl | refine And.intro ?_ ?_))
  · rintro ⟨out, nx, k⟩ hx
    have hk0 := hx.k
    have hnx := hx.nx
    have heq := hx.eq
    simp only at hk0 hnx heq
    refine And.intro (fun hc => ?_) (fun hc => ?_)
    · have hk : k < l.length := by have : (k : Int) < l.length := of_decide_eq_true hc; omega
      refine And.intro ⟨by omega, by omega⟩ ?_
      have hm : l.getD (Int.toNat k) default ∈ l := by rw [Int.toNat_natCast, List.getD_eq_getElem?_getD, List.getElem?_eq_getElem hk]; exact List.getElem_mem hk
      have hp := hmp _ hm
      rw [drop_consA hk, back] at heq
      refine And.intro (fun hn => ?_) (fun hn => ?_)
      · have hn : (l.getD (Int.toNat k) default).pos < 0 := of_decide_eq_true hn
        rw [if_pos hn] at heq
        refine And.intro ⟨by omega, by omega⟩ ?_
        refine Exists.intro [] (Exists.intro ⟨out, nx, k + 1⟩ (And.intro ⟨hk, hnx, heq⟩ (And.intro ?_ ?_)))
        · (repeat' (first | exact trivial | exact Or.inl rfl | refine And.intro ?_ ?_))
        · show l.length - (k + 1) < l.length - k
          omega
      · have hn : ¬ (l.getD (Int.toNat k) default).pos < 0 := of_decide_eq_false hn
        rw [if_neg hn] at heq
        generalize hR : (⟨(k : Int), 0⟩ :: back s (k + 1) ((l.getD (Int.toNat k) default).pos.toNat + 1) (l.drop (k + 1)) : List Atom) = R at heq
        refine Exists.intro [] (Exists.intro [] (Exists.intro [] (Exists.intro (List Atom × Nat) (Exists.intro (KJ s (l.getD (Int.toNat k) default).pos.toNat R T) (Exists.intro (fun ⟨out, nx⟩ => ⟨[(0, .s s), (5, .rd .atom l), (6, .vec 30 .atom out), (7, .i .i64 nx), (8, .i .i64 k), (9, .pt 9 0), (15, .rd .atom l), (16, .i .i64 l.length), (17, .i .i64 k)], [(9, [.i .i64 (l.getD (Int.toNat k) default).pos, .i .u8 (l.getD (Int.toNat k) default).c])]⟩) (Exists.intro (fun x => s.length - x.2) (Exists.intro (out, nx) (And.intro ⟨hnx, heq⟩ (And.intro ?_ ?_)))))))))
        · (repeat' (first | exact trivial | exact Or.inl rfl | refine And.intro ?_ ?_))
        · rintro ⟨out, nx⟩ hy
          have hnx := hy.nx
          have heq := hy.eq
          simp only at hnx heq
          have hol : out.length ≤ 1000000 := by have := congrArg List.length heq; rw [List.length_append] at this; omega
          refine And.intro (fun hc2 => ?_) (fun hc2 => ?_)
          · have hlt : (nx : Int) < (l.getD (Int.toNat k) default).pos := of_decide_eq_true hc2
            rw [putsB_cons s (by omega) (by omega), List.cons_append, ← List.singleton_append, ← List.append_assoc] at heq
            refine And.intro ⟨by omega, by omega⟩ ?_
            refine And.intro (by show (out.length + 1) * 16 ≤ _; omega) ?_
            refine And.intro ⟨by omega, by omega⟩ ?_
            refine Exists.intro [(37, 30)] (Exists.intro (out ++ [⟨-1, ((s.getD nx 0).toNat : Int)⟩], nx + 1) (And.intro ⟨by show nx + 1 ≤ s.length; omega, heq⟩ (And.intro ?_ ?_)))
            · (repeat' (first | exact trivial | exact Or.inl rfl | refine And.intro ?_ ?_))
            · show s.length - (nx + 1) < s.length - nx
              omega
          · have hge : ¬ (nx : Int) < (l.getD (Int.toNat k) default).pos := of_decide_eq_false hc2
            rw [putsB_nil s (by omega), List.nil_append, ← hR, ← List.singleton_append, ← List.append_assoc] at heq
            refine And.intro (by show (out.length + 1) * 16 ≤ _; omega) ?_
            refine And.intro ⟨by show _ ≤ (l.getD (Int.toNat k) default).pos + 1; omega, by show (l.getD (Int.toNat k) default).pos + 1 ≤ _; omega⟩ ?_
            refine And.intro ⟨by omega, by omega⟩ ?_
            have hpn : (l.getD (Int.toNat k) default).pos + 1 = (((l.getD (Int.toNat k) default).pos.toNat + 1 : Nat) : Int) := by omega
            refine Exists.intro [(42, 30)] (Exists.intro ⟨out ++ [⟨(k : Int), 0⟩], (l.getD (Int.toNat k) default).pos.toNat + 1, k + 1⟩ (And.intro ⟨hk, by show _ + 1 ≤ _; omega, heq⟩ (And.intro ?_ ?_)))
            · (repeat' (first | exact trivial | exact Or.inl rfl | exact Or.inl (congrArg (AV.i .i64) hpn) | refine And.intro ?_ ?_))
            · show l.length - (k + 1) < l.length - k
              omega
    · have hk : k = l.length := by have : ¬ (k : Int) < l.length := of_decide_eq_false hc; omega
      subst hk
      rw [List.drop_length, back] at heq
      refine Exists.intro [] (Exists.intro [] (Exists.intro [] (Exists.intro (List Atom × Nat) (Exists.intro (KJ s s.length [] T) (Exists.intro (fun ⟨out, nx⟩ => ⟨[(0, .s s), (5, .rd .atom l), (6, .vec 30 .atom out), (7, .i .i64 nx)], []⟩) (Exists.intro (fun x => s.length - x.2) (Exists.intro (out, nx) (And.intro ⟨hnx, (by rw [List.append_nil]; exact heq)⟩ (And.intro ?_ ?_)))))))))
      · (repeat' (first | exact trivial | exact Or.inl rfl | refine And.intro ?_ ?_))
      · rintro ⟨out, nx⟩ hy
        have hnx := hy.nx
        have heq := hy.eq
        simp only [List.append_nil] at hnx heq
        have hol : out.length ≤ 1000000 := by have := congrArg List.length heq; rw [List.length_append] at this; omega
        intro _
        refine And.intro (fun hc2 => ?_) (fun hc2 => ?_)
        · have hlt : (nx : Int) < s.length := of_decide_eq_true hc2
          rw [putsB_cons s (by omega) (by omega), ← List.singleton_append, ← List.append_assoc] at heq
          refine And.intro ⟨by omega, by omega⟩ ?_
          refine And.intro (by show (out.length + 1) * 16 ≤ _; omega) ?_
          refine And.intro ⟨by omega, by omega⟩ ?_
          refine Exists.intro [(59, 30)] (Exists.intro (out ++ [⟨-1, ((s.getD nx 0).toNat : Int)⟩], nx + 1) (And.intro ⟨by show nx + 1 ≤ s.length; omega, (by rw [List.append_nil]; exact heq)⟩ (And.intro ?_ ?_)))
          · (repeat' (first | exact trivial | exact Or.inl rfl | refine And.intro ?_ ?_))
          · show s.length - (nx + 1) < s.length - nx
            omega
        · have hge : ¬ (nx : Int) < s.length := of_decide_eq_false hc2
          rw [putsB_nil s (by omega), List.append_nil] at heq
          subst heq
          intro _
          refine Or.inl (Exists.intro _ (And.intro (spec73 out l.length (by omega) (by omega) hTp) ?_))
          show _ = _
          rfl
theorem s_Backwards (s : Str) (c : List Part) (h : (chk c).2.2 = 0) (heq0 : sumOv c = s.length) : PSpec Try.prog 27 [.s s, .rd .part c] (.rd .part (normalOf (back s 0 0 (made s c)) (made s c).length)) :=
  pspec_of_vc Γ_good Try.func27 rfl Try.call27 Try.results27 Try.ntmps27 (Nat.le_of_ble_eq_true rfl) (w_Backwards s c h heq0)
end Go.Proofs.Ytjlbaagnoppfgaa
