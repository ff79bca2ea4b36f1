/-
  A part of a proof: plain laws and walks, one after the other. No conditions.
-/
import Derived.Test.YtmfchbkdakmjhaaDoorSa4
import Derived.Laws.Bits64b
import Derived.Lib.ItoaLen
import Derived.Shelf.Spec.BitsCarry
import Derived.Laws.Bits64
import Derived.Laws.IdiomCopy
import Derived.Lib.Overlaps
import Derived.Lib.AppendZerosOnto
set_option linter.constructorNameAsVariable false
set_option linter.unusedVariables false
set_option linter.unusedSimpArgs false
set_option linter.unusedSectionVars false
section
namespace Go.SX
set_option linter.unusedSectionVars false
variable [Globs]
/-- the end: an own slice as told; or nil, and none is told -/
def postNK {τ : Ty} (Γ : Ctx) (rs : List ResultVar) (id : Nat) (l : List (den τ)) (boxes' : List (Nat × List AV)) (e : Exit) (s : St) : Prop :=
  match e with
  | .normal => endK Γ rs (.vec id τ l) boxes' s ∨ (l = [] ∧ endK Γ rs .nl boxes' s)
  | .ret => endK Γ rs (.vec id τ l) boxes' s ∨ (l = [] ∧ endK Γ rs .nl boxes' s)
  | _ => False
section
variable {P : Program} {N : Nat} {Γ : Ctx}
theorem cspec_of_vcN (hΓ : Γ.good P) {f : FuncId} {fn : Func} {c : Code} (hf : P.funcs[f]? = some fn) (hb : fn.body = some c) (hcall : ∀ (vs : Array Value) (w : World), (callFunc f vs).run P w = .ok (.enter f vs) w)
    {rs : Array ResultVar} (hrs : fn.results = rs) (hN : fn.ntmps = N) {args : List AV} {boxes : List (Nat × List AV)} {id : Nat} {τ : Ty} {l : List (den τ)} {boxes' : List (Nat × List AV)} {L : List Nat} (hlen : args.length ≤ N) (hN1 : 1 ≤ N)
    (hlow : (boxNames boxes).all (fun n => Nat.ble N n) = true) (hfree : inB id (namesB boxes') = false) (hvc : vc P Γ N L c (postNK Γ rs.toList id l boxes') ⟨argSlots 0 args, boxes⟩) : CSpec P f args boxes (.vec id τ l) boxes' := by
  refine ⟨hcall, fun F X β w vs hvs hpin hI0 => ?_⟩
  refine calls_of_wp hf hb ?_
  have hpad : ∀ n, (vs.toArray ++ Array.replicate (fn.ntmps - vs.toArray.size) undef).getD n undef = vs.toArray.getD n undef ∨ look (argSlots 0 args) n = .x := fun n => by
    by_cases hm : n < vs.length
    · left
      simp only [Array.getD_eq_getD_getElem?]
      rw [Array.getElem?_append_left (by simpa using hm)]
    · right
      have h1 := look_args args 0 n
      rw [Nat.zero_add] at h1
      rw [h1, List.getD_eq_getElem?_getD, List.getElem?_eq_none (by omega)]
      rfl
  have hI : InvB w F X N ⟨argSlots 0 args, boxes⟩ β { tmps := vs.toArray ++ Array.replicate (fn.ntmps - vs.toArray.size) undef, defers := [] } w := by
    refine ⟨hI0.ext, fun n => ?_, ?_, hI0.boxes, hI0.inj, hI0.own, hI0.defers, hI0.ext2, hI0.pin, fun n hn => ?_, hI0.gl⟩
    · rcases hpad n with h1 | h1
      · show Rel _ _ _ _ ((vs.toArray ++ Array.replicate (fn.ntmps - vs.toArray.size) undef).getD n undef)
        rw [h1]; exact hI0.slots n
      · show Rel _ _ _ (look (argSlots 0 args) n) _
        rw [h1]; exact Rel.x
    · simp only [Array.size_append, List.size_toArray, Array.size_replicate, hN, hvs]
      omega
    · cases hp : F.pin n with
      | none => rfl
      | some g =>
        have h1 := boxNames_mem.2 (hpin n g hp)
        have := Nat.le_of_ble_eq_true (List.all_eq_true.1 hlow n h1)
        omega
  refine vc_ok (W0 := w) (F := F) (X := X) hΓ c _ _ _ _ _ (fun e s a w' hq ⟨β', hI'⟩ => ?_) hvc ⟨_, hI⟩
  have key : (endK Γ rs.toList (.vec id τ l) boxes' s ∨ (l = [] ∧ endK Γ rs.toList .nl boxes' s)) → a.defers = [] ∧ ∃ v, (results fn a.tmps).run P w' = .ok v w' ∧ ∃ v' β'', Ending.returned v = .returned v' ∧ InvB w F X 1 ⟨[(0, .vec id τ l)], boxes'⟩ β'' ⟨#[v'], []⟩ w' := by
    have hd : F.dfr = [] := hI0.defers.symm
    have hF : { F with dfr := [] } = F := by cases F; simp only at hd; subst hd; rfl
    rintro (h | ⟨rfl, h⟩)
    · rw [← hrs] at h
      obtain ⟨u, β'', h1, h2⟩ := end_ok hΓ hN1 hI' h
      rw [hF] at h2
      exact ⟨hI'.defers.trans hd, u, h1, u, β'', rfl, h2⟩
    · rw [← hrs] at h
      obtain ⟨u, β'', h1, h2⟩ := end_ok hΓ hN1 hI' h
      rw [hF] at h2
      have hnf : ¬ Nm ⟨[(0, AV.nl)], boxes'⟩ id := fun hm => by
        have h3 : id ∈ namesV [.nl] boxes' := Nm_names (fun q => by
          simp only [look]
          cases Nat.beq 0 q with
          | true => exact .inr (List.mem_singleton.2 rfl)
          | false => exact .inl rfl) hm
        have h4 : id ∈ namesB boxes' := by simpa [namesV, namesL, ids, ids0] using h3
        rw [inB_iff.2 h4] at hfree
        cases hfree
      have h3 := h2.nlVec (n := 0) (id := id) rfl hnf τ
      exact ⟨hI'.defers.trans hd, u, h1, u, _, rfl, h3⟩
  cases e with
  | normal => exact key hq
  | ret => exact key hq
  | _ => exact hq.elim
end
end Go.SX
end
section
namespace Go.Proofs.YtmfchbkdakmjhaaDoor
set_option linter.unusedSectionVars false
set_option linter.unusedSimpArgs false
set_option linter.unusedVariables false
open Go Go.SX Go.Ck Go.Vl Go.Ut Go.Up Go.Sp
set_option maxRecDepth 100000
set_option maxHeartbeats 1000000
theorem keysF_drop {l : List Str} {i : Nat} (h : i < l.length) : keysF (l.drop i) = orI (keyS l[i]) (keysF (l.drop (i + 1))) := by
  rw [List.drop_eq_getElem_cons h, keysF]
theorem keysF_stop {l : List Str} {i : Nat} {e : Int} (h : i < l.length) (he : keyS l[i] = e) (h0 : e ≠ 0) : keysF (l.drop i) = e := by rw [keysF_drop h, he, orI_ne h0]
theorem keysF_go {l : List Str} {i : Nat} (h : i < l.length) (he : keyS l[i] = 0) : keysF (l.drop i) = keysF (l.drop (i + 1)) := by rw [keysF_drop h, he, orI_zero]
theorem keyS2 {k : Str} (h : 100 < k.length) : keyS k = 2 := if_pos h
theorem keyS3 {k : Str} (h : ¬ 100 < k.length) (h2 : 0 ≤ bad k) : keyS k = 3 := by unfold keyS; rw [if_neg h, if_pos h2]
theorem keyS0 {k : Str} (h : ¬ 100 < k.length) (h2 : ¬ 0 ≤ bad k) : keyS k = 0 := by unfold keyS; rw [if_neg h, if_neg h2]
section
variable [G : Globs]
theorem w_cloneS (l : List Str) (h : l.length ≤ 1000000) : vc Tryd.prog Γ 8 [0, 2, 4] (Tryd.f48.body.getD .skip) (postNK (τ := .str) Γ [.tmp 2] 1000 (l) []) ⟨argSlots 0 [.rd .str l], []⟩ := by
  intro x hx
  refine And.intro (fun hq => ?_) (fun hq => ?_)
  · have hq : x = true := hq
    have he : l = [] := by
      cases l with
      | nil => rfl
      | cons y r => exact absurd (hx rfl) (by rw [hq]; decide)
    subst he
    refine Or.inr (And.intro rfl ?_)
    refine Exists.intro [] (And.intro rfl (by (repeat' (first | exact trivial | exact Or.inl rfl | exact Or.inr (Or.inl ⟨rfl, _, rfl⟩) | exact Or.inr (Or.inr (Or.inr ⟨_, _, _, rfl, rfl⟩)) | refine And.intro ?_ ?_))))
  · refine And.intro (show (([] : List Str).length + l.length) * 16 ≤ 140737488355328 by simp only [List.length_nil]; omega) ?_
    refine Or.inl ?_
    refine Exists.intro [(7, 1000)] (And.intro rfl (by (repeat' (first | exact trivial | exact Or.inl rfl | exact Or.inr (Or.inl ⟨rfl, _, rfl⟩) | exact Or.inr (Or.inr (Or.inr ⟨_, _, _, rfl, rfl⟩)) | refine And.intro ?_ ?_))))
theorem s_cloneS (l : List Str) (h : l.length ≤ 1000000) : CSpec Tryd.prog 48 [.rd .str l] [] (.vec 1000 .str (l)) [] :=
  cspec_of_vcN Γ_good Tryd.func48 rfl Tryd.call48 Tryd.results48 Tryd.ntmps48 (Nat.le_of_ble_eq_true rfl) (Nat.le_of_ble_eq_true rfl) (by rfl) (by rfl) (w_cloneS l h)
theorem w_moveFault (m : SX.Move) (hv : VB m.v) (hn : (sizV m.v).2 ≤ 1000000000) : vc Tryd.prog Γ 52 [1, 2, 3, 5, 13, 17, 27, 33, 34, 35, 36, 41, 44, 48] (Tryd.f12.body.getD .skip) (postK Γ [.tmp 2] (fun v => v = .i .i64 (moveF m))) ⟨argSlots 0 [.agg (enc .move m)], []⟩ := by
  by_cases c : m.kind < 1 ∨ 7 < m.kind
  · have hr : moveF m = 1 := if_pos c
    rcases c with c | c
    all_goals (repeat' (first | (refine And.intro (fun h => ?_) (fun h => ?_) <;> (try simp [-List.getD_eq_getElem?_getD, -Int.pred_toNat] at h) <;> (try (exfalso; first | omega | contradiction))) | (refine And.intro (rng64 (by omega) (by omega)) ?_) | (refine And.intro ⟨by omega, by omega⟩ ?_) | (refine And.intro ⟨by omega, by omega, by omega⟩ ?_) | (intro _)))
    all_goals exact congrArg (AV.i .i64) hr.symm
  · by_cases d : 20 ≤ m.p.length
    · have hr : moveF m = 5 := by unfold moveF; rw [if_neg c, if_pos d]
      (repeat' (first | (refine And.intro (fun h => ?_) (fun h => ?_) <;> (try simp [-List.getD_eq_getElem?_getD, -Int.pred_toNat] at h) <;> (try (exfalso; first | omega | contradiction))) | (refine And.intro (rng64 (by omega) (by omega)) ?_) | (refine And.intro ⟨by omega, by omega⟩ ?_) | (refine And.intro ⟨by omega, by omega, by omega⟩ ?_) | (intro _)))
      all_goals exact congrArg (AV.i .i64) hr.symm
    · have hr : moveF m = orI (keysF (keysM m)) (if m.kind = 3 then faultV m.v else 0) := by unfold moveF; rw [if_neg c, if_neg d]
      (repeat' (first | (refine And.intro (fun h => ?_) (fun h => ?_) <;> (try simp [-List.getD_eq_getElem?_getD, -Int.pred_toNat] at h) <;> (try (exfalso; first | omega | contradiction))) | (refine And.intro (rng64 (by omega) (by omega)) ?_) | (refine And.intro ⟨by omega, by omega⟩ ?_) | (refine And.intro ⟨by omega, by omega, by omega⟩ ?_) | (intro _)))
      refine Exists.intro [.take 0, .take 3, .tree 4 [1, 2, 4, 5] (.opt 1 (.opt 2 (.opt 4 (.opt 5 .fin .non) .non) (.opt 4 (.opt 2 (.opt 5 .fin .non) (.opt 5 (.opt 2 .fin .non) .non)) .non)) (.opt 4 (.opt 1 (.opt 2 (.opt 5 .fin .non) (.opt 5 (.opt 2 .fin .non) .non)) (.opt 5 (.opt 1 (.opt 2 .fin .non) .non) .non)) .non)), .one 6, .take 7] (And.intro (by kernel_rfl) ?_)
      have hb : m.p.length * 16 ≤ 140737488355328 := by omega
      refine Exists.intro ⟨[(1, .pt 1 0), (2, .i .i64 0), (20, .vec 20 .str m.p), (23, .vec 23 .str [m.key])], [(1, enc .move m)]⟩ (And.intro ?_ ?_)
      · (repeat' (first | exact trivial | exact Or.inl rfl | exact hb | refine And.intro ?_ ?_))
      refine And.intro (show (m.p.length + 1) * 16 ≤ 140737488355328 by omega) ?_
      by_cases hk1 : m.kind = 1
      · let l : List Str := m.p ++ [m.key] ++ [m.to]
        have hkm : keysM m = l := if_pos hk1
        rw [hkm, if_neg (by omega), orI_right] at hr
        (repeat' (first | (refine And.intro (fun h => ?_) (fun h => ?_) <;> (try simp [-List.getD_eq_getElem?_getD, -Int.pred_toNat] at h) <;> (try (exfalso; first | omega | contradiction))) | (refine And.intro (rng64 (by omega) (by omega)) ?_) | (refine And.intro ⟨by omega, by omega⟩ ?_) | (refine And.intro ⟨by omega, by omega, by omega⟩ ?_) | (intro _)))
        refine And.intro (show ((m.p ++ [m.key]).length + 1) * 16 ≤ 140737488355328 by rw [List.length_append]; simp only [List.length_cons, List.length_nil]; omega) ?_
        have hln : l.length ≤ 1000 := by
          show (m.p ++ [m.key] ++ [m.to]).length ≤ 1000
          rw [List.length_append, List.length_append]; simp only [List.length_cons, List.length_nil]; omega
        (repeat' (first | (refine And.intro (fun h => ?_) (fun h => ?_) <;> (try simp [-List.getD_eq_getElem?_getD, -Int.pred_toNat] at h) <;> (try (exfalso; first | omega | contradiction))) | (refine And.intro (rng64 (by omega) (by omega)) ?_) | (refine And.intro ⟨by omega, by omega⟩ ?_) | (refine And.intro ⟨by omega, by omega, by omega⟩ ?_) | (intro _)))
        refine Exists.intro [] (Exists.intro [] (Exists.intro [(999, 32)] (Exists.intro Nat (Exists.intro (fun i => i ≤ ((l)).length ∧ (keysF (l) = keysF ((l).drop i))) (Exists.intro (fun i => ⟨[(1, .pt 1 0), (2, .i .i64 0), (33, .rd .str (l)), (34, .i .i64 (l).length), (35, .i .i64 i)], [(1, enc .move m)]⟩) (Exists.intro (fun i => ((l)).length - i) (Exists.intro 0 (And.intro ⟨Nat.zero_le _, rfl⟩ (And.intro ?_ ?_)))))))))
        · (repeat' (first | exact trivial | exact Or.inl rfl | exact Or.inr (Or.inl ⟨rfl, _, rfl⟩) | exact Or.inr (Or.inr (Or.inr ⟨_, _, _, rfl, rfl⟩)) | refine And.intro ?_ ?_))
        rintro i ⟨hi, hI⟩
        refine And.intro (fun hz => ?_) (fun hz => ?_)
        · have hi := ltD hz
          have hg := getI (τ := .str) hi
          refine And.intro ⟨by omega, by omega⟩ ?_
          rw [hg]
          by_cases d2 : 100 < (l)[i].length
          · rw [keysF_stop hi (keyS2 d2) (by decide)] at hI
            rw [hI] at hr
            (repeat' (first | (refine And.intro (fun h => ?_) (fun h => ?_) <;> (try simp [-List.getD_eq_getElem?_getD, -Int.pred_toNat] at h) <;> (try (exfalso; first | omega | contradiction))) | (refine And.intro (rng64 (by omega) (by omega)) ?_) | (refine And.intro ⟨by omega, by omega⟩ ?_) | (refine And.intro ⟨by omega, by omega, by omega⟩ ?_) | (intro _)))
            exact congrArg (AV.i .i64) hr.symm
          · by_cases d3 : 0 ≤ bad (l)[i]
            · rw [keysF_stop hi (keyS3 d2 d3) (by decide)] at hI
              rw [hI] at hr
              (repeat' (first | (refine And.intro (fun h => ?_) (fun h => ?_) <;> (try simp [-List.getD_eq_getElem?_getD, -Int.pred_toNat] at h) <;> (try (exfalso; first | omega | contradiction))) | (refine And.intro (rng64 (by omega) (by omega)) ?_) | (refine And.intro ⟨by omega, by omega⟩ ?_) | (refine And.intro ⟨by omega, by omega, by omega⟩ ?_) | (intro _)))
              refine Or.inl (Exists.intro _ (And.intro (s_BadPlace (l)[i]) ?_))
              (repeat' (first | (refine And.intro (fun h => ?_) (fun h => ?_) <;> (try simp [-List.getD_eq_getElem?_getD, -Int.pred_toNat] at h) <;> (try (exfalso; first | omega | contradiction))) | (refine And.intro (rng64 (by omega) (by omega)) ?_) | (refine And.intro ⟨by omega, by omega⟩ ?_) | (refine And.intro ⟨by omega, by omega, by omega⟩ ?_) | (intro _)))
              exact congrArg (AV.i .i64) hr.symm
            · rw [keysF_go hi (keyS0 d2 d3)] at hI
              (repeat' (first | (refine And.intro (fun h => ?_) (fun h => ?_) <;> (try simp [-List.getD_eq_getElem?_getD, -Int.pred_toNat] at h) <;> (try (exfalso; first | omega | contradiction))) | (refine And.intro (rng64 (by omega) (by omega)) ?_) | (refine And.intro ⟨by omega, by omega⟩ ?_) | (refine And.intro ⟨by omega, by omega, by omega⟩ ?_) | (intro _)))
              refine Or.inl (Exists.intro _ (And.intro (s_BadPlace (l)[i]) ?_))
              (repeat' (first | (refine And.intro (fun h => ?_) (fun h => ?_) <;> (try simp [-List.getD_eq_getElem?_getD, -Int.pred_toNat] at h) <;> (try (exfalso; first | omega | contradiction))) | (refine And.intro (rng64 (by omega) (by omega)) ?_) | (refine And.intro ⟨by omega, by omega⟩ ?_) | (refine And.intro ⟨by omega, by omega, by omega⟩ ?_) | (intro _)))
              refine Exists.intro [] (Exists.intro (i + 1) (And.intro ⟨hi, hI⟩ (And.intro ?_ ?_)))
              all_goals first | (exact Nat.sub_lt_sub_left (by omega) (by omega)) | (repeat' (first | exact trivial | exact Or.inl rfl | exact Or.inr (Or.inl ⟨rfl, _, rfl⟩) | exact Or.inr (Or.inr (Or.inr ⟨_, _, _, rfl, rfl⟩)) | refine And.intro ?_ ?_))
        · (have hi := geD hi hz)
          rw [List.drop_eq_nil_of_le (by omega)] at hI
          have hI : keysF (l) = 0 := hI
          rw [hI] at hr
          (repeat' (first | (refine And.intro (fun h => ?_) (fun h => ?_) <;> (try simp [-List.getD_eq_getElem?_getD, -Int.pred_toNat] at h) <;> (try (exfalso; first | omega | contradiction))) | (refine And.intro (rng64 (by omega) (by omega)) ?_) | (refine And.intro ⟨by omega, by omega⟩ ?_) | (refine And.intro ⟨by omega, by omega, by omega⟩ ?_) | (intro _)))
          exact congrArg (AV.i .i64) hr.symm
      · let l : List Str := m.p ++ [m.key]
        have hkm : keysM m = l := if_neg hk1
        rw [hkm] at hr
        (repeat' (first | (refine And.intro (fun h => ?_) (fun h => ?_) <;> (try simp [-List.getD_eq_getElem?_getD, -Int.pred_toNat] at h) <;> (try (exfalso; first | omega | contradiction))) | (refine And.intro (rng64 (by omega) (by omega)) ?_) | (refine And.intro ⟨by omega, by omega⟩ ?_) | (refine And.intro ⟨by omega, by omega, by omega⟩ ?_) | (intro _)))
        have hln : l.length ≤ 1000 := by
          show (m.p ++ [m.key]).length ≤ 1000
          rw [List.length_append]; simp only [List.length_cons, List.length_nil]; omega
        refine Exists.intro [] (Exists.intro [] (Exists.intro [(999, 24)] (Exists.intro Nat (Exists.intro (fun i => i ≤ ((l)).length ∧ (keysF (l) = keysF ((l).drop i))) (Exists.intro (fun i => ⟨[(1, .pt 1 0), (2, .i .i64 0), (33, .rd .str (l)), (34, .i .i64 (l).length), (35, .i .i64 i)], [(1, enc .move m)]⟩) (Exists.intro (fun i => ((l)).length - i) (Exists.intro 0 (And.intro ⟨Nat.zero_le _, rfl⟩ (And.intro ?_ ?_)))))))))
        · (repeat' (first | exact trivial | exact Or.inl rfl | exact Or.inr (Or.inl ⟨rfl, _, rfl⟩) | exact Or.inr (Or.inr (Or.inr ⟨_, _, _, rfl, rfl⟩)) | refine And.intro ?_ ?_))
        rintro i ⟨hi, hI⟩
        refine And.intro (fun hz => ?_) (fun hz => ?_)
        · have hi := ltD hz
          have hg := getI (τ := .str) hi
          refine And.intro ⟨by omega, by omega⟩ ?_
          rw [hg]
          by_cases d2 : 100 < (l)[i].length
          · rw [keysF_stop hi (keyS2 d2) (by decide)] at hI
            rw [hI, orI_ne (by decide)] at hr
            (repeat' (first | (refine And.intro (fun h => ?_) (fun h => ?_) <;> (try simp [-List.getD_eq_getElem?_getD, -Int.pred_toNat] at h) <;> (try (exfalso; first | omega | contradiction))) | (refine And.intro (rng64 (by omega) (by omega)) ?_) | (refine And.intro ⟨by omega, by omega⟩ ?_) | (refine And.intro ⟨by omega, by omega, by omega⟩ ?_) | (intro _)))
            exact congrArg (AV.i .i64) hr.symm
          · by_cases d3 : 0 ≤ bad (l)[i]
            · rw [keysF_stop hi (keyS3 d2 d3) (by decide)] at hI
              rw [hI, orI_ne (by decide)] at hr
              (repeat' (first | (refine And.intro (fun h => ?_) (fun h => ?_) <;> (try simp [-List.getD_eq_getElem?_getD, -Int.pred_toNat] at h) <;> (try (exfalso; first | omega | contradiction))) | (refine And.intro (rng64 (by omega) (by omega)) ?_) | (refine And.intro ⟨by omega, by omega⟩ ?_) | (refine And.intro ⟨by omega, by omega, by omega⟩ ?_) | (intro _)))
              refine Or.inl (Exists.intro _ (And.intro (s_BadPlace (l)[i]) ?_))
              (repeat' (first | (refine And.intro (fun h => ?_) (fun h => ?_) <;> (try simp [-List.getD_eq_getElem?_getD, -Int.pred_toNat] at h) <;> (try (exfalso; first | omega | contradiction))) | (refine And.intro (rng64 (by omega) (by omega)) ?_) | (refine And.intro ⟨by omega, by omega⟩ ?_) | (refine And.intro ⟨by omega, by omega, by omega⟩ ?_) | (intro _)))
              exact congrArg (AV.i .i64) hr.symm
            · rw [keysF_go hi (keyS0 d2 d3)] at hI
              (repeat' (first | (refine And.intro (fun h => ?_) (fun h => ?_) <;> (try simp [-List.getD_eq_getElem?_getD, -Int.pred_toNat] at h) <;> (try (exfalso; first | omega | contradiction))) | (refine And.intro (rng64 (by omega) (by omega)) ?_) | (refine And.intro ⟨by omega, by omega⟩ ?_) | (refine And.intro ⟨by omega, by omega, by omega⟩ ?_) | (intro _)))
              refine Or.inl (Exists.intro _ (And.intro (s_BadPlace (l)[i]) ?_))
              (repeat' (first | (refine And.intro (fun h => ?_) (fun h => ?_) <;> (try simp [-List.getD_eq_getElem?_getD, -Int.pred_toNat] at h) <;> (try (exfalso; first | omega | contradiction))) | (refine And.intro (rng64 (by omega) (by omega)) ?_) | (refine And.intro ⟨by omega, by omega⟩ ?_) | (refine And.intro ⟨by omega, by omega, by omega⟩ ?_) | (intro _)))
              refine Exists.intro [] (Exists.intro (i + 1) (And.intro ⟨hi, hI⟩ (And.intro ?_ ?_)))
              all_goals first | (exact Nat.sub_lt_sub_left (by omega) (by omega)) | (repeat' (first | exact trivial | exact Or.inl rfl | exact Or.inr (Or.inl ⟨rfl, _, rfl⟩) | exact Or.inr (Or.inr (Or.inr ⟨_, _, _, rfl, rfl⟩)) | refine And.intro ?_ ?_))
        · (have hi := geD hi hz)
          rw [List.drop_eq_nil_of_le (by omega)] at hI
          have hI : keysF (l) = 0 := hI
          rw [hI] at hr
          by_cases h3 : m.kind = 3
          · rw [if_pos h3, orI_zero] at hr
            rw [hr]
            (repeat' (first | (refine And.intro (fun h => ?_) (fun h => ?_) <;> (try simp [-List.getD_eq_getElem?_getD, -Int.pred_toNat] at h) <;> (try (exfalso; first | omega | contradiction))) | (refine And.intro (rng64 (by omega) (by omega)) ?_) | (refine And.intro ⟨by omega, by omega⟩ ?_) | (refine And.intro ⟨by omega, by omega, by omega⟩ ?_) | (intro _)))
            refine Or.inl (Exists.intro _ (And.intro (s_fault m.v hv hn) ?_))
            rfl
          · rw [if_neg h3, orI_zero] at hr
            rw [hr]
            (repeat' (first | (refine And.intro (fun h => ?_) (fun h => ?_) <;> (try simp [-List.getD_eq_getElem?_getD, -Int.pred_toNat] at h) <;> (try (exfalso; first | omega | contradiction))) | (refine And.intro (rng64 (by omega) (by omega)) ?_) | (refine And.intro ⟨by omega, by omega⟩ ?_) | (refine And.intro ⟨by omega, by omega, by omega⟩ ?_) | (intro _)))
            rfl
theorem s_moveFault (m : SX.Move) (hv : VB m.v) (hn : (sizV m.v).2 ≤ 1000000000) : PSpec Tryd.prog 12 [.agg (enc .move m)] (.i .i64 (moveF m)) :=
  pspec_of_vc Γ_good Tryd.func12 rfl Tryd.call12 Tryd.results12 Tryd.ntmps12 (Nat.le_of_ble_eq_true rfl) (w_moveFault m hv hn)
theorem w_stepCheck (hu : HasU8) (m : SX.Move) (hv : VB m.v) (hn : (sizV m.v).2 ≤ 1000000000) : vc Tryd.prog Γ 56 [1, 2, 3, 5, 6, 15, 29, 35, 36, 37, 38, 41, 45, 52] (Tryd.f11.body.getD .skip) (postK Γ [.tmp 2] (fun v => v = .i .i64 (moveF m))) ⟨argSlots 0 [.agg (enc .move m)], []⟩ := by
  by_cases c : m.kind < 1 ∨ 7 < m.kind
  · have hr : moveF m = 1 := if_pos c
    rcases c with c | c
    all_goals (repeat' (first | (refine And.intro (fun h => ?_) (fun h => ?_) <;> (try simp [-List.getD_eq_getElem?_getD, -Int.pred_toNat] at h) <;> (try (exfalso; first | omega | contradiction))) | (refine And.intro (rng64 (by omega) (by omega)) ?_) | (refine And.intro ⟨by omega, by omega⟩ ?_) | (refine And.intro ⟨by omega, by omega, by omega⟩ ?_) | (intro _)))
    all_goals exact congrArg (AV.i .i64) hr.symm
  · by_cases d : 20 ≤ m.p.length
    · have hr : moveF m = 5 := by unfold moveF; rw [if_neg c, if_pos d]
      (repeat' (first | (refine And.intro (fun h => ?_) (fun h => ?_) <;> (try simp [-List.getD_eq_getElem?_getD, -Int.pred_toNat] at h) <;> (try (exfalso; first | omega | contradiction))) | (refine And.intro (rng64 (by omega) (by omega)) ?_) | (refine And.intro ⟨by omega, by omega⟩ ?_) | (refine And.intro ⟨by omega, by omega, by omega⟩ ?_) | (intro _)))
      all_goals exact congrArg (AV.i .i64) hr.symm
    · have hr : moveF m = orI (keysF (keysM m)) (if m.kind = 3 then faultV m.v else 0) := by unfold moveF; rw [if_neg c, if_neg d]
      have hC := s_cloneS m.p (by omega)
      (repeat' (first | (refine And.intro (fun h => ?_) (fun h => ?_) <;> (try simp [-List.getD_eq_getElem?_getD, -Int.pred_toNat] at h) <;> (try (exfalso; first | omega | contradiction))) | (refine And.intro (rng64 (by omega) (by omega)) ?_) | (refine And.intro ⟨by omega, by omega⟩ ?_) | (refine And.intro ⟨by omega, by omega, by omega⟩ ?_) | (intro _)))
      refine Exists.intro [.take 0, .take 3, .tree 4 [1, 2, 4, 5] (.opt 1 (.opt 2 (.opt 4 (.opt 5 .fin .non) .non) (.opt 4 (.opt 2 (.opt 5 .fin .non) (.opt 5 (.opt 2 .fin .non) .non)) .non)) (.opt 4 (.opt 1 (.opt 2 (.opt 5 .fin .non) (.opt 5 (.opt 2 .fin .non) .non)) (.opt 5 (.opt 1 (.opt 2 .fin .non) .non) .non)) .non)), .one 6, .take 7] (And.intro (by kernel_rfl) ?_)
      refine Exists.intro ⟨[(1, .pt 1 0), (2, .i .i64 0), (22, .vec 22 .str m.p), (25, .vec 25 .str [m.key])], [(1, enc .move m)]⟩ (And.intro ?_ ?_)
      · (repeat' (first | exact trivial | exact Or.inl rfl | (refine Or.inr (Or.inl (Exists.intro [] (Exists.intro _ (Exists.intro _ (Exists.intro _ (Exists.intro _ (Exists.intro _ (Exists.intro [(1000, 22)] (And.intro hC ?_))))))))); refine And.intro rfl (And.intro rfl (And.intro rfl (And.intro rfl ?_)))) | refine And.intro ?_ ?_))
      refine And.intro (show (m.p.length + 1) * 16 ≤ 140737488355328 by omega) ?_
      by_cases hk1 : m.kind = 1
      · let l : List Str := m.p ++ [m.key] ++ [m.to]
        have hkm : keysM m = l := if_pos hk1
        rw [hkm, if_neg (by omega), orI_right] at hr
        (repeat' (first | (refine And.intro (fun h => ?_) (fun h => ?_) <;> (try simp [-List.getD_eq_getElem?_getD, -Int.pred_toNat] at h) <;> (try (exfalso; first | omega | contradiction))) | (refine And.intro (rng64 (by omega) (by omega)) ?_) | (refine And.intro ⟨by omega, by omega⟩ ?_) | (refine And.intro ⟨by omega, by omega, by omega⟩ ?_) | (intro _)))
        refine And.intro (show ((m.p ++ [m.key]).length + 1) * 16 ≤ 140737488355328 by rw [List.length_append]; simp only [List.length_cons, List.length_nil]; omega) ?_
        have hln : l.length ≤ 1000 := by
          show (m.p ++ [m.key] ++ [m.to]).length ≤ 1000
          rw [List.length_append, List.length_append]; simp only [List.length_cons, List.length_nil]; omega
        (repeat' (first | (refine And.intro (fun h => ?_) (fun h => ?_) <;> (try simp [-List.getD_eq_getElem?_getD, -Int.pred_toNat] at h) <;> (try (exfalso; first | omega | contradiction))) | (refine And.intro (rng64 (by omega) (by omega)) ?_) | (refine And.intro ⟨by omega, by omega⟩ ?_) | (refine And.intro ⟨by omega, by omega, by omega⟩ ?_) | (intro _)))
        refine Exists.intro [] (Exists.intro [] (Exists.intro [(999, 34)] (Exists.intro Nat (Exists.intro (fun i => i ≤ ((l)).length ∧ (keysF (l) = keysF ((l).drop i))) (Exists.intro (fun i => ⟨[(1, .pt 1 0), (2, .i .i64 0), (35, .rd .str (l)), (36, .i .i64 (l).length), (37, .i .i64 i)], [(1, enc .move m)]⟩) (Exists.intro (fun i => ((l)).length - i) (Exists.intro 0 (And.intro ⟨Nat.zero_le _, rfl⟩ (And.intro ?_ ?_)))))))))
        · (repeat' (first | exact trivial | exact Or.inl rfl | exact Or.inr (Or.inl ⟨rfl, _, rfl⟩) | exact Or.inr (Or.inr (Or.inr ⟨_, _, _, rfl, rfl⟩)) | refine And.intro ?_ ?_))
        rintro i ⟨hi, hI⟩
        refine And.intro (fun hz => ?_) (fun hz => ?_)
        · have hi := ltD hz
          have hg := getI (τ := .str) hi
          refine And.intro ⟨by omega, by omega⟩ ?_
          rw [hg]
          by_cases d2 : 100 < (l)[i].length
          · rw [keysF_stop hi (keyS2 d2) (by decide)] at hI
            rw [hI] at hr
            (repeat' (first | (refine And.intro (fun h => ?_) (fun h => ?_) <;> (try simp [-List.getD_eq_getElem?_getD, -Int.pred_toNat] at h) <;> (try (exfalso; first | omega | contradiction))) | (refine And.intro (rng64 (by omega) (by omega)) ?_) | (refine And.intro ⟨by omega, by omega⟩ ?_) | (refine And.intro ⟨by omega, by omega, by omega⟩ ?_) | (intro _)))
            exact congrArg (AV.i .i64) hr.symm
          · by_cases d3 : 0 ≤ bad (l)[i]
            · rw [keysF_stop hi (keyS3 d2 d3) (by decide)] at hI
              rw [hI] at hr
              (repeat' (first | (refine And.intro (fun h => ?_) (fun h => ?_) <;> (try simp [-List.getD_eq_getElem?_getD, -Int.pred_toNat] at h) <;> (try (exfalso; first | omega | contradiction))) | (refine And.intro (rng64 (by omega) (by omega)) ?_) | (refine And.intro ⟨by omega, by omega⟩ ?_) | (refine And.intro ⟨by omega, by omega, by omega⟩ ?_) | (intro _)))
              refine Or.inl (Exists.intro _ (And.intro (s_Bad hu (l)[i]) ?_))
              (repeat' (first | (refine And.intro (fun h => ?_) (fun h => ?_) <;> (try simp [-List.getD_eq_getElem?_getD, -Int.pred_toNat] at h) <;> (try (exfalso; first | omega | contradiction))) | (refine And.intro (rng64 (by omega) (by omega)) ?_) | (refine And.intro ⟨by omega, by omega⟩ ?_) | (refine And.intro ⟨by omega, by omega, by omega⟩ ?_) | (intro _)))
              exact congrArg (AV.i .i64) hr.symm
            · rw [keysF_go hi (keyS0 d2 d3)] at hI
              (repeat' (first | (refine And.intro (fun h => ?_) (fun h => ?_) <;> (try simp [-List.getD_eq_getElem?_getD, -Int.pred_toNat] at h) <;> (try (exfalso; first | omega | contradiction))) | (refine And.intro (rng64 (by omega) (by omega)) ?_) | (refine And.intro ⟨by omega, by omega⟩ ?_) | (refine And.intro ⟨by omega, by omega, by omega⟩ ?_) | (intro _)))
              refine Or.inl (Exists.intro _ (And.intro (s_Bad hu (l)[i]) ?_))
              (repeat' (first | (refine And.intro (fun h => ?_) (fun h => ?_) <;> (try simp [-List.getD_eq_getElem?_getD, -Int.pred_toNat] at h) <;> (try (exfalso; first | omega | contradiction))) | (refine And.intro (rng64 (by omega) (by omega)) ?_) | (refine And.intro ⟨by omega, by omega⟩ ?_) | (refine And.intro ⟨by omega, by omega, by omega⟩ ?_) | (intro _)))
              refine Exists.intro [] (Exists.intro (i + 1) (And.intro ⟨hi, hI⟩ (And.intro ?_ ?_)))
              all_goals first | (exact Nat.sub_lt_sub_left (by omega) (by omega)) | (repeat' (first | exact trivial | exact Or.inl rfl | exact Or.inr (Or.inl ⟨rfl, _, rfl⟩) | exact Or.inr (Or.inr (Or.inr ⟨_, _, _, rfl, rfl⟩)) | refine And.intro ?_ ?_))
        · (have hi := geD hi hz)
          rw [List.drop_eq_nil_of_le (by omega)] at hI
          have hI : keysF (l) = 0 := hI
          rw [hI] at hr
          (repeat' (first | (refine And.intro (fun h => ?_) (fun h => ?_) <;> (try simp [-List.getD_eq_getElem?_getD, -Int.pred_toNat] at h) <;> (try (exfalso; first | omega | contradiction))) | (refine And.intro (rng64 (by omega) (by omega)) ?_) | (refine And.intro ⟨by omega, by omega⟩ ?_) | (refine And.intro ⟨by omega, by omega, by omega⟩ ?_) | (intro _)))
          exact congrArg (AV.i .i64) hr.symm
      · let l : List Str := m.p ++ [m.key]
        have hkm : keysM m = l := if_neg hk1
        rw [hkm] at hr
        (repeat' (first | (refine And.intro (fun h => ?_) (fun h => ?_) <;> (try simp [-List.getD_eq_getElem?_getD, -Int.pred_toNat] at h) <;> (try (exfalso; first | omega | contradiction))) | (refine And.intro (rng64 (by omega) (by omega)) ?_) | (refine And.intro ⟨by omega, by omega⟩ ?_) | (refine And.intro ⟨by omega, by omega, by omega⟩ ?_) | (intro _)))
        have hln : l.length ≤ 1000 := by
          show (m.p ++ [m.key]).length ≤ 1000
          rw [List.length_append]; simp only [List.length_cons, List.length_nil]; omega
        refine Exists.intro [] (Exists.intro [] (Exists.intro [(999, 26)] (Exists.intro Nat (Exists.intro (fun i => i ≤ ((l)).length ∧ (keysF (l) = keysF ((l).drop i))) (Exists.intro (fun i => ⟨[(1, .pt 1 0), (2, .i .i64 0), (35, .rd .str (l)), (36, .i .i64 (l).length), (37, .i .i64 i)], [(1, enc .move m)]⟩) (Exists.intro (fun i => ((l)).length - i) (Exists.intro 0 (And.intro ⟨Nat.zero_le _, rfl⟩ (And.intro ?_ ?_)))))))))
        · (repeat' (first | exact trivial | exact Or.inl rfl | exact Or.inr (Or.inl ⟨rfl, _, rfl⟩) | exact Or.inr (Or.inr (Or.inr ⟨_, _, _, rfl, rfl⟩)) | refine And.intro ?_ ?_))
        rintro i ⟨hi, hI⟩
        refine And.intro (fun hz => ?_) (fun hz => ?_)
        · have hi := ltD hz
          have hg := getI (τ := .str) hi
          refine And.intro ⟨by omega, by omega⟩ ?_
          rw [hg]
          by_cases d2 : 100 < (l)[i].length
          · rw [keysF_stop hi (keyS2 d2) (by decide)] at hI
            rw [hI, orI_ne (by decide)] at hr
            (repeat' (first | (refine And.intro (fun h => ?_) (fun h => ?_) <;> (try simp [-List.getD_eq_getElem?_getD, -Int.pred_toNat] at h) <;> (try (exfalso; first | omega | contradiction))) | (refine And.intro (rng64 (by omega) (by omega)) ?_) | (refine And.intro ⟨by omega, by omega⟩ ?_) | (refine And.intro ⟨by omega, by omega, by omega⟩ ?_) | (intro _)))
            exact congrArg (AV.i .i64) hr.symm
          · by_cases d3 : 0 ≤ bad (l)[i]
            · rw [keysF_stop hi (keyS3 d2 d3) (by decide)] at hI
              rw [hI, orI_ne (by decide)] at hr
              (repeat' (first | (refine And.intro (fun h => ?_) (fun h => ?_) <;> (try simp [-List.getD_eq_getElem?_getD, -Int.pred_toNat] at h) <;> (try (exfalso; first | omega | contradiction))) | (refine And.intro (rng64 (by omega) (by omega)) ?_) | (refine And.intro ⟨by omega, by omega⟩ ?_) | (refine And.intro ⟨by omega, by omega, by omega⟩ ?_) | (intro _)))
              refine Or.inl (Exists.intro _ (And.intro (s_Bad hu (l)[i]) ?_))
              (repeat' (first | (refine And.intro (fun h => ?_) (fun h => ?_) <;> (try simp [-List.getD_eq_getElem?_getD, -Int.pred_toNat] at h) <;> (try (exfalso; first | omega | contradiction))) | (refine And.intro (rng64 (by omega) (by omega)) ?_) | (refine And.intro ⟨by omega, by omega⟩ ?_) | (refine And.intro ⟨by omega, by omega, by omega⟩ ?_) | (intro _)))
              exact congrArg (AV.i .i64) hr.symm
            · rw [keysF_go hi (keyS0 d2 d3)] at hI
              (repeat' (first | (refine And.intro (fun h => ?_) (fun h => ?_) <;> (try simp [-List.getD_eq_getElem?_getD, -Int.pred_toNat] at h) <;> (try (exfalso; first | omega | contradiction))) | (refine And.intro (rng64 (by omega) (by omega)) ?_) | (refine And.intro ⟨by omega, by omega⟩ ?_) | (refine And.intro ⟨by omega, by omega, by omega⟩ ?_) | (intro _)))
              refine Or.inl (Exists.intro _ (And.intro (s_Bad hu (l)[i]) ?_))
              (repeat' (first | (refine And.intro (fun h => ?_) (fun h => ?_) <;> (try simp [-List.getD_eq_getElem?_getD, -Int.pred_toNat] at h) <;> (try (exfalso; first | omega | contradiction))) | (refine And.intro (rng64 (by omega) (by omega)) ?_) | (refine And.intro ⟨by omega, by omega⟩ ?_) | (refine And.intro ⟨by omega, by omega, by omega⟩ ?_) | (intro _)))
              refine Exists.intro [] (Exists.intro (i + 1) (And.intro ⟨hi, hI⟩ (And.intro ?_ ?_)))
              all_goals first | (exact Nat.sub_lt_sub_left (by omega) (by omega)) | (repeat' (first | exact trivial | exact Or.inl rfl | exact Or.inr (Or.inl ⟨rfl, _, rfl⟩) | exact Or.inr (Or.inr (Or.inr ⟨_, _, _, rfl, rfl⟩)) | refine And.intro ?_ ?_))
        · (have hi := geD hi hz)
          rw [List.drop_eq_nil_of_le (by omega)] at hI
          have hI : keysF (l) = 0 := hI
          rw [hI] at hr
          by_cases h3 : m.kind = 3
          · rw [if_pos h3, orI_zero] at hr
            rw [hr]
            (repeat' (first | (refine And.intro (fun h => ?_) (fun h => ?_) <;> (try simp [-List.getD_eq_getElem?_getD, -Int.pred_toNat] at h) <;> (try (exfalso; first | omega | contradiction))) | (refine And.intro (rng64 (by omega) (by omega)) ?_) | (refine And.intro ⟨by omega, by omega⟩ ?_) | (refine And.intro ⟨by omega, by omega, by omega⟩ ?_) | (intro _)))
            have hC := s_Check hu m.v hv hn
            rw [chk_T] at hC
            refine Or.inl (Exists.intro _ (And.intro (hC) ?_))
            rfl
          · rw [if_neg h3, orI_zero] at hr
            rw [hr]
            (repeat' (first | (refine And.intro (fun h => ?_) (fun h => ?_) <;> (try simp [-List.getD_eq_getElem?_getD, -Int.pred_toNat] at h) <;> (try (exfalso; first | omega | contradiction))) | (refine And.intro (rng64 (by omega) (by omega)) ?_) | (refine And.intro ⟨by omega, by omega⟩ ?_) | (refine And.intro ⟨by omega, by omega, by omega⟩ ?_) | (intro _)))
            rfl
theorem s_stepCheck (hu : HasU8) (m : SX.Move) (hv : VB m.v) (hn : (sizV m.v).2 ≤ 1000000000) : PSpec Tryd.prog 11 [.agg (enc .move m)] (.i .i64 (moveF m)) :=
  pspec_of_vc Γ_good Tryd.func11 rfl Tryd.call11 Tryd.results11 Tryd.ntmps11 (Nat.le_of_ble_eq_true rfl) (w_stepCheck hu m hv hn)
end
end Go.Proofs.YtmfchbkdakmjhaaDoor
end
section
namespace Go.Proofs.YtmfchbkdakmjhaaDoor
set_option linter.unusedSectionVars false
set_option linter.unusedSimpArgs false
set_option linter.unusedVariables false
open Go Go.SX Go.Bg
set_option maxRecDepth 100000
set_option maxHeartbeats 0
theorem b10 : 2 ≤ 10000 := by decide
theorem take_take_pred (l : List Int) {k : Nat} (hk : k + 1 ≤ l.length) : ((l.take (k + 1)).take (Int.toNat (((l.take (k + 1)).length : Int) - 1))).drop (Int.toNat 0) = l.take k := by
  rw [List.length_take, Nat.min_eq_left hk, List.take_take, show Int.toNat (((k + 1 : Nat) : Int) - 1) = k from by omega, Nat.min_eq_left (by omega)]
  rfl
theorem zero_below {l : List Int} {j : Nat} (hz : ∀ i, j + 1 ≤ i → l.getD i 0 = 0) (hq : l.getD j 0 = 0) : ∀ i, j ≤ i → l.getD i 0 = 0 := fun i hi => by
  rcases Nat.lt_or_ge j i with h | h
  · exact hz i h
  · have : i = j := by omega
    subst this
    exact hq
theorem tmod10k (m : Nat) : (m : Int).tmod 10000 = ((m % 10000 : Nat) : Int) := rfl
theorem tdiv10k (m : Nat) : (m : Int).tdiv 10000 = ((m / 10000 : Nat) : Int) := rfl
theorem wrap_small {n : Nat} (h : n < 9223372036854775808) : IntKind.i64.wrap (n : Int) = (n : Int) := by
  rw [IntKind.wrap_i64]; omega
theorem small_next {n m : Nat} {o : List Int} (hm : 0 < m) (h1 : Dg 10000 o) (h2 : m < 18446744073709551616) (h3 : o.length < 5) (h4 : m < 10000 ^ (5 - o.length)) (h5 : o ++ dg 10000 m = dg 10000 n) :
    Dg 10000 (o ++ [((m % 10000 : Nat) : Int)]) ∧ m / 10000 < 18446744073709551616 ∧ (o ++ [((m % 10000 : Nat) : Int)]).length ≤ 5 ∧ m / 10000 < 10000 ^ (5 - (o ++ [((m % 10000 : Nat) : Int)]).length) ∧ (o ++ [((m % 10000 : Nat) : Int)]) ++ dg 10000 (m / 10000) = dg 10000 n := by
  refine ⟨h1.snoc ⟨by omega, by have := Nat.mod_lt m (show 0 < 10000 by decide); omega⟩, by omega, by simp; omega, ?_, ?_⟩
  · rw [List.length_append, List.length_singleton]
    obtain ⟨j, hj⟩ : ∃ j, 5 - o.length = j + 1 := ⟨4 - o.length, by omega⟩
    rw [hj, Nat.pow_succ] at h4
    rw [show 5 - (o.length + 1) = j by omega]
    exact (Nat.div_lt_iff_lt_mul (by decide)).2 h4
  · rw [← h5, dg_pos b10 hm, List.append_assoc]
    rfl
section
variable [G : Globs]
theorem w_cut (l : List Int) (hl : Dg 10000 l) : vc Tryd.prog Γ 21 [0, 2, 14] (Tryd.f193.body.getD .skip) (postK Γ [.tmp 2] (fun v => v = .rd .int (dg 10000 (vl 10000 l)))) ⟨argSlots 0 [.rd .int l], []⟩ := by
  refine Exists.intro [] (Exists.intro [] (Exists.intro [] (Exists.intro Nat (Exists.intro (fun k => k ≤ l.length ∧ ∀ i, k ≤ i → l.getD i 0 = 0) (Exists.intro (fun k => ⟨[(0, .rd .int (l.take k))], []⟩) (Exists.intro (fun k => k) (Exists.intro l.length (And.intro ⟨Nat.le_refl _, fun i hi => by rw [List.getD_eq_getElem?_getD, List.getElem?_eq_none hi]; rfl⟩ (And.intro ?_ ?_)))))))))
  · (repeat' (first | exact trivial | exact Or.inl rfl | exact Or.inl ((by rw [List.take_length])) | refine And.intro ?_ ?_))
  · rintro k ⟨hk, hz⟩
    intro hlen; replace hlen := len_le hlen
    have hlk : (l.take k).length = k := by rw [List.length_take]; omega
    refine And.intro (fun hg => ?_) (fun hg => ?_)
    · have hg : 0 < k := by have : (0 : Int) < ((l.take k).length : Int) := of_decide_eq_true hg
                            omega
      intro _
      (refine And.intro (rng64 (by omega) (by omega)) ?_)
      refine And.intro ⟨by omega, by omega⟩ ?_
      obtain ⟨j, rfl⟩ : ∃ j, k = j + 1 := ⟨k - 1, by omega⟩
      have hd : (l.take (j + 1)).getD (Int.toNat (((l.take (j + 1)).length : Int) - 1)) (dflt .int) = l.getD j 0 := by
        rw [hlk, show Int.toNat (((j + 1 : Nat) : Int) - 1) = j from by omega, List.getD_eq_getElem?_getD, List.getD_eq_getElem?_getD, List.getElem?_take_of_lt (by omega)]
      refine And.intro (fun hq => ?_) (fun hq => ?_)
      · have hq : l.getD j 0 = 0 := by rw [hd] at hq; simpa using hq
        intro _
        (refine And.intro (rng64 (by omega) (by omega)) ?_)
        refine And.intro ⟨by omega, by omega, by omega⟩ ?_
        refine Exists.intro [] (Exists.intro j (And.intro ⟨by omega, zero_below hz hq⟩ (And.intro ?_ ?_)))
        · (repeat' (first | exact trivial | exact Or.inl rfl | exact Or.inl ((congrArg (AV.rd .int) (take_take_pred l hk))) | refine And.intro ?_ ?_))
        · show j < j + 1
          omega
      · have hq : l.getD j 0 ≠ 0 := by rw [hd] at hq; simpa using hq
        exact congrArg (AV.rd .int) (canonTake b10 hl hk (Or.inr (by simpa using hq)) hz)
    · have hg : k = 0 := by have : ¬ (0 : Int) < ((l.take k).length : Int) := of_decide_eq_false hg
                            omega
      refine And.intro (fun h9 => absurd h9 (by simp)) (fun _ => ?_)
      exact congrArg (AV.rd .int) (canonTake b10 hl hk (Or.inl hg) hz)
theorem s_cut (l : List Int) (hl : Dg 10000 l) : PSpec Tryd.prog 193 [.rd .int l] (.rd .int (dg 10000 (vl 10000 l))) :=
  pspec_of_vc Γ_good Tryd.func193 rfl Tryd.call193 Tryd.results193 Tryd.ntmps193 (Nat.le_of_ble_eq_true rfl) (w_cut l hl)
theorem w_small (n : Nat) (hn : n < 18446744073709551616) : vc Tryd.prog Γ 15 [0, 2, 3, 5] (Tryd.f167.body.getD .skip) (postK Γ [.tmp 2] (fun v => v = .rd .int (dg 10000 n))) ⟨argSlots 0 [.i .u64 n], []⟩ := by
  refine Exists.intro [(3, 3, .int)] (Exists.intro [] (Exists.intro [] (Exists.intro (Nat × List Int) (Exists.intro (fun x => Dg 10000 x.2 ∧ x.1 < 18446744073709551616 ∧ x.2.length ≤ 5 ∧ x.1 < 10000 ^ (5 - x.2.length) ∧ x.2 ++ dg 10000 x.1 = dg 10000 n) (Exists.intro (fun ⟨m, o⟩ => ⟨[(0, .i .u64 m), (3, .vec 3 .int o)], []⟩) (Exists.intro (fun x => x.1) (Exists.intro (n, []) (And.intro ⟨Dg.nil _, hn, by simp, by simp; omega, rfl⟩ (And.intro ?_ ?_)))))))))
  · (repeat' (first | exact trivial | exact Or.inl rfl | exact Or.inr (Or.inl ⟨rfl, _, rfl⟩) | exact Or.inr (Or.inr (Or.inr ⟨_, _, _, rfl, rfl⟩)) | refine And.intro ?_ ?_))
  · rintro ⟨m, o⟩ ⟨h1, h2, h3, h4, h5⟩
    dsimp only at h1 h2 h3 h4 h5
    refine And.intro (fun hc => ?_) (fun hc => ?_)
    · have hm : 0 < m := by have : (0 : Int) < (m : Int) := of_decide_eq_true hc
                            omega
      have hol : o.length < 5 := by
        rcases Nat.lt_or_ge o.length 5 with h | h
        · exact h
        · rw [show 5 - o.length = 0 by omega] at h4; omega
      refine And.intro (by decide) ?_
      refine And.intro (by show (o.length + 1) * 8 ≤ _; omega) ?_
      refine And.intro (by decide) ?_
      refine And.intro ⟨by rw [tdiv10k]; omega, by rw [tdiv10k]; omega⟩ ?_
      refine Exists.intro [(13, 3)] (Exists.intro (m / 10000, o ++ [((m % 10000 : Nat) : Int)]) (And.intro (small_next hm h1 h2 hol h4 h5) (And.intro ?_ ?_)))
      · (repeat' (first | exact trivial | exact Or.inl rfl | exact Or.inl ((congrArg (fun x : Int => AV.vec 3 .int (o ++ [x])) ((congrArg IntKind.i64.wrap (tmod10k m)).trans (wrap_small (by omega))))) | refine And.intro ?_ ?_))
      · exact Nat.div_lt_self hm (by decide)
    · have hm : m = 0 := by have : ¬ (0 : Int) < (m : Int) := of_decide_eq_false hc
                            omega
      subst hm
      refine congrArg (AV.rd .int) ?_
      rw [← h5, dg_zero, List.append_nil]
theorem s_small (n : Nat) (hn : n < 18446744073709551616) : PSpec Tryd.prog 167 [.i .u64 n] (.rd .int (dg 10000 n)) :=
  pspec_of_vc Γ_good Tryd.func167 rfl Tryd.call167 Tryd.results167 Tryd.ntmps167 (Nat.le_of_ble_eq_true rfl) (w_small n hn)
theorem w_at (l : List Int) (i : Nat) : vc Tryd.prog Γ 13 [0, 1, 4, 8] (Tryd.f169.body.getD .skip) (postK Γ [.tmp 4] (fun v => v = .i .i64 (l.getD i 0))) ⟨argSlots 0 [.rd .int l, .i .i64 i], []⟩ := by
  intro hl
  refine And.intro (fun hc => ?_) (fun hc => ?_)
  · have hc : i < l.length := by have : (i : Int) < (l.length : Int) := of_decide_eq_true hc
                                 omega
    refine And.intro ⟨by omega, by omega⟩ ?_
    rfl
  · have hc : l.length ≤ i := by have : ¬ (i : Int) < (l.length : Int) := of_decide_eq_false hc
                                 omega
    refine congrArg (AV.i .i64) ?_
    rw [List.getD_eq_getElem?_getD, List.getElem?_eq_none hc]
    rfl
theorem s_at (l : List Int) (i : Nat) : PSpec Tryd.prog 169 [.rd .int l, .i .i64 i] (.i .i64 (l.getD i 0)) :=
  pspec_of_vc Γ_good Tryd.func169 rfl Tryd.call169 Tryd.results169 Tryd.ntmps169 (Nat.le_of_ble_eq_true rfl) (w_at l i)
end
end Go.Proofs.YtmfchbkdakmjhaaDoor
end
section
namespace Go.Proofs.YtmfchbkdakmjhaaDoor
set_option linter.unusedSectionVars false
set_option linter.unusedSimpArgs false
set_option linter.unusedVariables false
open Go Go.SX Go.Bg
set_option maxRecDepth 100000
set_option maxHeartbeats 0
theorem cast_getD {l : List Int} (h : Dg 10000 l) (k : Nat) : ((l.getD k 0).toNat : Int) = l.getD k 0 := by have := (h.getD (by decide) k).1; omega
theorem plus_next {a b o : List Int} {k c : Nat} (ha : Dg 10000 a) (hb : Dg 10000 b) (ho : Dg 10000 o) (hk : o.length = k) (hc : c ≤ 1) (hv : vl 10000 o + 10000 ^ k * c = vl 10000 (a.take k) + vl 10000 (b.take k))
    (hkl : k ≤ a.length + b.length + 1) (hg : k < a.length ∨ k < b.length ∨ 0 < c) (hm : (k ≤ a.length ∨ k ≤ b.length) ∨ c = 0) :
    let t := c + ((a.getD k 0).toNat + (b.getD k 0).toNat)
    Dg 10000 (o ++ [((t % 10000 : Nat) : Int)]) ∧ (o ++ [((t % 10000 : Nat) : Int)]).length = k + 1 ∧ t / 10000 ≤ 1 ∧ vl 10000 (o ++ [((t % 10000 : Nat) : Int)]) + 10000 ^ (k + 1) * (t / 10000) = vl 10000 (a.take (k + 1)) + vl 10000 (b.take (k + 1)) ∧ ((k + 1 ≤ a.length ∨ k + 1 ≤ b.length) ∨ t / 10000 = 0) := by
  intro t
  have g1 := ha.getD (by decide) k
  have g2 := hb.getD (by decide) k
  refine ⟨ho.snoc ⟨by omega, by omega⟩, by simp [hk], by omega, ?_, ?_⟩
  · rw [vl_snoc, vl_take_succ, vl_take_succ, hk, Int.toNat_natCast, Nat.pow_succ, Nat.mul_assoc, Nat.add_assoc, ← Nat.mul_add, Nat.mod_add_div, show t = c + ((a.getD k 0).toNat + (b.getD k 0).toNat) from rfl, Nat.mul_add, Nat.mul_add]
    omega
  · rcases Nat.lt_or_ge k a.length with h | h
    · exact .inl (.inl h)
    rcases Nat.lt_or_ge k b.length with h' | h'
    · exact .inl (.inr h')
    refine .inr ?_
    have e1 : a.getD k 0 = 0 := by rw [List.getD_eq_getElem?_getD, List.getElem?_eq_none h]; rfl
    have e2 : b.getD k 0 = 0 := by rw [List.getD_eq_getElem?_getD, List.getElem?_eq_none h']; rfl
    rw [show t = c + ((a.getD k 0).toNat + (b.getD k 0).toNat) from rfl, e1, e2]
    omega
section
variable [G : Globs]
theorem s_atN (l : List Int) (hl : Dg 10000 l) (i : Nat) : PSpec Tryd.prog 169 [.rd .int l, .i .i64 i] (.i .i64 ((l.getD i 0).toNat : Int)) := by
  have := s_at l i
  rwa [← cast_getD hl] at this
theorem w_plus (a b : List Int) (ha : Dg 10000 a) (hb : Dg 10000 b) (hla : a.length ≤ 1000000) (hlb : b.length ≤ 1000000) : vc Tryd.prog Γ 42 [0, 1, 4, 5, 6, 7, 21] (Tryd.f168.body.getD .skip) (postK Γ [.tmp 4] (fun v => v = .rd .int (dg 10000 (vl 10000 a + vl 10000 b)))) ⟨argSlots 0 [.rd .int a, .rd .int b], []⟩ := by
  refine Exists.intro [(5, 5, .int)] (Exists.intro [] (Exists.intro [] (Exists.intro (Nat × Nat × List Int) (Exists.intro (fun x => Dg 10000 x.2.2 ∧ x.2.2.length = x.1 ∧ x.2.1 ≤ 1 ∧ vl 10000 x.2.2 + 10000 ^ x.1 * x.2.1 = vl 10000 (a.take x.1) + vl 10000 (b.take x.1) ∧ ((x.1 ≤ a.length ∨ x.1 ≤ b.length) ∨ x.2.1 = 0) ∧ x.1 ≤ 1000001) (Exists.intro (fun ⟨k, c, o⟩ => ⟨[(0, .rd .int a), (1, .rd .int b), (5, .vec 5 .int o), (6, .i .i64 c), (7, .i .i64 k)], []⟩) (Exists.intro (fun x => 1000002 - x.1) (Exists.intro (0, 0, []) (And.intro ⟨Dg.nil _, rfl, by simp, rfl, by simp, by simp⟩ (And.intro ?_ ?_)))))))))
  · (repeat' (first | exact trivial | exact Or.inl rfl | exact Or.inr (Or.inl ⟨rfl, _, rfl⟩) | exact Or.inr (Or.inr (Or.inr ⟨_, _, _, rfl, rfl⟩)) | refine And.intro ?_ ?_))
  · rintro ⟨k, c, o⟩ ⟨h1, h2, h3, h4, h5, h6⟩
    dsimp only at h1 h2 h3 h4 h5 h6
    have nx := plus_next (k := k) (c := c) ha hb h1 h2 h3 h4
    have g1 := ha.getD (by decide) k
    have g2 := hb.getD (by decide) k
    repeat' (first | (refine And.intro (fun h => ?_) (fun h => ?_) <;> (try simp [-List.getD_eq_getElem?_getD, -Int.pred_toNat] at h)) | intro _)
    all_goals first | (exfalso; omega) | skip
    all_goals first
      | (have hx : a.length ≤ k ∧ b.length ≤ k ∧ c = 0 := ⟨by omega, by omega, by omega⟩
         obtain ⟨x1, x2, rfl⟩ := hx
         rw [List.take_of_length_le x1, List.take_of_length_le x2, Nat.mul_zero, Nat.add_zero] at h4
         refine Or.inl (Exists.intro _ (And.intro (s_cut o h1) ?_))
         exact congrArg (fun n => AV.rd .int (dg 10000 n)) h4)
      | skip
    all_goals
      have nx := nx (by omega) (by omega) h5
      generalize hxe : (a.getD k 0).toNat = x at nx
      generalize hye : (b.getD k 0).toNat = y at nx
      have hxl : x < 10000 := by omega
      have hyl : y < 10000 := by omega
      have qa := s_atN a ha k
      have qb := s_atN b hb k
      rw [hxe] at qa
      rw [hye] at qb
      refine Or.inl (Exists.intro _ (And.intro (qa) ?_))
      refine Or.inl (Exists.intro _ (And.intro (qb) ?_))
      (refine And.intro (rng64 (by omega) (by omega)) ?_)
      (refine And.intro (rng64 (by omega) (by omega)) ?_)
      refine And.intro (by decide) ?_
      refine And.intro (by show (o.length + 1) * 8 ≤ _; omega) ?_
      refine And.intro (by decide) ?_
      refine And.intro (rng64 (by rw [show (c : Int) + ((x : Int) + (y : Int)) = ((c + (x + y) : Nat) : Int) from rfl, tdiv10k]; omega) (by rw [show (c : Int) + ((x : Int) + (y : Int)) = ((c + (x + y) : Nat) : Int) from rfl, tdiv10k]; omega)) ?_
      (refine And.intro (rng64 (by omega) (by omega)) ?_)
      refine Exists.intro [(37, 5)] (Exists.intro (k + 1, (c + (x + y)) / 10000, o ++ [(((c + (x + y)) % 10000 : Nat) : Int)]) (And.intro ⟨nx.1, nx.2.1, nx.2.2.1, nx.2.2.2.1, nx.2.2.2.2, by omega⟩ (And.intro ?_ ?_)))
      · (repeat' (first | exact trivial | exact Or.inl rfl | exact Or.inr (Or.inl ⟨rfl, _, rfl⟩) | exact Or.inr (Or.inr (Or.inr ⟨_, _, _, rfl, rfl⟩)) | refine And.intro ?_ ?_))
      · show 1000002 - (k + 1) < 1000002 - k
        omega
theorem s_plus (a b : List Int) (ha : Dg 10000 a) (hb : Dg 10000 b) (hla : a.length ≤ 1000000) (hlb : b.length ≤ 1000000) : PSpec Tryd.prog 168 [.rd .int a, .rd .int b] (.rd .int (dg 10000 (vl 10000 a + vl 10000 b))) :=
  pspec_of_vc Γ_good Tryd.func168 rfl Tryd.call168 Tryd.results168 Tryd.ntmps168 (Nat.le_of_ble_eq_true rfl) (w_plus a b ha hb hla hlb)
end
end Go.Proofs.YtmfchbkdakmjhaaDoor
end
section
namespace Go.Proofs.YtmfchbkdakmjhaaDoor
set_option linter.unusedSectionVars false
set_option linter.unusedSimpArgs false
set_option linter.unusedVariables false
open Go Go.SX Go.Bg
set_option maxRecDepth 100000
set_option maxHeartbeats 0
section
variable [G : Globs]
end
end Go.Proofs.YtmfchbkdakmjhaaDoor
end
section
namespace Go.Proofs.YtmfchbkdakmjhaaDoor
set_option linter.unusedSectionVars false
set_option linter.unusedSimpArgs false
set_option linter.unusedVariables false
open Go Go.SX Go.Bg
set_option maxRecDepth 100000
set_option maxHeartbeats 0
theorem getN {l : List Int} (h : Dg 10000 l) (k : Nat) : ∃ z : Nat, l.getD k 0 = z ∧ z < 10000 ∧ (l.getD k 0).toNat = z := by
  have g := h.getD (by decide) k
  exact ⟨(l.getD k 0).toNat, by omega, by omega, rfl⟩
/-- one digit of a product -/
theorem by_next {B : Nat} {o : List Int} {p x y z c V : Nat} (hB : 2 ≤ B) (ho : Dg B o) (hp : p < o.length) (hz : (o.getD p 0).toNat = z) (hv : vl B o + B ^ p * c = V) :
    Dg B (o.set p (((c + (z + x * y)) % B : Nat) : Int)) ∧ vl B (o.set p (((c + (z + x * y)) % B : Nat) : Int)) + B ^ (p + 1) * ((c + (z + x * y)) / B) = V + B ^ p * (x * y) := by
  have hs := vl_set (B := B) hp (((c + (z + x * y)) % B : Nat) : Int)
  rw [hz, Int.toNat_natCast] at hs
  refine ⟨ho.set p ⟨by omega, by have := Nat.mod_lt (c + (z + x * y)) (show 0 < B by omega); omega⟩, ?_⟩
  rw [Nat.pow_succ, Nat.mul_assoc]
  have e : B ^ p * ((c + (z + x * y)) % B + B * ((c + (z + x * y)) / B)) = B ^ p * (c + (z + x * y)) := by rw [Nat.mod_add_div]
  rw [Nat.mul_add, Nat.mul_add, Nat.mul_add] at e
  omega
theorem by_carry {B z x y c : Nat} (hB : 2 ≤ B) (hz : z < B) (hx : x < B) (hy : y < B) (hc : c < B) : (c + (z + x * y)) / B < B := by
  have h1 : x * y ≤ (B - 1) * (B - 1) := Nat.mul_le_mul (by omega) (by omega)
  rw [Nat.div_lt_iff_lt_mul (by omega)]
  obtain ⟨m, rfl⟩ : ∃ m, B = m + 1 := ⟨B - 1, by omega⟩
  rw [Nat.add_sub_cancel] at h1
  have : (m + 1) * (m + 1) = m * m + 2 * m + 1 := by rw [Nat.mul_add, Nat.add_mul]; omega
  omega
theorem by_end {B : Nat} {a b q : List Int} {i x k : Nat} (hx : (a.getD i 0).toNat = x) (hk : b.length ≤ k) (hv : vl B q + B ^ (i + k) * 0 = vl B (a.take i) * vl B b + B ^ i * (x * vl B (b.take k))) : vl B q = vl B (a.take (i + 1)) * vl B b := by
  rw [List.take_of_length_le hk] at hv
  rw [vl_take_succ, hx, Nat.add_mul, Nat.mul_assoc]
  omega
theorem by_zero {B : Nat} {a b q : List Int} {i x k c : Nat} (hB : 2 ≤ B) (ha : Dg B a) (hb : Dg B b) (hi : i < a.length) (hx : (a.getD i 0).toNat = x) (hk : b.length ≤ k) (hv : vl B q + B ^ (i + (k + 1)) * c = vl B (a.take i) * vl B b + B ^ i * (x * vl B (b.take (k + 1)))) : c = 0 := by
  rw [List.take_of_length_le (l := b) (by omega)] at hv
  have e : vl B (a.take i) * vl B b + B ^ i * (x * vl B b) = vl B (a.take (i + 1)) * vl B b := by rw [vl_take_succ, hx, Nat.add_mul, Nat.mul_assoc]
  have h1 : vl B (a.take (i + 1)) < B ^ (i + 1) := by
    have := vl_lt (ha.take (i + 1))
    rwa [List.length_take, Nat.min_eq_left (by omega)] at this
  have h2 := vl_lt hb
  have h3 : vl B (a.take (i + 1)) * vl B b < B ^ (i + 1) * B ^ b.length := Nat.mul_lt_mul'' h1 h2
  have h4 : B ^ (i + 1) * B ^ b.length ≤ B ^ (i + (k + 1)) := by
    rw [← Nat.pow_add]
    exact Nat.pow_le_pow_right (by omega) (by omega)
  rcases Nat.eq_zero_or_pos c with h | h
  · exact h
  · have : B ^ (i + (k + 1)) * 1 ≤ B ^ (i + (k + 1)) * c := Nat.mul_le_mul_left _ h
    omega
theorem by_step {B : Nat} {a b q : List Int} {i x y z k c : Nat} (hB : 2 ≤ B) (hq : Dg B q) (hp : i + k < q.length) (hz : (q.getD (i + k) 0).toNat = z) (hy : (b.getD k 0).toNat = y)
    (hv : vl B q + B ^ (i + k) * c = vl B (a.take i) * vl B b + B ^ i * (x * vl B (b.take k))) :
    Dg B (q.set (i + k) (((c + (z + x * y)) % B : Nat) : Int)) ∧ vl B (q.set (i + k) (((c + (z + x * y)) % B : Nat) : Int)) + B ^ (i + (k + 1)) * ((c + (z + x * y)) / B) = vl B (a.take i) * vl B b + B ^ i * (x * vl B (b.take (k + 1))) := by
  have h := by_next (x := x) (y := y) hB hq hp hz hv
  refine ⟨h.1, ?_⟩
  rw [show i + (k + 1) = i + k + 1 by omega, h.2, vl_take_succ, hy, Nat.mul_add, Nat.mul_add, Nat.pow_add, Nat.mul_assoc]
  have : B ^ k * (x * y) = x * (B ^ k * y) := by rw [← Nat.mul_assoc, Nat.mul_comm _ x, Nat.mul_assoc]
  rw [this]
  omega
section
variable [G : Globs]
theorem w_By (a b : List Int) (ha : Dg 10000 a) (hb : Dg 10000 b) (hla : a.length ≤ 500000) (hlb : b.length ≤ 500000) : vc Tryd.prog Γ 60 [0, 1, 4, 5, 6, 7, 8, 17, 18, 19, 28] (Tryd.f166.body.getD .skip) (postK Γ [.tmp 4] (fun v => v = .rd .int (dg 10000 (vl 10000 a * vl 10000 b)))) ⟨argSlots 0 [.rd .int a, .rd .int b], []⟩ := by
  intro hl0
  intro hl1
  (refine And.intro (rng64 (by omega) (by omega)) ?_)
  (refine And.intro (rng64 (by omega) (by omega)) ?_)
  refine And.intro ⟨by omega, Int.le_refl _, by omega, by show (a.length + b.length + 1) * 8 ≤ _; omega⟩ ?_
  intro _
  refine Exists.intro [] (Exists.intro [] (Exists.intro [] (Exists.intro (Nat × List Int) (Exists.intro (fun x => Dg 10000 x.2 ∧ x.2.length = a.length + b.length + 1 ∧ vl 10000 x.2 = vl 10000 (a.take x.1) * vl 10000 b ∧ x.1 ≤ a.length) (Exists.intro (fun ⟨i, o⟩ => ⟨[(0, .rd .int a), (1, .rd .int b), (5, .vec 15 .int o), (17, .i .i64 a.length), (18, .i .i64 i)], []⟩) (Exists.intro (fun x => a.length - x.1) (Exists.intro (0, List.replicate (a.length + b.length + 1) 0) (And.intro ⟨Dg.replicate (by decide) _, by simp, by rw [vl_replicate]; simp [vl], by simp⟩ (And.intro ?_ ?_)))))))))
  · (repeat' (first | exact trivial | exact Or.inl rfl | exact Or.inr (Or.inl ⟨rfl, _, rfl⟩) | exact Or.inr (Or.inr (Or.inr ⟨_, _, _, rfl, rfl⟩)) | refine And.intro ?_ ?_))
  · rintro ⟨i, o⟩ ⟨h1, h2, h3, h4⟩
    dsimp only at h1 h2 h3 h4
    refine And.intro (fun hc => ?_) (fun hc => ?_)
    · have hi : i < a.length := by have : (i : Int) < (a.length : Int) := of_decide_eq_true hc
                                   omega
      clear hc
      obtain ⟨x, hx, hxl, hxn⟩ := getN ha i
      refine Exists.intro [] (Exists.intro [] (Exists.intro [] (Exists.intro (Nat × Nat × List Int) (Exists.intro (fun q => Dg 10000 q.2.2 ∧ q.2.2.length = a.length + b.length + 1 ∧ q.2.1 < 10000 ∧ vl 10000 q.2.2 + 10000 ^ (i + q.1) * q.2.1 = vl 10000 (a.take i) * vl 10000 b + 10000 ^ i * (x * vl 10000 (b.take q.1)) ∧ q.1 ≤ b.length + 1 ∧ (q.1 ≤ b.length ∨ q.2.1 = 0)) (Exists.intro (fun ⟨k, c, o⟩ => ⟨[(0, .rd .int a), (1, .rd .int b), (5, .vec 15 .int o), (6, .i .i64 i), (7, .i .i64 c), (8, .i .i64 k), (17, .i .i64 a.length), (18, .i .i64 i)], []⟩) (Exists.intro (fun q => b.length + 1 - q.1) (Exists.intro (0, 0, o) (And.intro ⟨h1, h2, by simp, by simp [h3, vl], by simp, by simp⟩ (And.intro ?_ ?_)))))))))
      · (repeat' (first | exact trivial | exact Or.inl rfl | exact Or.inr (Or.inl ⟨rfl, _, rfl⟩) | exact Or.inr (Or.inr (Or.inr ⟨_, _, _, rfl, rfl⟩)) | refine And.intro ?_ ?_))
      · rintro ⟨k, c, q⟩ ⟨g1, g2, g3, g4, g5, g6⟩
        dsimp only at g1 g2 g3 g4 g5 g6
        repeat' (first | (refine And.intro (fun h => ?_) (fun h => ?_) <;> (try simp [-List.getD_eq_getElem?_getD, -Int.pred_toNat] at h)) | intro _)
        all_goals first | (exfalso; omega) | skip
        all_goals first
          | (obtain ⟨h9, rfl⟩ : b.length ≤ k ∧ c = 0 := ⟨by omega, by omega⟩
             have hv := by_end hxn h9 g4
             (refine And.intro (rng64 (by omega) (by omega)) ?_)
             refine Exists.intro [] (Exists.intro (i + 1, q) (And.intro ⟨g1, g2, hv, hi⟩ (And.intro ?_ ?_)))
             · (repeat' (first | exact trivial | exact Or.inl rfl | exact Or.inr (Or.inl ⟨rfl, _, rfl⟩) | exact Or.inr (Or.inr (Or.inr ⟨_, _, _, rfl, rfl⟩)) | refine And.intro ?_ ?_))
             · show a.length - (i + 1) < a.length - i
               omega)
          | skip
        all_goals
          have hkb : k ≤ b.length := by omega
          obtain ⟨y, hy, hyl, hyn⟩ := getN hb k
          obtain ⟨z, hz, hzl, hzn⟩ := getN g1 (i + k)
          have hs := by_step (a := a) (b := b) (x := x) b10 g1 (by omega) hzn hyn g4
          have hcl : (c + (z + x * y)) / 10000 < 10000 := by_carry b10 hzl hxl hyl g3
          have hxy : x * y ≤ 9999 * 9999 := Nat.mul_le_mul (by omega) (by omega)
          have hxyi : (x : Int) * (y : Int) = ((x * y : Nat) : Int) := rfl
          have hz0 : k + 1 ≤ b.length ∨ (c + (z + x * y)) / 10000 = 0 := by
            rcases Nat.lt_or_ge k b.length with h | h
            · exact .inl h
            · exact .inr (by_zero b10 ha hb hi hxn h hs.2)
          have e1 : q.getD (Int.toNat ((i : Int) + (k : Int))) (dflt .int) = (z : Int) := hz
          have e2 : a.getD (Int.toNat (i : Int)) (dflt .int) = (x : Int) := hx
          refine Exists.intro [.blk [0, 1, 2, 3, 4, 5, 6, 7, 8, 9, 10, 11, 12, 13, 14, 15, 16, 17]] (And.intro (by kernel_rfl) ?_)
          (refine And.intro (rng64 (by omega) (by omega)) ?_)
          refine And.intro ⟨by omega, by omega⟩ ?_
          refine And.intro ⟨by omega, by omega⟩ ?_
          have qb := s_atN b hb k
          rw [hyn] at qb
          refine Exists.intro _ (And.intro (qb) ?_)
          refine And.intro (rng64 (by rw [e2]; omega) (by rw [e2]; omega)) ?_
          refine And.intro (rng64 (by rw [e1, e2]; omega) (by rw [e1, e2]; omega)) ?_
          refine And.intro (rng64 (by rw [e1, e2]; omega) (by rw [e1, e2]; omega)) ?_
          (refine And.intro (rng64 (by omega) (by omega)) ?_)
          refine And.intro (by decide) ?_
          refine And.intro ⟨by omega, by omega⟩ ?_
          refine And.intro (by decide) ?_
          refine And.intro (rng64 (by rw [e1, e2, show (c : Int) + ((z : Int) + (x : Int) * (y : Int)) = ((c + (z + x * y) : Nat) : Int) from rfl, tdiv10k]; omega) (by rw [e1, e2, show (c : Int) + ((z : Int) + (x : Int) * (y : Int)) = ((c + (z + x * y) : Nat) : Int) from rfl, tdiv10k]; omega)) ?_
          (refine And.intro (rng64 (by omega) (by omega)) ?_)
          refine Exists.intro [] (Exists.intro (k + 1, (c + (z + x * y)) / 10000, q.set (i + k) (((c + (z + x * y)) % 10000 : Nat) : Int)) (And.intro ⟨hs.1, by simp [g2], hcl, hs.2, by omega, hz0⟩ (And.intro ?_ ?_)))
          · (repeat' (first | exact trivial | exact Or.inl rfl | exact Or.inl ((by rw [e1, e2]; rfl)) | refine And.intro ?_ ?_))
          · show b.length + 1 - (k + 1) < b.length + 1 - k
            omega
    · have hi : i = a.length := by have : ¬ (i : Int) < (a.length : Int) := of_decide_eq_false hc
                                   omega
      subst hi
      rw [List.take_length] at h3
      refine Or.inl (Exists.intro _ (And.intro (s_cut o h1) ?_))
      exact congrArg (fun n => AV.rd .int (dg 10000 n)) h3
theorem s_By (a b : List Int) (ha : Dg 10000 a) (hb : Dg 10000 b) (hla : a.length ≤ 500000) (hlb : b.length ≤ 500000) : PSpec Tryd.prog 166 [.rd .int a, .rd .int b] (.rd .int (dg 10000 (vl 10000 a * vl 10000 b))) :=
  pspec_of_vc Γ_good Tryd.func166 rfl Tryd.call166 Tryd.results166 Tryd.ntmps166 (Nat.le_of_ble_eq_true rfl) (w_By a b ha hb hla hlb)
end
end Go.Proofs.YtmfchbkdakmjhaaDoor
end
section
namespace Go.Proofs.YtmfchbkdakmjhaaDoor
set_option linter.unusedSectionVars false
set_option linter.unusedSimpArgs false
set_option linter.unusedVariables false
open Go Go.SX Go.Bg
set_option maxRecDepth 100000
set_option maxHeartbeats 0
theorem nn_of {j : Int} (h : decide (0 ≤ j) = true) : ∃ m : Nat, j = m := ⟨j.toNat, by have := of_decide_eq_true h; omega⟩
theorem tdiv2 (m : Nat) : (m : Int).tdiv 2 = ((m / 2 : Nat) : Int) := rfl
theorem against_start {a b : List Int} {t : Nat} (h : a.length ≤ t ∧ b.length ≤ t) : a.getD t 0 = b.getD t 0 := by
  rw [List.getD_eq_getElem?_getD, List.getD_eq_getElem?_getD, List.getElem?_eq_none h.1, List.getElem?_eq_none h.2]
theorem against_next {a b : List Int} {m t : Nat} (h : ∀ t, m < t → a.getD t 0 = b.getD t 0) (ht : m ≤ t) (he : a.getD m 0 = b.getD m 0) : a.getD t 0 = b.getD t 0 := by
  rcases Nat.lt_or_ge m t with h1 | h1
  · exact h t h1
  · have : t = m := by omega
    rw [this, he]
section
variable [G : Globs]
theorem w_against (a b : List Int) (ha : Dg 10000 a) (hb : Dg 10000 b) (hla : a.length ≤ 1000000) (hlb : b.length ≤ 1000000) : vc Tryd.prog Γ 32 [0, 1, 4, 5, 13, 16, 24] (Tryd.f130.body.getD .skip) (postK Γ [.tmp 4] (fun v => v = .i .i64 (cmpN (vl 10000 a) (vl 10000 b)))) ⟨argSlots 0 [.rd .int a, .rd .int b], []⟩ := by
  intro hl0
  intro hl1
  refine And.intro (rng64 (by split <;> omega) (by split <;> omega)) ?_
  refine Exists.intro [] (Exists.intro [] (Exists.intro [] (Exists.intro Int (Exists.intro (fun j => -1 ≤ j ∧ j < 1000000 ∧ ∀ t : Nat, j < t → a.getD t 0 = b.getD t 0) (Exists.intro (fun j => ⟨[(0, .rd .int a), (1, .rd .int b), (5, .i .i64 j)], []⟩) (Exists.intro (fun j => (j + 1).toNat) (Exists.intro ((if (a.length : Int) < b.length then (b.length : Int) else (a.length : Int)) - 1) (And.intro ⟨by split <;> omega, by split <;> omega, fun t ht => against_start (by split at ht <;> omega)⟩ (And.intro ?_ ?_)))))))))
  · (repeat' (first | exact trivial | exact Or.inl rfl | exact Or.inr (Or.inl ⟨rfl, _, rfl⟩) | exact Or.inr (Or.inr (Or.inr ⟨_, _, _, rfl, rfl⟩)) | refine And.intro ?_ ?_))
  · rintro j ⟨h1, h2, h3⟩
    refine And.intro (fun hc => ?_) (fun hc => ?_)
    · obtain ⟨m, rfl⟩ := nn_of hc
      have h3 : ∀ t, m < t → a.getD t 0 = b.getD t 0 := fun t ht => h3 t (by omega)
      refine Or.inl (Exists.intro _ (And.intro (s_at a m) ?_))
      refine Or.inl (Exists.intro _ (And.intro (s_at b m) ?_))
      refine And.intro (fun hd => ?_) (fun hd => ?_)
      · have hd : a.getD m 0 < b.getD m 0 := of_decide_eq_true hd
        have := vl_cmp b10 ha hb h3 hd
        exact congrArg (AV.i .i64) (by unfold cmpN; rw [if_pos this])
      · have hd : ¬ a.getD m 0 < b.getD m 0 := of_decide_eq_false hd
        refine Or.inl (Exists.intro _ (And.intro (s_at a m) ?_))
        refine Or.inl (Exists.intro _ (And.intro (s_at b m) ?_))
        refine And.intro (fun he => ?_) (fun he => ?_)
        · have he : b.getD m 0 < a.getD m 0 := of_decide_eq_true he
          have := vl_cmp b10 hb ha (fun t ht => (h3 t ht).symm) he
          exact congrArg (AV.i .i64) (by unfold cmpN; rw [if_neg (by omega), if_pos this])
        · have he : ¬ b.getD m 0 < a.getD m 0 := of_decide_eq_false he
          (refine And.intro (rng64 (by omega) (by omega)) ?_)
          refine Exists.intro [] (Exists.intro ((m : Int) - 1) (And.intro ⟨by omega, by omega, fun t ht => against_next h3 (by omega) (by omega)⟩ (And.intro ?_ ?_)))
          · (repeat' (first | exact trivial | exact Or.inl rfl | exact Or.inr (Or.inl ⟨rfl, _, rfl⟩) | exact Or.inr (Or.inr (Or.inr ⟨_, _, _, rfl, rfl⟩)) | refine And.intro ?_ ?_))
          · show ((m : Int) - 1 + 1).toNat < ((m : Int) + 1).toNat
            omega
    · have hj : j = -1 := by have : ¬ 0 ≤ j := of_decide_eq_false hc
                             omega
      have := vl_ext (B := 10000) (l := a) (m := b) fun t => h3 t (by omega)
      exact congrArg (AV.i .i64) (by unfold cmpN; rw [if_neg (by omega), if_neg (by omega)])
theorem s_against (a b : List Int) (ha : Dg 10000 a) (hb : Dg 10000 b) (hla : a.length ≤ 1000000) (hlb : b.length ≤ 1000000) : PSpec Tryd.prog 130 [.rd .int a, .rd .int b] (.i .i64 (cmpN (vl 10000 a) (vl 10000 b))) :=
  pspec_of_vc Γ_good Tryd.func130 rfl Tryd.call130 Tryd.results130 Tryd.ntmps130 (Nat.le_of_ble_eq_true rfl) (w_against a b ha hb hla hlb)
end
end Go.Proofs.YtmfchbkdakmjhaaDoor
end
section
namespace Go.Proofs.YtmfchbkdakmjhaaDoor
set_option linter.unusedSectionVars false
set_option linter.unusedSimpArgs false
set_option linter.unusedVariables false
open Go Go.SX Go.Bg
set_option maxRecDepth 100000
set_option maxHeartbeats 0
theorem power_odd {b e f n : Nat} (h : n % 2 = 1) : b ^ e * b ^ f = b ^ (e + f) ∧ (e + f) + (f + f) * (n / 2) = e + f * n := by
  refine ⟨(Nat.pow_add b e f).symm, ?_⟩
  have : f * n = f * (2 * (n / 2) + 1) := by congr 1; omega
  rw [this, Nat.mul_add, ← Nat.mul_assoc, Nat.mul_comm f 2, Nat.two_mul]
  omega
theorem power_even {e f n : Nat} (h : n % 2 = 0) : e + (f + f) * (n / 2) = e + f * n := by
  have : f * n = f * (2 * (n / 2)) := by congr 1; omega
  rw [this, ← Nat.mul_assoc, Nat.mul_comm f 2, Nat.two_mul]
section
variable [G : Globs]
theorem w_power (b n : Nat) (hb : b < 18446744073709551616) (hn : n < 9223372036854775808) (hs : ∀ k ≤ n, (dg 10000 (b ^ k)).length ≤ 400000) : vc Tryd.prog Γ 24 [0, 1, 4, 5, 6, 11, 14] (Tryd.f129.body.getD .skip) (postK Γ [.tmp 4] (fun v => v = .rd .int (dg 10000 (b ^ n)))) ⟨argSlots 0 [.i .u64 b, .i .i64 n], []⟩ := by
  refine Or.inl (Exists.intro _ (And.intro (s_small 1 (by decide)) ?_))
  refine Or.inl (Exists.intro _ (And.intro (s_small b hb) ?_))
  refine Exists.intro [] (Exists.intro [] (Exists.intro [] (Exists.intro (Nat × Nat × Nat) (Exists.intro (fun x => x.2.1 + x.2.2 * x.1 = n ∧ 1 ≤ x.2.2) (Exists.intro (fun ⟨m, e, f⟩ => ⟨[(1, .i .i64 m), (5, .rd .int (dg 10000 (b ^ e))), (6, .rd .int (dg 10000 (b ^ f)))], []⟩) (Exists.intro (fun x => x.1) (Exists.intro (n, 0, 1) (And.intro ⟨by simp, by simp⟩ (And.intro ?_ ?_)))))))))
  · (repeat' (first | exact trivial | exact Or.inl rfl | exact Or.inl ((by rw [Nat.pow_one])) | refine And.intro ?_ ?_))
  · rintro ⟨m, e, f⟩ ⟨h1, h2⟩
    dsimp only at h1 h2
    refine And.intro (fun hc => ?_) (fun hc => ?_)
    · have hm : 0 < m := by have : (0 : Int) < (m : Int) := of_decide_eq_true hc
                            omega
      have hfm : f * 1 ≤ f * m := Nat.mul_le_mul_left _ hm
      have hmn : m < 9223372036854775808 := by
        have : 1 * m ≤ f * m := Nat.mul_le_mul_right _ h2
        omega
      have le : (dg 10000 (b ^ e)).length ≤ 400000 := hs e (by omega)
      have lf : (dg 10000 (b ^ f)).length ≤ 400000 := hs f (by omega)
      have q1 := s_By (dg 10000 (b ^ e)) (dg 10000 (b ^ f)) (dg_Dg b10 _) (dg_Dg b10 _) (by omega) (by omega)
      have q2 := s_By (dg 10000 (b ^ f)) (dg 10000 (b ^ f)) (dg_Dg b10 _) (dg_Dg b10 _) (by omega) (by omega)
      rw [vl_dg b10, vl_dg b10] at q1
      rw [vl_dg b10, ← Nat.pow_add] at q2
      refine And.intro (by decide) ?_
      refine And.intro (fun hd => ?_) (fun hd => ?_)
      · have hd : m % 2 = 1 := by
          rw [show (m : Int).tmod 2 = ((m % 2 : Nat) : Int) from rfl] at hd
          have := eq_of_beq hd
          omega
        rw [(power_odd (b := b) hd).1] at q1
        refine Or.inl (Exists.intro _ (And.intro (q1) ?_))
        refine Or.inl (Exists.intro _ (And.intro (q2) ?_))
        refine And.intro (by decide) ?_
        refine And.intro (rng64 (by rw [tdiv2]; omega) (by rw [tdiv2]; omega)) ?_
        refine Exists.intro [] (Exists.intro (m / 2, e + f, f + f) (And.intro ⟨by have := (power_odd (b := b) (e := e) (f := f) hd).2; dsimp only; omega, by dsimp only; omega⟩ (And.intro ?_ ?_)))
        · (repeat' (first | exact trivial | exact Or.inl rfl | exact Or.inr (Or.inl ⟨rfl, _, rfl⟩) | exact Or.inr (Or.inr (Or.inr ⟨_, _, _, rfl, rfl⟩)) | refine And.intro ?_ ?_))
        · show m / 2 < m
          omega
      · have hd : m % 2 = 0 := by
          rw [show (m : Int).tmod 2 = ((m % 2 : Nat) : Int) from rfl] at hd
          have := ne_of_beq_false hd
          omega
        refine Or.inl (Exists.intro _ (And.intro (q2) ?_))
        refine And.intro (by decide) ?_
        refine And.intro (rng64 (by rw [tdiv2]; omega) (by rw [tdiv2]; omega)) ?_
        refine Exists.intro [] (Exists.intro (m / 2, e, f + f) (And.intro ⟨by have := power_even (e := e) (f := f) hd; dsimp only; omega, by dsimp only; omega⟩ (And.intro ?_ ?_)))
        · (repeat' (first | exact trivial | exact Or.inl rfl | exact Or.inr (Or.inl ⟨rfl, _, rfl⟩) | exact Or.inr (Or.inr (Or.inr ⟨_, _, _, rfl, rfl⟩)) | refine And.intro ?_ ?_))
        · show m / 2 < m
          omega
    · have hm : m = 0 := by have : ¬ (0 : Int) < (m : Int) := of_decide_eq_false hc
                            omega
      subst hm
      rw [Nat.mul_zero, Nat.add_zero] at h1
      rw [h1]
      rfl
theorem s_power (b n : Nat) (hb : b < 18446744073709551616) (hn : n < 9223372036854775808) (hs : ∀ k ≤ n, (dg 10000 (b ^ k)).length ≤ 400000) : PSpec Tryd.prog 129 [.i .u64 b, .i .i64 n] (.rd .int (dg 10000 (b ^ n))) :=
  pspec_of_vc Γ_good Tryd.func129 rfl Tryd.call129 Tryd.results129 Tryd.ntmps129 (Nat.le_of_ble_eq_true rfl) (w_power b n hb hn hs)
end
end Go.Proofs.YtmfchbkdakmjhaaDoor
end
section
namespace Go.Proofs.YtmfchbkdakmjhaaDoor
set_option linter.unusedSectionVars false
set_option linter.unusedSimpArgs false
set_option linter.unusedVariables false
open Go Go.SX Go.Bg Go.Nm
set_option maxRecDepth 100000
set_option maxHeartbeats 1000000
/-- does a text begin so? -/
def isPre (t s : Str) : Bool := decide (t.length ≤ s.length ∧ s.take t.length = t)
def cutP (t s : Str) : Str := if isPre t s then s.drop t.length else s
theorem u8_lt (c : UInt8) : c.toNat < 256 := c.toNat_lt
theorem dgt_cases (c : UInt8) : ((48 ≤ c.toNat ∧ c.toNat ≤ 57) ∧ (dgt c : Int) = (c.toNat : Int) - 48) ∨ ((97 ≤ c.toNat ∧ c.toNat ≤ 102) ∧ (dgt c : Int) = (c.toNat : Int) - 97 + 10) ∨ ((65 ≤ c.toNat ∧ c.toNat ≤ 70) ∧ (dgt c : Int) = (c.toNat : Int) - 65 + 10) ∨
    ((¬ (48 ≤ c.toNat ∧ c.toNat ≤ 57) ∧ ¬ (97 ≤ c.toNat ∧ c.toNat ≤ 102) ∧ ¬ (65 ≤ c.toNat ∧ c.toNat ≤ 70)) ∧ (dgt c : Int) = 99) := by
  unfold dgt
  by_cases h1 : 48 ≤ c.toNat ∧ c.toNat ≤ 57
  · rw [if_pos h1]; exact .inl ⟨h1, by omega⟩
  rw [if_neg h1]
  by_cases h2 : 97 ≤ c.toNat ∧ c.toNat ≤ 102
  · rw [if_pos h2]; exact .inr (.inl ⟨h2, by omega⟩)
  rw [if_neg h2]
  by_cases h3 : 65 ≤ c.toNat ∧ c.toNat ≤ 70
  · rw [if_pos h3]; exact .inr (.inr (.inl ⟨h3, by omega⟩))
  rw [if_neg h3]
  exact .inr (.inr (.inr ⟨⟨h1, h2, h3⟩, rfl⟩))
section
variable [G : Globs]
theorem w_digit (c : UInt8) : vc Tryd.prog Γ 35 [0, 2, 3, 13, 24] (Tryd.f163.body.getD .skip) (postK Γ [.tmp 2] (fun v => v = .i .u64 (dgt c : Int))) ⟨argSlots 0 [.i .u8 (c.toNat : Int)], []⟩ := by
  have hc := u8_lt c
  rcases dgt_cases c with ⟨h, e⟩ | ⟨h, e⟩ | ⟨h, e⟩ | ⟨h, e⟩
  · rw [e]
    (repeat' (first | (refine And.intro (fun h => ?_) (fun h => ?_) <;> (try simp [-List.getD_eq_getElem?_getD, -Int.pred_toNat] at h) <;> (try (exfalso; first | omega | contradiction))) | (refine And.intro (rng64 (by omega) (by omega)) ?_) | (refine And.intro ⟨by omega, by omega⟩ ?_) | (refine And.intro ⟨by omega, by omega, by omega⟩ ?_) | (intro _)))
    exact congrArg (AV.i .u64) (by rw [IntKind.wrap_u8, IntKind.wrap_u64]; omega)
  · rw [e]
    (repeat' (first | (refine And.intro (fun h => ?_) (fun h => ?_) <;> (try simp [-List.getD_eq_getElem?_getD, -Int.pred_toNat] at h) <;> (try (exfalso; first | omega | contradiction))) | (refine And.intro (rng64 (by omega) (by omega)) ?_) | (refine And.intro ⟨by omega, by omega⟩ ?_) | (refine And.intro ⟨by omega, by omega, by omega⟩ ?_) | (intro _)))
    exact congrArg (AV.i .u64) (by rw [IntKind.wrap_u8, IntKind.wrap_u64, IntKind.wrap_u64]; omega)
  · rw [e]
    (repeat' (first | (refine And.intro (fun h => ?_) (fun h => ?_) <;> (try simp [-List.getD_eq_getElem?_getD, -Int.pred_toNat] at h) <;> (try (exfalso; first | omega | contradiction))) | (refine And.intro (rng64 (by omega) (by omega)) ?_) | (refine And.intro ⟨by omega, by omega⟩ ?_) | (refine And.intro ⟨by omega, by omega, by omega⟩ ?_) | (intro _)))
    exact congrArg (AV.i .u64) (by rw [IntKind.wrap_u8, IntKind.wrap_u64, IntKind.wrap_u64]; omega)
  · rw [e]
    rcases (show c.toNat < 48 ∨ (57 < c.toNat ∧ c.toNat < 65) ∨ (70 < c.toNat ∧ c.toNat < 97) ∨ 102 < c.toNat by omega) with h | h | h | h
    all_goals
      (repeat' (first | (refine And.intro (fun h => ?_) (fun h => ?_) <;> (try simp [-List.getD_eq_getElem?_getD, -Int.pred_toNat] at h) <;> (try (exfalso; first | omega | contradiction))) | (refine And.intro (rng64 (by omega) (by omega)) ?_) | (refine And.intro ⟨by omega, by omega⟩ ?_) | (refine And.intro ⟨by omega, by omega, by omega⟩ ?_) | (intro _)))
      rfl
theorem s_digit (c : UInt8) : PSpec Tryd.prog 163 [.i .u8 (c.toNat : Int)] (.i .u64 (dgt c : Int)) :=
  pspec_of_vc Γ_good Tryd.func163 rfl Tryd.call163 Tryd.results163 Tryd.ntmps163 (Nat.le_of_ble_eq_true rfl) (w_digit c)
theorem w_hexOf (c : UInt8) : vc Tryd.prog Γ 35 [0, 2, 3, 13, 24] (Tryd.f64.body.getD .skip) (postK Γ [.tmp 2] (fun v => v = .i .i64 (dgt c : Int))) ⟨argSlots 0 [.i .u8 (c.toNat : Int)], []⟩ := by
  have hc := u8_lt c
  have hw : IntKind.i64.wrap (c.toNat : Int) = (c.toNat : Int) := by rw [IntKind.wrap_i64]; omega
  rcases dgt_cases c with ⟨h, e⟩ | ⟨h, e⟩ | ⟨h, e⟩ | ⟨h, e⟩
  · rw [e]
    (repeat' (first | (refine And.intro (fun h => ?_) (fun h => ?_) <;> (try simp [-List.getD_eq_getElem?_getD, -Int.pred_toNat] at h) <;> (try (exfalso; first | omega | contradiction))) | (refine And.intro (rng64 (by omega) (by omega)) ?_) | (refine And.intro ⟨by omega, by omega⟩ ?_) | (refine And.intro ⟨by omega, by omega, by omega⟩ ?_) | (intro _)))
    exact congrArg (AV.i .i64) (by rw [hw])
  · rw [e]
    (repeat' (first | (refine And.intro (fun h => ?_) (fun h => ?_) <;> (try simp [-List.getD_eq_getElem?_getD, -Int.pred_toNat] at h) <;> (try (exfalso; first | omega | contradiction))) | (refine And.intro (rng64 (by omega) (by omega)) ?_) | (refine And.intro ⟨by omega, by omega⟩ ?_) | (refine And.intro ⟨by omega, by omega, by omega⟩ ?_) | (intro _)))
    exact congrArg (AV.i .i64) (by rw [hw])
  · rw [e]
    (repeat' (first | (refine And.intro (fun h => ?_) (fun h => ?_) <;> (try simp [-List.getD_eq_getElem?_getD, -Int.pred_toNat] at h) <;> (try (exfalso; first | omega | contradiction))) | (refine And.intro (rng64 (by omega) (by omega)) ?_) | (refine And.intro ⟨by omega, by omega⟩ ?_) | (refine And.intro ⟨by omega, by omega, by omega⟩ ?_) | (intro _)))
    exact congrArg (AV.i .i64) (by rw [hw])
  · rw [e]
    rcases (show c.toNat < 48 ∨ (57 < c.toNat ∧ c.toNat < 65) ∨ (70 < c.toNat ∧ c.toNat < 97) ∨ 102 < c.toNat by omega) with h | h | h | h
    all_goals
      (repeat' (first | (refine And.intro (fun h => ?_) (fun h => ?_) <;> (try simp [-List.getD_eq_getElem?_getD, -Int.pred_toNat] at h) <;> (try (exfalso; first | omega | contradiction))) | (refine And.intro (rng64 (by omega) (by omega)) ?_) | (refine And.intro ⟨by omega, by omega⟩ ?_) | (refine And.intro ⟨by omega, by omega, by omega⟩ ?_) | (intro _)))
      rfl
theorem s_hexOf (c : UInt8) : PSpec Tryd.prog 64 [.i .u8 (c.toNat : Int)] (.i .i64 (dgt c : Int)) :=
  pspec_of_vc Γ_good Tryd.func64 rfl Tryd.call64 Tryd.results64 Tryd.ntmps64 (Nat.le_of_ble_eq_true rfl) (w_hexOf c)
theorem w_hasPre0 (s t : Str) : vc Tryd.prog Γ 18 [0, 1, 4] (Tryd.f98.body.getD .skip) (postK Γ [.tmp 4] (fun v => v = .b (isPre t s))) ⟨argSlots 0 [.s s, .s t], []⟩ := by
  intro _ _
  refine And.intro (fun h => ?_) (fun h => ?_)
  · have h : t.length ≤ s.length := by have : (t.length : Int) ≤ s.length := of_decide_eq_true h; omega
    intro _
    refine And.intro ⟨Int.le_refl _, by omega, by omega⟩ ?_
    show AV.b ((s.take (Int.toNat (t.length : Int))).drop (Int.toNat 0) == t) = _
    refine congrArg AV.b ?_
    unfold isPre
    rw [Int.toNat_natCast, show Int.toNat 0 = 0 from rfl, List.drop_zero, Bool.eq_iff_iff, beq_iff_eq, decide_eq_true_eq]
    exact ⟨fun h9 => ⟨h, h9⟩, fun h9 => h9.2⟩
  · have h : ¬ t.length ≤ s.length := by have : ¬ (t.length : Int) ≤ s.length := of_decide_eq_false h; omega
    exact congrArg AV.b (decide_eq_false fun h9 => h h9.1).symm
theorem s_hasPre0 (s t : Str) : PSpec Tryd.prog 98 [.s s, .s t] (.b (isPre t s)) :=
  pspec_of_vc Γ_good Tryd.func98 rfl Tryd.call98 Tryd.results98 Tryd.ntmps98 (Nat.le_of_ble_eq_true rfl) (w_hasPre0 s t)
theorem w_cutP0 (s t : Str) : vc Tryd.prog Γ 15 [0, 1, 4, 5, 9] (Tryd.f104.body.getD .skip) (postK Γ [.tmp 4, .tmp 5] (fun v => v = .tup [.s (cutP t s), .b (isPre t s)])) ⟨argSlots 0 [.s s, .s t], []⟩ := by
  refine Or.inl (Exists.intro _ (And.intro (s_hasPre0 s t) ?_))
  unfold cutP
  by_cases h : isPre t s = true
  · have hl : t.length ≤ s.length := (of_decide_eq_true h).1
    rw [if_pos h, h]
    (repeat' (first | (refine And.intro (fun h => ?_) (fun h => ?_) <;> (try simp [-List.getD_eq_getElem?_getD, -Int.pred_toNat] at h) <;> (try (exfalso; first | omega | contradiction))) | (refine And.intro (rng64 (by omega) (by omega)) ?_) | (refine And.intro ⟨by omega, by omega⟩ ?_) | (refine And.intro ⟨by omega, by omega, by omega⟩ ?_) | (intro _)))
    rw [Int.toNat_natCast, Int.toNat_natCast, List.take_length]
    rfl
  · have h : isPre t s = false := by simpa using h
    rw [if_neg (by rw [h]; decide), h]
    (repeat' (first | (refine And.intro (fun h => ?_) (fun h => ?_) <;> (try simp [-List.getD_eq_getElem?_getD, -Int.pred_toNat] at h) <;> (try (exfalso; first | omega | contradiction))) | (refine And.intro (rng64 (by omega) (by omega)) ?_) | (refine And.intro ⟨by omega, by omega⟩ ?_) | (refine And.intro ⟨by omega, by omega, by omega⟩ ?_) | (intro _)))
    rfl
theorem s_cutP0 (s t : Str) : PSpec Tryd.prog 104 [.s s, .s t] (.tup [.s (cutP t s), .b (isPre t s)]) :=
  pspec_of_vc Γ_good Tryd.func104 rfl Tryd.call104 Tryd.results104 Tryd.ntmps104 (Nat.le_of_ble_eq_true rfl) (w_cutP0 s t)
theorem w_cutPre (s t : Str) : vc Tryd.prog Γ 11 [0, 1, 4, 5] (Tryd.f69.body.getD .skip) (postK Γ [.tmp 4, .tmp 5] (fun v => v = .tup [.s (cutP t s), .b (isPre t s)])) ⟨argSlots 0 [.s s, .s t], []⟩ := by
  refine Or.inl (Exists.intro _ (And.intro (s_cutP0 s t) ?_))
  rfl
theorem s_cutPre (s t : Str) : PSpec Tryd.prog 69 [.s s, .s t] (.tup [.s (cutP t s), .b (isPre t s)]) :=
  pspec_of_vc Γ_good Tryd.func69 rfl Tryd.call69 Tryd.results69 Tryd.ntmps69 (Nat.le_of_ble_eq_true rfl) (w_cutPre s t)
end
end Go.Proofs.YtmfchbkdakmjhaaDoor
end
section
namespace Go.SX
set_option linter.unusedSectionVars false
variable [Globs]
section
variable {P : Program} {N : Nat} {Γ : Ctx} {L : List Nat} {W0 : World} {F : Fr} {X : Nat → Prop} {s : St} {β : Nat → Option Nat} {a : Act} {w : World}
/-- the same, but that a nil slice may stand for an empty one -/
def RL1 : AV → AV → Prop
  | .agg cs, .agg ds => AVles cs ds
  | c, d => AVle c d
def RLs : List AV → List AV → Prop
  | [], [] => True
  | a :: r, b :: t => RL1 a b ∧ RLs r t
  | _, _ => False
def RL : AV → AV → Prop
  | .tup cs, .tup ds => RLs cs ds
  | c, d => RL1 c d
theorem im_RL1 {O : Nat → Prop} {c d : AV} {u : Value} (h : Im O w c u) (hle : RL1 c d) : Im O w d u := by
  unfold RL1 at hle
  split at hle
  · cases h with
    | agg _ vs h1 h2 h3 =>
      have := all_le (show All2 (Im O w) _ vs from ⟨h1, h3⟩) hle
      exact .agg _ vs this.1 h2 this.2
  · exact im_le h hle
theorem im_RLs {O : Nat → Prop} : ∀ {cs ds : List AV} {us : List Value}, All2 (Im O w) cs us → RLs cs ds → All2 (Im O w) ds us
  | [], [], us, h, _ => h
  | [], _ :: _, _, _, hle => hle.elim
  | _ :: _, [], _, _, hle => hle.elim
  | c :: r, d :: t, us, h, hle => by
    obtain ⟨u, us', rfl, h1, h2⟩ := h.cons_inv
    exact All2.cons (im_RL1 h1 hle.1) (im_RLs h2 hle.2)
theorem im_RL {O : Nat → Prop} {c d : AV} {u : Value} (h : Im O w c u) (hle : RL c d) : Im O w d u := by
  unfold RL at hle
  split at hle
  · cases h with
    | tup _ vs h1 h2 =>
      have := im_RLs (show All2 (Im O w) _ vs from ⟨h1, h2⟩) hle
      exact .tup _ vs this.1 this.2
  · exact im_RL1 h hle
theorem pspec_of_vcL (hΓ : Γ.good P) {f : FuncId} {fn : Func} {c : Code} (hf : P.funcs[f]? = some fn) (hb : fn.body = some c) (hcall : ∀ (vs : Array Value) (w : World), (callFunc f vs).run P w = .ok (.enter f vs) w)
    {rs : Array ResultVar} (hrs : fn.results = rs) (hN : fn.ntmps = N) {args : List AV} {r : AV} {L : List Nat} (hlen : args.length ≤ N)
    (hvc : vc P Γ N L c (postK Γ rs.toList (fun v => RL v r)) ⟨argSlots 0 args, []⟩) : PSpec P f args r := by
  refine ⟨hcall, fun O w vs hO hG hargs => ?_⟩
  refine calls_of_wp hf hb ?_
  have hsz : vs.length = args.length := hargs.1.symm
  have hI : InvB w Fr.none O N ⟨argSlots 0 args, []⟩ (fun _ => none) { tmps := vs.toArray ++ Array.replicate (fn.ntmps - vs.toArray.size) undef, defers := [] } w := by
    have hNm : ∀ n, ¬ Nm ⟨argSlots 0 args, []⟩ n := by
      rintro n (⟨cs, h⟩ | ⟨m, h⟩ | ⟨b, cs, h, _⟩)
      · cases h
      · have := look_args args 0 m
        rw [Nat.zero_add] at this
        simp only [this] at h
        by_cases hm : m < args.length
        · rw [List.getD_eq_getElem?_getD, List.getElem?_eq_getElem hm] at h
          have := (hargs.2 m _ _ (List.getElem?_eq_getElem hm) (List.getElem?_eq_getElem (by rw [hsz]; exact hm))).ids_nil
          rw [show (some args[m]).getD AV.x = args[m] from rfl, this] at h
          cases h
        · rw [List.getD_eq_getElem?_getD, List.getElem?_eq_none (by omega)] at h
          simp [ids, ids0] at h
      · cases h
    refine ⟨Stp.refl _ _, fun n => ?_, ?_, fun n cs h => (by cases h), fun n m g hn => absurd hn (hNm n), fun n g hn => absurd hn (hNm n), rfl, fun k hk => ⟨hO k hk, id⟩, fun n cs g h => (by cases h), fun _ _ => rfl, hG.step (Stp.refl (fun _ => False) w) (fun _ _ h => h.elim) fun k _ hk => hk.elim id fun h => h.elim⟩
    · have h1 := look_args args 0 n
      rw [Nat.zero_add] at h1
      show Rel _ _ _ (look (argSlots 0 args) n) _
      rw [h1]
      by_cases hm : n < args.length
      · have hmv : n < vs.length := by rw [hsz]; exact hm
        have h2 := hargs.2 n _ _ (List.getElem?_eq_getElem hm) (List.getElem?_eq_getElem hmv)
        rw [List.getD_eq_getElem?_getD, List.getElem?_eq_getElem hm]
        have h3 : (vs.toArray ++ Array.replicate (fn.ntmps - vs.toArray.size) undef).getD n undef = vs[n] := by
          rw [Array.getD_eq_getD_getElem?, Array.getElem?_append_left (by simpa using hmv)]
          simp [hmv]
        rw [h3]
        refine Rel.im (h2.mono fun k hk => ?_)
        rcases hk with hk | ⟨m, hm', _⟩
        · exact hk
        · exact absurd hm' (hNm m)
      · rw [List.getD_eq_getElem?_getD, List.getElem?_eq_none (by omega)]
        exact Rel.x
    · show (vs.toArray ++ Array.replicate (fn.ntmps - vs.toArray.size) undef).size = N
      simp only [Array.size_append, List.size_toArray, Array.size_replicate, hN, hsz]
      omega
  refine vc_ok (W0 := w) (F := Fr.none) (X := O) hΓ c _ _ _ _ _ (fun e s a w' hq ⟨β, hI'⟩ => ?_) hvc ⟨_, hI⟩
  have key : retK Γ s rs.toList (fun v => RL v r) → a.defers = [] ∧ ∃ v, (results fn a.tmps).run P w' = .ok v w' ∧ ∃ v', Ending.returned v = .returned v' ∧ Stp (fun _ => False) w w' ∧ Im O w' r v' := by
    intro h
    rw [← hrs] at h
    obtain ⟨v, u, hv, h1, h2⟩ := ret_ok hΓ hI' h
    exact ⟨hI'.defers, u, h2, u, rfl, hI'.ext, im_RL h1 hv⟩
  cases e with
  | normal => exact key hq
  | ret => exact key hq
  | _ => exact hq.elim

theorem pspec_of_VCsL (_hΓ : Γ.good P) {f : FuncId} {fn : Func} {c : Code} (hf : P.funcs[f]? = some fn) (hb : fn.body = some c) (hcall : ∀ (vs : Array Value) (w : World), (callFunc f vs).run P w = .ok (.enter f vs) w)
    {rs : Array ResultVar} (hrs : fn.results = rs) (hN : fn.ntmps = N) {args : List AV} {r : AV} (hlen : args.length ≤ N)
    (hvc : VCs P Γ N L c (postK Γ rs.toList (fun v => RL v r)) ⟨argSlots 0 args, []⟩) (hΓ : Γ.good P) : PSpec P f args r := by
  refine ⟨hcall, fun O w vs hO hG hargs => ?_⟩
  refine calls_of_wp hf hb ?_
  have hsz : vs.length = args.length := hargs.1.symm
  have hI : InvB w Fr.none O N ⟨argSlots 0 args, []⟩ (fun _ => none) { tmps := vs.toArray ++ Array.replicate (fn.ntmps - vs.toArray.size) undef, defers := [] } w := by
    have hNm : ∀ n, ¬ Nm ⟨argSlots 0 args, []⟩ n := by
      rintro n (⟨cs, h⟩ | ⟨m, h⟩ | ⟨b, cs, h, _⟩)
      · cases h
      · have := look_args args 0 m
        rw [Nat.zero_add] at this
        simp only [this] at h
        by_cases hm : m < args.length
        · rw [List.getD_eq_getElem?_getD, List.getElem?_eq_getElem hm] at h
          have := (hargs.2 m _ _ (List.getElem?_eq_getElem hm) (List.getElem?_eq_getElem (by rw [hsz]; exact hm))).ids_nil
          rw [show (some args[m]).getD AV.x = args[m] from rfl, this] at h
          cases h
        · rw [List.getD_eq_getElem?_getD, List.getElem?_eq_none (by omega)] at h
          simp [ids, ids0] at h
      · cases h
    refine ⟨Stp.refl _ _, fun n => ?_, ?_, fun n cs h => (by cases h), fun n m g hn => absurd hn (hNm n), fun n g hn => absurd hn (hNm n), rfl, fun k hk => ⟨hO k hk, id⟩, fun n cs g h => (by cases h), fun _ _ => rfl, hG.step (Stp.refl (fun _ => False) w) (fun _ _ h => h.elim) fun k _ hk => hk.elim id fun h => h.elim⟩
    · have h1 := look_args args 0 n
      rw [Nat.zero_add] at h1
      show Rel _ _ _ (look (argSlots 0 args) n) _
      rw [h1]
      by_cases hm : n < args.length
      · have hmv : n < vs.length := by rw [hsz]; exact hm
        have h2 := hargs.2 n _ _ (List.getElem?_eq_getElem hm) (List.getElem?_eq_getElem hmv)
        rw [List.getD_eq_getElem?_getD, List.getElem?_eq_getElem hm]
        have h3 : (vs.toArray ++ Array.replicate (fn.ntmps - vs.toArray.size) undef).getD n undef = vs[n] := by
          rw [Array.getD_eq_getD_getElem?, Array.getElem?_append_left (by simpa using hmv)]
          simp [hmv]
        rw [h3]
        refine Rel.im (h2.mono fun k hk => ?_)
        rcases hk with hk | ⟨m, hm', _⟩
        · exact hk
        · exact absurd hm' (hNm m)
      · rw [List.getD_eq_getElem?_getD, List.getElem?_eq_none (by omega)]
        exact Rel.x
    · show (vs.toArray ++ Array.replicate (fn.ntmps - vs.toArray.size) undef).size = N
      simp only [Array.size_append, List.size_toArray, Array.size_replicate, hN, hsz]
      omega
  refine hvc.ok w Fr.none O _ _ _ (fun e s a w' hq ⟨β, hI'⟩ => ?_) ⟨_, hI⟩
  have key : retK Γ s rs.toList (fun v => RL v r) → a.defers = [] ∧ ∃ v, (results fn a.tmps).run P w' = .ok v w' ∧ ∃ v', Ending.returned v = .returned v' ∧ Stp (fun _ => False) w w' ∧ Im O w' r v' := by
    intro h
    rw [← hrs] at h
    obtain ⟨v, u, hv, h1, h2⟩ := ret_ok hΓ hI' h
    exact ⟨hI'.defers, u, h2, u, rfl, hI'.ext, im_RL h1 hv⟩
  cases e with
  | normal => exact key hq
  | ret => exact key hq
  | _ => exact hq.elim
end
end Go.SX
end
section
namespace Go.Proofs.YtmfchbkdakmjhaaDoor
set_option linter.unusedSectionVars false
set_option linter.unusedSimpArgs false
set_option linter.unusedVariables false
open Go Go.SX Go.Bg Go.Nm
set_option maxRecDepth 100000
set_option maxHeartbeats 1000000
/-- the sign -/
def sgI (n : Int) : Int := if n < 0 then -1 else 1
theorem sg_abs (n : Int) : sgI n * (n.natAbs : Int) = n := by unfold sgI; split <;> omega
theorem sgI_div (n : Int) (a b : Nat) : (sgI n * (a : Int)).tdiv b = sgI n * ((a / b : Nat) : Int) := by
  unfold sgI
  split
  · rw [Int.neg_one_mul, Int.neg_one_mul, Int.neg_tdiv]; rfl
  · rw [Int.one_mul, Int.one_mul]; rfl
theorem sgI_mod (n : Int) (a b : Nat) : (sgI n * (a : Int)).tmod b = sgI n * ((a % b : Nat) : Int) := by
  unfold sgI
  split
  · rw [Int.neg_one_mul, Int.neg_one_mul, Int.neg_tmod]; rfl
  · rw [Int.one_mul, Int.one_mul]; rfl
theorem sgI_rng (n : Int) (a : Nat) (h : a ≤ n.natAbs) (h0 : -9223372036854775808 ≤ n) (h1 : n ≤ 9223372036854775807) : -9223372036854775808 ≤ sgI n * (a : Int) ∧ sgI n * (a : Int) ≤ 9223372036854775807 := by
  unfold sgI
  split <;> omega
theorem txt_len {b n : Nat} (hb : 2 ≤ b) (hn : n < 2 ^ 64) : (txtN b n).length ≤ 64 := by
  unfold txtN
  split
  · simp
  · rw [List.length_map, List.length_reverse]
    exact dg_len_le hb 64 n (Nat.lt_of_lt_of_le hn (Nat.pow_le_pow_left hb 64))
theorem hex_cut (d : Nat) (h : d < 16) : (hexS.take (Int.toNat ((d : Int) + 1))).drop (Int.toNat (d : Int)) = [dcI (d : Int)] := by
  rcases (show d = 0 ∨ d = 1 ∨ d = 2 ∨ d = 3 ∨ d = 4 ∨ d = 5 ∨ d = 6 ∨ d = 7 ∨ d = 8 ∨ d = 9 ∨ d = 10 ∨ d = 11 ∨ d = 12 ∨ d = 13 ∨ d = 14 ∨ d = 15 by omega) with rfl | rfl | rfl | rfl | rfl | rfl | rfl | rfl | rfl | rfl | rfl | rfl | rfl | rfl | rfl | rfl <;> rfl
section
variable [G : Globs]
theorem w_numText (n : Int) (b : Nat) (hb : b = 2 ∨ b = 8 ∨ b = 10 ∨ b = 16) (h0 : -9223372036854775808 ≤ n) (h1 : n ≤ 9223372036854775807) : VCs Tryd.prog Γ 48 [0, 1, 4, 5, 6, 7, 8, 9, 10, 12, 14, 22, 30, 40] (Tryd.f89.body.getD .skip) (postK Γ [.tmp 4] (fun v => v = .s (numT n b))) ⟨argSlots 0 [.i .i64 n, .i .i64 (b : Int)], []⟩ := by
  refine VCs.seq (by first | exact Γ_good | exact Ctx.good_kp Γ_good _) ?_
  refine VCs.seq (by first | exact Γ_good | exact Ctx.good_kp Γ_good _) ?_
  refine VCs.cut (by first | exact Γ_good | exact Ctx.good_kp Γ_good _) Unit (fun _ => True) (fun _ => ⟨[(0, .i .i64 n), (1, .i .i64 (b : Int)), (4, .s []), (5, .s (frontS b))], []⟩) ?_ ?_
  · rcases hb with rfl | rfl | rfl | rfl
    all_goals
      (repeat' (first | (refine And.intro (fun h => ?_) (fun h => ?_) <;> (try simp [-List.getD_eq_getElem?_getD, -Int.pred_toNat] at h) <;> (try (exfalso; first | omega | contradiction))) | (refine And.intro (rng64 (by omega) (by omega)) ?_) | (refine And.intro ⟨by omega, by omega⟩ ?_) | (refine And.intro ⟨by omega, by omega, by omega⟩ ?_) | (intro _)))
      refine Exists.intro () (And.intro trivial ?_)
      (repeat' (first | exact trivial | exact Or.inl rfl | exact Or.inr (Or.inl ⟨rfl, _, rfl⟩) | exact Or.inr (Or.inr (Or.inr ⟨_, _, _, rfl, rfl⟩)) | refine And.intro ?_ ?_))
  rintro ⟨⟩ _
  have hb2 : 2 ≤ b ∧ b ≤ 16 := by omega
  have hbe : (b : Int) ≠ 0 := by omega
  refine VCs.of_vc (by first | exact Γ_good | exact Ctx.good_kp Γ_good _) ?_
  refine Exists.intro [] (Exists.intro [] (Exists.intro [] (Exists.intro (Nat × Str) (Exists.intro (fun q => q.1 ≤ n.natAbs ∧ ((q.2 = [] ∧ q.1 = n.natAbs) ∨ (q.2 ≠ [] ∧ tailN b q.1 ++ q.2 = txtN b n.natAbs))) (Exists.intro (fun ⟨a, t⟩ => ⟨[(0, .i .i64 n), (1, .i .i64 (b : Int)), (5, .s (frontS b)), (6, .s t), (7, .i .i64 (sgI n * (a : Int)))], []⟩) (Exists.intro (fun q => 2 * q.1 + (if q.2 = [] then 1 else 0)) (Exists.intro (n.natAbs, []) (And.intro ⟨Nat.le_refl _, Or.inl ⟨rfl, rfl⟩⟩ (And.intro ?_ ?_)))))))))
  · (repeat' (first | exact trivial | exact Or.inl rfl | exact Or.inl ((congrArg (AV.i .i64) (sg_abs n).symm)) | refine And.intro ?_ ?_))
  · rintro ⟨a, t⟩ ⟨ha, hI⟩
    simp only at ha hI
    have hr := sgI_rng n a ha h0 h1
    have hdv := sgI_div n a b
    have hmd := sgI_mod n a b
    have hz : sgI n * (a : Int) = 0 ↔ a = 0 := by unfold sgI; split <;> omega
    have hab : a % b < b := Nat.mod_lt _ (by omega)
    have hdr := sgI_rng n (a / b) (Nat.le_trans (Nat.div_le_self a b) ha) h0 h1
    have hmr : sgI n * ((a % b : Nat) : Int) = (a % b : Nat) ∨ sgI n * ((a % b : Nat) : Int) = -((a % b : Nat) : Int) := by unfold sgI; split <;> omega
    have hcut := hex_cut (a % b) (by omega)
    unfold hexS at hcut
    have hlen := txt_len (b := b) (n := n.natAbs) hb2.1 (by omega)
    have hne : (t == []) = decide (t = []) := by cases t <;> rfl
    have htl : t.length ≤ 64 := by
      rcases hI with ⟨h, _⟩ | ⟨_, h⟩
      · rw [h]; exact Nat.zero_le _
      · rw [← h, List.length_append] at hlen; omega
    have hfl : (frontS (b : Int)).length ≤ 2 := by unfold frontS; repeat' split
                                                   all_goals simp
    by_cases hgo : a = 0 ∧ t ≠ []
    · have ht : t = txtN b n.natAbs := by
        rcases hI with ⟨h, _⟩ | ⟨_, h⟩
        · exact absurd h hgo.2
        · rw [hgo.1] at h; exact h
      have ht2 := hgo.2
      have ha0 := hgo.1
      rcases (show n < 0 ∨ 0 ≤ n by omega) with hn | hn
      · have hT : numT n b = [45] ++ frontS (b : Int) ++ t := by unfold numT; rw [if_pos hn, ht]
        rw [hT]
        (repeat' (first | (refine And.intro (fun h => ?_) (fun h => ?_) <;> (try simp [-List.getD_eq_getElem?_getD, -Int.pred_toNat] at h) <;> (try (exfalso; first | omega | contradiction))) | (refine And.intro (rng64 (by omega) (by omega)) ?_) | (refine And.intro ⟨by omega, by omega⟩ ?_) | (refine And.intro ⟨by omega, by omega, by omega⟩ ?_) | (intro _)))
        refine And.intro (show 1 + (frontS (b : Int)).length ≤ maxLen by unfold maxLen; omega) ?_
        refine And.intro (show ([45] ++ frontS (b : Int)).length + t.length ≤ maxLen by rw [List.length_append]; unfold maxLen; simp only [List.length_cons, List.length_nil]; omega) ?_
        rfl
      · have hT : numT n b = frontS (b : Int) ++ t := by unfold numT; rw [if_neg (by omega), ht]; rfl
        rw [hT]
        (repeat' (first | (refine And.intro (fun h => ?_) (fun h => ?_) <;> (try simp [-List.getD_eq_getElem?_getD, -Int.pred_toNat] at h) <;> (try (exfalso; first | omega | contradiction))) | (refine And.intro (rng64 (by omega) (by omega)) ?_) | (refine And.intro ⟨by omega, by omega⟩ ?_) | (refine And.intro ⟨by omega, by omega, by omega⟩ ?_) | (intro _)))
        refine And.intro (show (frontS (b : Int)).length + t.length ≤ maxLen by unfold maxLen; omega) ?_
        rfl
    · have hN : dcI ((a % b : Nat) : Int) :: t ≠ [] := by simp
      have hI2 : tailN b (a / b) ++ (dcI ((a % b : Nat) : Int) :: t) = txtN b n.natAbs := by
        rcases hI with ⟨h, h'⟩ | ⟨_, h⟩
        · subst h
          rw [← h']
          rcases Nat.eq_zero_or_pos a with e | e
          · rw [e, Nat.zero_div, Nat.zero_mod]; rfl
          · rw [txtN_pos e, tailN_pos hb2.1 e]
        · rw [← h, tailN_pos (n := a) hb2.1 (by rcases Nat.eq_zero_or_pos a with e | e; exact absurd ⟨e, by assumption⟩ hgo; exact e), List.append_assoc]
          rfl
      have hgo2 : ¬ a = 0 ∨ t = [] := by
        by_cases h : a = 0
        · exact Or.inr (Decidable.byContradiction fun h2 => hgo ⟨h, h2⟩)
        · exact Or.inl h
      have hmu : 2 * (a / b) + 0 < 2 * a + (if t = [] then 1 else 0) := by
        rcases Nat.eq_zero_or_pos a with e | e
        · rw [if_pos (hgo2.resolve_left (fun h => h e)), e, Nat.zero_div]; omega
        · have := Nat.div_lt_self e (show 1 < b by omega)
          omega
      rcases hgo2 with hg | hg
      · (repeat' (first | (refine And.intro (fun h => ?_) (fun h => ?_) <;> (try simp [-List.getD_eq_getElem?_getD, -Int.pred_toNat] at h) <;> (try (exfalso; first | omega | contradiction))) | (refine And.intro (rng64 (by omega) (by omega)) ?_) | (refine And.intro ⟨by omega, by omega⟩ ?_) | (refine And.intro ⟨by omega, by omega, by omega⟩ ?_) | (intro _)))
        all_goals
          refine And.intro hbe ?_
          rw [hmd]
          refine And.intro (fun h9 => ?_) (fun h9 => ?_)
          · have h9 : sgI n * ((a % b : Nat) : Int) < 0 := of_decide_eq_true h9
            have hv : (0 : Int) - sgI n * ((a % b : Nat) : Int) = ((a % b : Nat) : Int) := by omega
            refine Or.inl (And.intro (rng64 (by omega) (by omega)) ?_)
            rw [hv]
            (refine And.intro (rng64 (by omega) (by omega)) ?_)
            refine And.intro (show 0 ≤ ((a % b : Nat) : Int) ∧ ((a % b : Nat) : Int) ≤ ((a % b : Nat) : Int) + 1 ∧ ((a % b : Nat) : Int) + 1 ≤ 16 from ⟨by omega, by omega, by omega⟩) ?_
            rw [hcut]
            refine And.intro (show 1 + (t).length ≤ maxLen by unfold maxLen; omega) ?_
            refine And.intro hbe ?_
            rw [hdv]
            (refine And.intro (rng64 (by omega) (by omega)) ?_)
            refine Exists.intro [] (Exists.intro (a / b, dcI ((a % b : Nat) : Int) :: t) (And.intro ⟨Nat.le_trans (Nat.div_le_self a b) ha, Or.inr ⟨hN, hI2⟩⟩ (And.intro ?_ ?_)))
            · (repeat' (first | exact trivial | exact Or.inl rfl | exact Or.inr (Or.inl ⟨rfl, _, rfl⟩) | exact Or.inr (Or.inr (Or.inr ⟨_, _, _, rfl, rfl⟩)) | refine And.intro ?_ ?_))
            · simp only
              rw [if_neg hN]
              exact hmu
          · have h9 : ¬ sgI n * ((a % b : Nat) : Int) < 0 := of_decide_eq_false h9
            have hv : sgI n * ((a % b : Nat) : Int) = ((a % b : Nat) : Int) := by omega
            rw [hv]
            (refine And.intro (rng64 (by omega) (by omega)) ?_)
            refine And.intro (show 0 ≤ ((a % b : Nat) : Int) ∧ ((a % b : Nat) : Int) ≤ ((a % b : Nat) : Int) + 1 ∧ ((a % b : Nat) : Int) + 1 ≤ 16 from ⟨by omega, by omega, by omega⟩) ?_
            rw [hcut]
            refine And.intro (show 1 + (t).length ≤ maxLen by unfold maxLen; omega) ?_
            refine And.intro hbe ?_
            rw [hdv]
            (refine And.intro (rng64 (by omega) (by omega)) ?_)
            refine Exists.intro [] (Exists.intro (a / b, dcI ((a % b : Nat) : Int) :: t) (And.intro ⟨Nat.le_trans (Nat.div_le_self a b) ha, Or.inr ⟨hN, hI2⟩⟩ (And.intro ?_ ?_)))
            · (repeat' (first | exact trivial | exact Or.inl rfl | exact Or.inr (Or.inl ⟨rfl, _, rfl⟩) | exact Or.inr (Or.inr (Or.inr ⟨_, _, _, rfl, rfl⟩)) | refine And.intro ?_ ?_))
            · simp only
              rw [if_neg hN]
              exact hmu
      · subst hg
        (repeat' (first | (refine And.intro (fun h => ?_) (fun h => ?_) <;> (try simp [-List.getD_eq_getElem?_getD, -Int.pred_toNat] at h) <;> (try (exfalso; first | omega | contradiction))) | (refine And.intro (rng64 (by omega) (by omega)) ?_) | (refine And.intro ⟨by omega, by omega⟩ ?_) | (refine And.intro ⟨by omega, by omega, by omega⟩ ?_) | (intro _)))
        all_goals
          refine And.intro hbe ?_
          rw [hmd]
          refine And.intro (fun h9 => ?_) (fun h9 => ?_)
          · have h9 : sgI n * ((a % b : Nat) : Int) < 0 := of_decide_eq_true h9
            have hv : (0 : Int) - sgI n * ((a % b : Nat) : Int) = ((a % b : Nat) : Int) := by omega
            refine Or.inl (And.intro (rng64 (by omega) (by omega)) ?_)
            rw [hv]
            (refine And.intro (rng64 (by omega) (by omega)) ?_)
            refine And.intro (show 0 ≤ ((a % b : Nat) : Int) ∧ ((a % b : Nat) : Int) ≤ ((a % b : Nat) : Int) + 1 ∧ ((a % b : Nat) : Int) + 1 ≤ 16 from ⟨by omega, by omega, by omega⟩) ?_
            rw [hcut]
            refine And.intro (show 1 + (([] : Str)).length ≤ maxLen by unfold maxLen; simp only [List.length_nil]; omega) ?_
            refine And.intro hbe ?_
            rw [hdv]
            (refine And.intro (rng64 (by omega) (by omega)) ?_)
            refine Exists.intro [] (Exists.intro (a / b, dcI ((a % b : Nat) : Int) :: ([] : Str)) (And.intro ⟨Nat.le_trans (Nat.div_le_self a b) ha, Or.inr ⟨hN, hI2⟩⟩ (And.intro ?_ ?_)))
            · (repeat' (first | exact trivial | exact Or.inl rfl | exact Or.inr (Or.inl ⟨rfl, _, rfl⟩) | exact Or.inr (Or.inr (Or.inr ⟨_, _, _, rfl, rfl⟩)) | refine And.intro ?_ ?_))
            · simp only
              rw [if_neg hN]
              exact hmu
          · have h9 : ¬ sgI n * ((a % b : Nat) : Int) < 0 := of_decide_eq_false h9
            have hv : sgI n * ((a % b : Nat) : Int) = ((a % b : Nat) : Int) := by omega
            rw [hv]
            (refine And.intro (rng64 (by omega) (by omega)) ?_)
            refine And.intro (show 0 ≤ ((a % b : Nat) : Int) ∧ ((a % b : Nat) : Int) ≤ ((a % b : Nat) : Int) + 1 ∧ ((a % b : Nat) : Int) + 1 ≤ 16 from ⟨by omega, by omega, by omega⟩) ?_
            rw [hcut]
            refine And.intro (show 1 + (([] : Str)).length ≤ maxLen by unfold maxLen; simp only [List.length_nil]; omega) ?_
            refine And.intro hbe ?_
            rw [hdv]
            (refine And.intro (rng64 (by omega) (by omega)) ?_)
            refine Exists.intro [] (Exists.intro (a / b, dcI ((a % b : Nat) : Int) :: ([] : Str)) (And.intro ⟨Nat.le_trans (Nat.div_le_self a b) ha, Or.inr ⟨hN, hI2⟩⟩ (And.intro ?_ ?_)))
            · (repeat' (first | exact trivial | exact Or.inl rfl | exact Or.inr (Or.inl ⟨rfl, _, rfl⟩) | exact Or.inr (Or.inr (Or.inr ⟨_, _, _, rfl, rfl⟩)) | refine And.intro ?_ ?_))
            · simp only
              rw [if_neg hN]
              exact hmu
theorem s_numText (n : Int) (b : Nat) (hb : b = 2 ∨ b = 8 ∨ b = 10 ∨ b = 16) (h0 : -9223372036854775808 ≤ n) (h1 : n ≤ 9223372036854775807) : PSpec Tryd.prog 89 [.i .i64 n, .i .i64 (b : Int)] (.s (numT n b)) :=
  pspec_of_VCs Γ_good Tryd.func89 rfl Tryd.call89 Tryd.results89 Tryd.ntmps89 (Nat.le_of_ble_eq_true rfl) (w_numText n b hb h0 h1) Γ_good
end
end Go.Proofs.YtmfchbkdakmjhaaDoor
end
section
namespace Go.Proofs.YtmfchbkdakmjhaaDoor
set_option linter.unusedSectionVars false
set_option linter.unusedSimpArgs false
set_option linter.unusedVariables false
open Go Go.SX Go.Bg Go.Nm
set_option maxRecDepth 100000
set_option maxHeartbeats 1000000
/-- the library's powers of 10 stand as laid, in block 0 -/
def HasPow [G : Globs] : Prop := ∃ o0 : Obj, (0, o0) ∈ G.gl ∧ ∀ w : World, w.heap[0]? = some o0 → Lib.TabIs Tryd.prog w "internal/strconv.uint64pow10" .u64 Lib.pow10Tab
theorem dcI_lt {d : Nat} (h : d < 10) : dcI (d : Int) = UInt8.ofNat (48 + d) := by
  rcases (show d = 0 ∨ d = 1 ∨ d = 2 ∨ d = 3 ∨ d = 4 ∨ d = 5 ∨ d = 6 ∨ d = 7 ∨ d = 8 ∨ d = 9 by omega) with rfl | rfl | rfl | rfl | rfl | rfl | rfl | rfl | rfl | rfl <;> rfl
theorem dec_txt : ∀ n : Nat, Lib.decDigits n = txtN 10 n := by
  intro n
  induction n using Nat.strongRecOn with
  | ind n ih =>
    rw [Lib.decDigits]
    split
    · rename_i h
      rcases Nat.eq_zero_or_pos n with e | e
      · rw [e]; rfl
      · rw [txtN_pos e, tailN_pos (by decide) e, Nat.div_eq_of_lt h, Nat.mod_eq_of_lt h, tailN_zero, dcI_lt h]
        rfl
    · rename_i h
      rw [ih (n / 10) (by omega), txtN_pos (show 0 < n by omega), tailN_pos (by decide) (show 0 < n by omega), txtN_pos (show 0 < n / 10 by omega), dcI_lt (Nat.mod_lt _ (by decide))]
theorem grow_stp (w : World) (k : Nat) (os : Array Obj) : Stp (fun _ => False) w (Go.Sort.grow (w.drewN k) os) := by
  refine ⟨rfl, rfl, rfl, ?_, fun j hj _ => ?_⟩
  · show w.heap.size ≤ (w.heap ++ os).size
    rw [Array.size_append]; omega
  · show (w.heap ++ os)[j]? = _
    rw [Array.getElem?_append_left hj]
theorem itoa_txt (n : Int) : Lib.itoa n = numT n 10 := by
  unfold Lib.itoa numT
  split
  · rw [dec_txt]; rfl
  · rw [dec_txt, show n.toNat = n.natAbs by omega]; rfl
section
variable [G : Globs]
theorem s_fmt10i (ht : HasPow) (n : Int) (h0 : -9223372036854775808 ≤ n) (h1 : n ≤ 9223372036854775807) : PSpec Tryd.prog 96 [.i .i64 n, .i .i64 10] (.s (numT n 10)) := by
  refine ⟨Tryd.call96, fun O w vs hO hG hargs => ?_⟩
  obtain ⟨v0, vs0, rfl, h2, h⟩ := hargs.cons_inv
  obtain ⟨v1, vs1, rfl, h3, h⟩ := h.cons_inv
  obtain rfl := h.nil_inv
  cases h2
  cases h3
  obtain ⟨o0, m0, hT⟩ := ht
  have hT := hT w (hG _ m0).2
  refine (Tryd.internal_strconv_FormatInt_10 n h0 h1 w hT).mono fun e w' ⟨he, k, os, hw⟩ => ?_
  subst he hw
  refine ⟨_, rfl, ?_, ?_⟩
  · exact grow_stp w k os
  · rw [itoa_txt]
    have hl := Lib.itoa_length_le n h0 h1
    rw [itoa_txt] at hl
    exact .s _ (by unfold maxLen; omega)
theorem w_fmt10 (ht : HasPow) (n : Int) (h0 : -9223372036854775808 ≤ n) (h1 : n ≤ 9223372036854775807) : vc Tryd.prog Γ 8 [0, 1, 4] (Tryd.f56.body.getD .skip) (postK Γ [.tmp 4] (fun v => v = .s (numT n 10))) ⟨argSlots 0 [.i .i64 n, .i .i64 10], []⟩ := by
  refine Or.inl (Exists.intro _ (And.intro (s_fmt10i ht n h0 h1) ?_))
  rfl
theorem s_fmt10 (ht : HasPow) (n : Int) (h0 : -9223372036854775808 ≤ n) (h1 : n ≤ 9223372036854775807) : PSpec Tryd.prog 56 [.i .i64 n, .i .i64 10] (.s (numT n 10)) :=
  pspec_of_vc Γ_good Tryd.func56 rfl Tryd.call56 Tryd.results56 Tryd.ntmps56 (Nat.le_of_ble_eq_true rfl) (w_fmt10 ht n h0 h1)
theorem w_textP (ht : HasPow) (n : Int) (h0 : -9223372036854775808 ≤ n) (h1 : n ≤ 9223372036854775807) : vc Tryd.prog Γ 5 [0, 2] (Tryd.f125.body.getD .skip) (postK Γ [.tmp 2] (fun v => v = .s (numT n 10))) ⟨argSlots 0 [.i .i64 n], []⟩ := by
  refine Or.inl (Exists.intro _ (And.intro (s_fmt10 ht n h0 h1) ?_))
  rfl
theorem s_textP (ht : HasPow) (n : Int) (h0 : -9223372036854775808 ≤ n) (h1 : n ≤ 9223372036854775807) : PSpec Tryd.prog 125 [.i .i64 n] (.s (numT n 10)) :=
  pspec_of_vc Γ_good Tryd.func125 rfl Tryd.call125 Tryd.results125 Tryd.ntmps125 (Nat.le_of_ble_eq_true rfl) (w_textP ht n h0 h1)
end
end Go.Proofs.YtmfchbkdakmjhaaDoor
end
section
namespace Go.Proofs.YtmfchbkdakmjhaaDoor
set_option linter.unusedSectionVars false
set_option linter.unusedSimpArgs false
set_option linter.unusedVariables false
open Go Go.SX Go.Bg Go.Nm
set_option maxRecDepth 100000
set_option maxHeartbeats 1000000
section
variable [G : Globs]
theorem s_mul64 (x y : Nat) (hx : x < 18446744073709551616) (hy : y < 18446744073709551616) : PSpec Tryd.prog 164 [.i .u64 x, .i .u64 y] (.tup [.i .u64 ((x * y / 18446744073709551616 : Nat) : Int), .i .u64 ((x * y % 18446744073709551616 : Nat) : Int)]) := by
  refine ⟨Tryd.call164, fun O w vs hO hG hargs => ?_⟩
  obtain ⟨v0, vs0, rfl, h0, h⟩ := hargs.cons_inv
  obtain ⟨v1, vs1, rfl, h1, h⟩ := h.cons_inv
  obtain rfl := h.nil_inv
  cases h0
  cases h1
  refine (Tryd.bits_Mul64 x y hx hy w).mono fun e w' ⟨he, hw⟩ => ?_
  subst he hw
  exact ⟨_, rfl, Stp.refl _ _, .tup _ [_, _] rfl (fun j av v hav hv => by
    match j with
    | 0 => simp at hav hv; subst hav hv; exact .i _ _
    | 1 => simp at hav hv; subst hav hv; exact .i _ _
    | j + 2 => simp at hav)⟩
theorem e_add64 (x y : Nat) : ESpec Tryd.prog 165 [.i .u64 x, .i .u64 y, .i .u64 0] (.tup [.i .u64 (((x : Int) + y + 0) % 18446744073709551616), .i .u64 (((x : Int) + y + 0) / 18446744073709551616)]) := by
  intro O w vs hargs
  obtain ⟨v0, vs0, rfl, h0, h⟩ := hargs.cons_inv
  obtain ⟨v1, vs1, rfl, h1, h⟩ := h.cons_inv
  obtain ⟨v2, vs2, rfl, h2, h⟩ := h.cons_inv
  obtain rfl := h.nil_inv
  cases h0
  cases h1
  cases h2
  have hrun : (callFunc 165 #[.int .u64 (x : Int), .int .u64 (y : Int), .int .u64 0]).run Tryd.prog w = .ok (.value (.tuple #[.int .u64 (((x : Int) + y + 0) % 18446744073709551616), .int .u64 (((x : Int) + y + 0) / 18446744073709551616)])) w := by
    rw [run_callFunc_extern Tryd.func165 (by kernel_rfl) (by kernel_rfl) (by kernel_rfl) (e := add64Entry) (by kernel_rfl), run_add64 x y 0 (by omega) (by omega) (by omega) (by omega)]
    rfl
  exact ⟨_, hrun, .tup _ [_, _] rfl (fun j av v hav hv => by
    match j with
    | 0 => simp at hav hv; subst hav hv; exact .i _ _
    | 1 => simp at hav hv; subst hav hv; exact .i _ _
    | j + 2 => simp at hav)⟩
end
end Go.Proofs.YtmfchbkdakmjhaaDoor
end
section
namespace Go.Proofs.YtmfchbkdakmjhaaDoor
set_option linter.unusedSectionVars false
set_option linter.unusedSimpArgs false
set_option linter.unusedVariables false
open Go Go.SX Go.Bg Go.Nm
set_option maxRecDepth 100000
set_option maxHeartbeats 1000000
theorem dgt_lt (c : UInt8) : dgt c < 100 := by
  unfold dgt
  split
  · omega
  · split
    · omega
    · split <;> omega
theorem numN_bound {b : Nat} (hb : 1 ≤ b) : ∀ (s : Str) (l : UInt8) (n N : Nat), numN b l n s = some N → N < (n + 1) * b ^ s.length
  | [], l, n, N, h => by
    rw [numN] at h
    split at h
    · cases h
    · injection h with h; subst h; simp
  | c :: r, l, n, N, h => by
    rw [numN] at h
    have hp : (n + 1) * b ^ r.length ≤ (n + 1) * b ^ (c :: r).length := Nat.mul_le_mul_left _ (Nat.pow_le_pow_right hb (by simp))
    split at h
    · split at h
      · cases h
      · exact Nat.lt_of_lt_of_le (numN_bound hb r _ _ _ h) hp
    · split at h
      · cases h
      · rename_i hd
        have h1 := numN_bound hb r _ _ _ h
        refine Nat.lt_of_lt_of_le h1 ?_
        rw [List.length_cons, Nat.pow_succ, Nat.mul_comm (b ^ r.length) b, ← Nat.mul_assoc]
        refine Nat.mul_le_mul_right _ ?_
        rw [Nat.add_mul]
        omega
theorem bare_long {t : Str} (h : 1 < t.length) (h0 : t.getD 0 0 = 48) :
    bareV t = if t.getD 1 0 = 120 then numN 16 95 0 (t.drop 2) else if t.getD 1 0 = 111 then numN 8 95 0 (t.drop 2) else if t.getD 1 0 = 98 then numN 2 95 0 (t.drop 2) else none := by
  match t with
  | [] => simp at h
  | [c] => simp at h
  | c :: d :: r =>
    have h0 : c = 48 := h0
    show _ = if d = 120 then numN 16 95 0 r else if d = 111 then numN 8 95 0 r else if d = 98 then numN 2 95 0 r else none
    subst h0
    have e0 : frontB (48 :: d :: r) = if (48 : UInt8) = 48 ∧ d = 120 then (16, r) else if (48 : UInt8) = 48 ∧ d = 111 then (8, r) else if (48 : UInt8) = 48 ∧ d = 98 then (2, r) else (10, 48 :: d :: r) := rfl
    unfold bareV
    by_cases h1 : d = 120
    · rw [if_pos h1, show frontB (48 :: d :: r) = (16, r) by rw [e0, if_pos ⟨rfl, h1⟩]]
      exact if_neg (fun h => by have := h.1; simp at this)
    by_cases h2 : d = 111
    · rw [if_neg h1, if_pos h2, show frontB (48 :: d :: r) = (8, r) by rw [e0, if_neg (fun h => h1 h.2), if_pos ⟨rfl, h2⟩]]
      exact if_neg (fun h => by have := h.1; simp at this)
    by_cases h3 : d = 98
    · rw [if_neg h1, if_neg h2, if_pos h3, show frontB (48 :: d :: r) = (2, r) by rw [e0, if_neg (fun h => h1 h.2), if_neg (fun h => h2 h.2), if_pos ⟨rfl, h3⟩]]
      exact if_neg (fun h => by have := h.1; simp at this)
    rw [if_neg h1, if_neg h2, if_neg h3, show frontB (48 :: d :: r) = (10, 48 :: d :: r) by rw [e0, if_neg (fun h => h1 h.2), if_neg (fun h => h2 h.2), if_neg (fun h => h3 h.2)]]
    exact if_pos ⟨rfl, by simp, rfl⟩
theorem bare_short {t : Str} (h : ¬ (1 < t.length ∧ t.getD 0 0 = 48)) : bareV t = numN 10 95 0 t := by
  match t with
  | [] => rfl
  | [c] => exact if_neg (fun h => by simp [frontB] at h)
  | c :: d :: r =>
    have h0 : c ≠ 48 := fun e => h ⟨by simp, e⟩
    have e0 : frontB (c :: d :: r) = if c = 48 ∧ d = 120 then (16, r) else if c = 48 ∧ d = 111 then (8, r) else if c = 48 ∧ d = 98 then (2, r) else (10, c :: d :: r) := rfl
    unfold bareV
    rw [show frontB (c :: d :: r) = (10, c :: d :: r) by rw [e0, if_neg (fun h => h0 h.1), if_neg (fun h => h0 h.1), if_neg (fun h => h0 h.1)]]
    exact if_neg (fun h => h0 h.2.2)
/-- the byte ahead -/
def lastC (u : Str) (i : Nat) : UInt8 := if i = 0 then 95 else u.getD (i - 1) 0
theorem drop_tk (s : Str) (k : Nat) : (s.take (Int.toNat (s.length : Int))).drop k = s.drop k := by rw [Int.toNat_natCast, List.take_length]
section
variable [G : Globs]
theorem w_numeral (s : Str) (hs : s.length ≤ 80) : VCs Tryd.prog Γ 89 [0, 2, 3, 4, 5, 6, 7, 14, 24, 26, 27, 29, 31, 34, 52, 57, 63, 68, 76] (Tryd.f128.body.getD .skip) (postK Γ [.tmp 2, .tmp 3, .tmp 4] (fun v => RL v (.tup [.b (minusS s), .rd .int (match bareV (restS s) with | none => [] | some n => dg 10000 n), .b (bareV (restS s)).isSome]))) ⟨argSlots 0 [.s s], []⟩ := by
  refine VCs.seq (by first | exact Γ_good | exact Ctx.good_kp Γ_good _) ?_
  refine VCs.cut (by first | exact Γ_good | exact Ctx.good_kp Γ_good _) Unit (fun _ => True) (fun _ => ⟨[(0, .s (restS s)), (2, .b (minusS s)), (3, .nl), (4, .b false)], []⟩) ?_ ?_
  · cases s with
    | nil =>
      (repeat' (first | (refine And.intro (fun h => ?_) (fun h => ?_) <;> (try simp [-List.getD_eq_getElem?_getD, -Int.pred_toNat] at h) <;> (try (exfalso; first | omega | contradiction))) | (refine And.intro (rng64 (by omega) (by omega)) ?_) | (refine And.intro ⟨by omega, by omega⟩ ?_) | (refine And.intro ⟨by omega, by omega, by omega⟩ ?_) | (intro _)))
      refine Exists.intro () (And.intro trivial ?_)
      (repeat' (first | exact trivial | exact Or.inl rfl | exact Or.inr (Or.inl ⟨rfl, _, rfl⟩) | exact Or.inr (Or.inr (Or.inr ⟨_, _, _, rfl, rfl⟩)) | refine And.intro ?_ ?_))
    | cons c r =>
      have hl : (c :: r).length = r.length + 1 := rfl
      have e0 : ((c :: r).getD 0 0).toNat = c.toNat := rfl
      by_cases hc : c = 45
      · have hm : minusS (c :: r) = true := decide_eq_true hc
        have hr : restS (c :: r) = r := by unfold restS; rw [if_pos hm]; rfl
        have hcn : c.toNat = 45 := by rw [hc]; rfl
        (repeat' (first | (refine And.intro (fun h => ?_) (fun h => ?_) <;> (try simp [-List.getD_eq_getElem?_getD, -Int.pred_toNat] at h) <;> (try (exfalso; first | omega | contradiction))) | (refine And.intro (rng64 (by omega) (by omega)) ?_) | (refine And.intro ⟨by omega, by omega⟩ ?_) | (refine And.intro ⟨by omega, by omega, by omega⟩ ?_) | (intro _)))
        refine Exists.intro [.blk [0, 1, 2, 3]] (And.intro (by kernel_rfl) ?_)
        (repeat' (first | (refine And.intro (fun h => ?_) (fun h => ?_) <;> (try simp [-List.getD_eq_getElem?_getD, -Int.pred_toNat] at h) <;> (try (exfalso; first | omega | contradiction))) | (refine And.intro (rng64 (by omega) (by omega)) ?_) | (refine And.intro ⟨by omega, by omega⟩ ?_) | (refine And.intro ⟨by omega, by omega, by omega⟩ ?_) | (intro _)))
        refine Exists.intro () (And.intro trivial ?_)
        rw [hm, hr]
        (repeat' (first | exact trivial | exact Or.inl rfl | exact Or.inl ((congrArg AV.s (drop_tk (c :: r) (Int.toNat 1)))) | refine And.intro ?_ ?_))
      · have hm : minusS (c :: r) = false := decide_eq_false hc
        have hr : restS (c :: r) = c :: r := by unfold restS; rw [if_neg (by rw [hm]; decide)]
        have hcn : ¬ c.toNat = 45 := fun h => hc (UInt8.toNat_inj.1 h)
        (repeat' (first | (refine And.intro (fun h => ?_) (fun h => ?_) <;> (try simp [-List.getD_eq_getElem?_getD, -Int.pred_toNat] at h) <;> (try (exfalso; first | omega | contradiction))) | (refine And.intro (rng64 (by omega) (by omega)) ?_) | (refine And.intro ⟨by omega, by omega⟩ ?_) | (refine And.intro ⟨by omega, by omega, by omega⟩ ?_) | (intro _)))
        refine Exists.intro () (And.intro trivial ?_)
        rw [hm, hr]
        (repeat' (first | exact trivial | exact Or.inl rfl | exact Or.inr (Or.inl ⟨rfl, _, rfl⟩) | exact Or.inr (Or.inr (Or.inr ⟨_, _, _, rfl, rfl⟩)) | refine And.intro ?_ ?_))
  rintro ⟨⟩ _
  obtain ⟨t, ht⟩ : ∃ t, t = restS s := ⟨_, rfl⟩
  have htl : t.length ≤ 80 := by rw [ht]; unfold restS; split <;> (try rw [List.length_drop]) <;> omega
  rw [← ht]
  generalize minusS s = m
  refine VCs.seq (by first | exact Γ_good | exact Ctx.good_kp Γ_good _) ?_
  refine VCs.cut (by first | exact Γ_good | exact Ctx.good_kp Γ_good _) (Nat × Str) (fun q => bareV t = numN q.1 95 0 q.2 ∧ 2 ≤ q.1 ∧ q.1 ≤ 16 ∧ q.2.length ≤ 80) (fun ⟨b, u⟩ => ⟨[(0, .s u), (2, .b m), (3, .nl), (4, .b false), (5, .i .i64 (b : Int))], []⟩) ?_ ?_
  · clear ht
    match t, htl with
    | [], htl =>
      (repeat' (first | (refine And.intro (fun h => ?_) (fun h => ?_) <;> (try simp [-List.getD_eq_getElem?_getD, -Int.pred_toNat] at h) <;> (try (exfalso; first | omega | contradiction))) | (refine And.intro (rng64 (by omega) (by omega)) ?_) | (refine And.intro ⟨by omega, by omega⟩ ?_) | (refine And.intro ⟨by omega, by omega, by omega⟩ ?_) | (intro _)))
      refine Exists.intro (10, []) (And.intro ⟨bare_short (by simp), by simp, by simp, htl⟩ ?_)
      (repeat' (first | exact trivial | exact Or.inl rfl | exact Or.inr (Or.inl ⟨rfl, _, rfl⟩) | exact Or.inr (Or.inr (Or.inr ⟨_, _, _, rfl, rfl⟩)) | refine And.intro ?_ ?_))
    | [c], htl =>
      (repeat' (first | (refine And.intro (fun h => ?_) (fun h => ?_) <;> (try simp [-List.getD_eq_getElem?_getD, -Int.pred_toNat] at h) <;> (try (exfalso; first | omega | contradiction))) | (refine And.intro (rng64 (by omega) (by omega)) ?_) | (refine And.intro ⟨by omega, by omega⟩ ?_) | (refine And.intro ⟨by omega, by omega, by omega⟩ ?_) | (intro _)))
      refine Exists.intro (10, [c]) (And.intro ⟨bare_short (by simp), by simp, by simp, htl⟩ ?_)
      (repeat' (first | exact trivial | exact Or.inl rfl | exact Or.inr (Or.inl ⟨rfl, _, rfl⟩) | exact Or.inr (Or.inr (Or.inr ⟨_, _, _, rfl, rfl⟩)) | refine And.intro ?_ ?_))
    | c :: d :: r, htl =>
      have hl : (c :: d :: r).length = r.length + 2 := rfl
      have e0 : ((c :: d :: r).getD 0 0).toNat = c.toNat := rfl
      have e1 : ((c :: d :: r).getD 1 0).toNat = d.toNat := rfl
      by_cases hc : c = 48
      · have hcn : c.toNat = 48 := by rw [hc]; rfl
        have hB := bare_long (t := c :: d :: r) (by omega) hc
        have hB : bareV (c :: d :: r) = if d = 120 then numN 16 95 0 r else if d = 111 then numN 8 95 0 r else if d = 98 then numN 2 95 0 r else none := hB
        by_cases c1 : d = 120
        · rw [if_pos c1] at hB
          have hdn : d.toNat = 120 := by rw [c1]; rfl
          (repeat' (first | (refine And.intro (fun h => ?_) (fun h => ?_) <;> (try simp [-List.getD_eq_getElem?_getD, -Int.pred_toNat] at h) <;> (try (exfalso; first | omega | contradiction))) | (refine And.intro (rng64 (by omega) (by omega)) ?_) | (refine And.intro ⟨by omega, by omega⟩ ?_) | (refine And.intro ⟨by omega, by omega, by omega⟩ ?_) | (intro _)))
          refine Exists.intro (16, r) (And.intro ⟨hB, by simp, by simp, by simp only; omega⟩ ?_)
          (repeat' (first | exact trivial | exact Or.inl rfl | exact Or.inl ((congrArg AV.s (drop_tk (c :: d :: r) (Int.toNat 2)))) | refine And.intro ?_ ?_))
        rw [if_neg c1] at hB
        have hm1 : ¬ d.toNat = 120 := fun h => c1 (UInt8.toNat_inj.1 h)
        by_cases c2 : d = 111
        · rw [if_pos c2] at hB
          have hdn : d.toNat = 111 := by rw [c2]; rfl
          (repeat' (first | (refine And.intro (fun h => ?_) (fun h => ?_) <;> (try simp [-List.getD_eq_getElem?_getD, -Int.pred_toNat] at h) <;> (try (exfalso; first | omega | contradiction))) | (refine And.intro (rng64 (by omega) (by omega)) ?_) | (refine And.intro ⟨by omega, by omega⟩ ?_) | (refine And.intro ⟨by omega, by omega, by omega⟩ ?_) | (intro _)))
          refine Exists.intro (8, r) (And.intro ⟨hB, by simp, by simp, by simp only; omega⟩ ?_)
          (repeat' (first | exact trivial | exact Or.inl rfl | exact Or.inl ((congrArg AV.s (drop_tk (c :: d :: r) (Int.toNat 2)))) | refine And.intro ?_ ?_))
        rw [if_neg c2] at hB
        have hm2 : ¬ d.toNat = 111 := fun h => c2 (UInt8.toNat_inj.1 h)
        by_cases c3 : d = 98
        · rw [if_pos c3] at hB
          have hdn : d.toNat = 98 := by rw [c3]; rfl
          (repeat' (first | (refine And.intro (fun h => ?_) (fun h => ?_) <;> (try simp [-List.getD_eq_getElem?_getD, -Int.pred_toNat] at h) <;> (try (exfalso; first | omega | contradiction))) | (refine And.intro (rng64 (by omega) (by omega)) ?_) | (refine And.intro ⟨by omega, by omega⟩ ?_) | (refine And.intro ⟨by omega, by omega, by omega⟩ ?_) | (intro _)))
          refine Exists.intro (2, r) (And.intro ⟨hB, by simp, by simp, by simp only; omega⟩ ?_)
          (repeat' (first | exact trivial | exact Or.inl rfl | exact Or.inl ((congrArg AV.s (drop_tk (c :: d :: r) (Int.toNat 2)))) | refine And.intro ?_ ?_))
        rw [if_neg c3] at hB
        have hm3 : ¬ d.toNat = 98 := fun h => c3 (UInt8.toNat_inj.1 h)
        (repeat' (first | (refine And.intro (fun h => ?_) (fun h => ?_) <;> (try simp [-List.getD_eq_getElem?_getD, -Int.pred_toNat] at h) <;> (try (exfalso; first | omega | contradiction))) | (refine And.intro (rng64 (by omega) (by omega)) ?_) | (refine And.intro ⟨by omega, by omega⟩ ?_) | (refine And.intro ⟨by omega, by omega, by omega⟩ ?_) | (intro _)))
        rw [hB]
        (repeat' (first | exact trivial | exact Or.inl rfl | exact Or.inr ⟨rfl, _, rfl⟩ | refine And.intro ?_ ?_))
      · have hB := bare_short (t := c :: d :: r) (fun h => hc h.2)
        have hcn : ¬ c.toNat = 48 := fun h => hc (UInt8.toNat_inj.1 h)
        (repeat' (first | (refine And.intro (fun h => ?_) (fun h => ?_) <;> (try simp [-List.getD_eq_getElem?_getD, -Int.pred_toNat] at h) <;> (try (exfalso; first | omega | contradiction))) | (refine And.intro (rng64 (by omega) (by omega)) ?_) | (refine And.intro ⟨by omega, by omega⟩ ?_) | (refine And.intro ⟨by omega, by omega, by omega⟩ ?_) | (intro _)))
        refine Exists.intro (10, c :: d :: r) (And.intro ⟨hB, by simp, by simp, htl⟩ ?_)
        (repeat' (first | exact trivial | exact Or.inl rfl | exact Or.inr (Or.inl ⟨rfl, _, rfl⟩) | exact Or.inr (Or.inr (Or.inr ⟨_, _, _, rfl, rfl⟩)) | refine And.intro ?_ ?_))
  rintro ⟨b, u⟩ ⟨hB, hb1, hb2, hul⟩
  simp only at hB hb1 hb2 hul
  rw [hB]
  clear hB
  refine VCs.of_vc (by first | exact Γ_good | exact Ctx.good_kp Γ_good _) ?_
  by_cases hz : u = []
  · subst hz
    rw [show numN b 95 0 [] = none from rfl]
    (repeat' (first | (refine And.intro (fun h => ?_) (fun h => ?_) <;> (try simp [-List.getD_eq_getElem?_getD, -Int.pred_toNat] at h) <;> (try (exfalso; first | omega | contradiction))) | (refine And.intro (rng64 (by omega) (by omega)) ?_) | (refine And.intro ⟨by omega, by omega⟩ ?_) | (refine And.intro ⟨by omega, by omega, by omega⟩ ?_) | (intro _)))
    (repeat' (first | exact trivial | exact Or.inl rfl | exact Or.inr ⟨rfl, _, rfl⟩ | refine And.intro ?_ ?_))
  have hl : 0 < u.length := List.length_pos_iff.2 hz
  have hne : (u == []) = false := by cases u with
    | nil => exact absurd rfl hz
    | cons c r => rfl
  have hp0 : 0 < u.length := hl
  by_cases h0 : u.getD 0 0 = 95
  · have hN : numN b 95 0 u = none := by
      cases u with
      | nil => rfl
      | cons c r =>
        have h0 : c = 95 := h0
        rw [numN, if_pos h0, if_pos rfl]
    rw [hN]
    have hn0 : (u.getD 0 0).toNat = 95 := by rw [h0]; rfl
    (repeat' (first | (refine And.intro (fun h => ?_) (fun h => ?_) <;> (try simp [-List.getD_eq_getElem?_getD, -Int.pred_toNat] at h) <;> (try (exfalso; first | omega | contradiction))) | (refine And.intro (rng64 (by omega) (by omega)) ?_) | (refine And.intro ⟨by omega, by omega⟩ ?_) | (refine And.intro ⟨by omega, by omega, by omega⟩ ?_) | (intro _)))
    (repeat' (first | exact trivial | exact Or.inl rfl | exact Or.inr ⟨rfl, _, rfl⟩ | refine And.intro ?_ ?_))
  have hn0 : ¬ (u.getD 0 0).toNat = 95 := fun h => h0 (UInt8.toNat_inj.1 h)
  have hlast : u.getLast? = some (u.getD (u.length - 1) 0) := by
    rw [List.getLast?_eq_getElem?, List.getD_eq_getElem?_getD, List.getElem?_eq_getElem (by omega)]
    rfl
  have hix : Int.toNat ((u.length : Int) - 1) = u.length - 1 := by omega
  by_cases h9 : u.getD (u.length - 1) 0 = 95
  · have hN : numN b 95 0 u = none := numN_end u 95 0 hz (by rw [hlast, h9])
    rw [hN]
    have hn9 : (u.getD (Int.toNat ((u.length : Int) - 1)) 0).toNat = 95 := by rw [hix, h9]; rfl
    (repeat' (first | (refine And.intro (fun h => ?_) (fun h => ?_) <;> (try simp [-List.getD_eq_getElem?_getD, -Int.pred_toNat] at h) <;> (try (exfalso; first | omega | contradiction))) | (refine And.intro (rng64 (by omega) (by omega)) ?_) | (refine And.intro ⟨by omega, by omega⟩ ?_) | (refine And.intro ⟨by omega, by omega, by omega⟩ ?_) | (intro _)))
    (repeat' (first | exact trivial | exact Or.inl rfl | exact Or.inr ⟨rfl, _, rfl⟩ | refine And.intro ?_ ?_))
  have hn9 : ¬ (u.getD (Int.toNat ((u.length : Int) - 1)) 0).toNat = 95 := fun h => h9 (by rw [hix] at h; exact UInt8.toNat_inj.1 h)
  (repeat' (first | (refine And.intro (fun h => ?_) (fun h => ?_) <;> (try simp [-List.getD_eq_getElem?_getD, -Int.pred_toNat] at h) <;> (try (exfalso; first | omega | contradiction))) | (refine And.intro (rng64 (by omega) (by omega)) ?_) | (refine And.intro ⟨by omega, by omega⟩ ?_) | (refine And.intro ⟨by omega, by omega, by omega⟩ ?_) | (intro _)))
  refine Exists.intro [] (Exists.intro [] (Exists.intro [] (Exists.intro (Nat × Nat) (Exists.intro (fun q => q.1 ≤ u.length ∧ numN b (lastC u q.1) q.2 (u.drop q.1) = numN b 95 0 u ∧ q.2 < b ^ q.1) (Exists.intro (fun ⟨i, n⟩ => ⟨[(0, .s u), (2, .b m), (3, .rd .int (dg 10000 n)), (4, .b false), (5, .i .i64 (b : Int)), (6, .i .i64 (i : Int))], []⟩) (Exists.intro (fun q => u.length - q.1) (Exists.intro (0, 0) (And.intro ⟨Nat.zero_le _, rfl, by simp⟩ (And.intro ?_ ?_)))))))))
  · (repeat' (first | exact trivial | exact Or.inl rfl | exact Or.inr (Or.inl ⟨rfl, _, rfl⟩) | exact Or.inr (Or.inr (Or.inr ⟨_, _, _, rfl, rfl⟩)) | refine And.intro ?_ ?_))
  · rintro ⟨i, n⟩ ⟨hi, hI, hn⟩
    simp only at hi hI hn
    intro _
    refine And.intro (fun hc => ?_) (fun hc => ?_)
    · have hi : i < u.length := by have : (i : Int) < (u.length : Int) := of_decide_eq_true hc
                                   omega
      have hdr : u.drop i = u.getD i 0 :: u.drop (i + 1) := by
        rw [List.drop_eq_getElem_cons hi, List.getD_eq_getElem?_getD, List.getElem?_eq_getElem hi]; rfl
      rw [hdr, numN] at hI
      have hgi : u.getD (Int.toNat (i : Int)) 0 = u.getD i 0 := by rw [Int.toNat_natCast]
      have hlc : lastC u (i + 1) = u.getD i 0 := rfl
      by_cases hu : u.getD i 0 = 95
      · rw [if_pos hu] at hI
        have hi0 : 0 < i := by
          rcases Nat.eq_zero_or_pos i with e | e
          · rw [e] at hu; exact absurd hu h0
          · exact e
        have hlast2 : lastC u i = u.getD (i - 1) 0 := by unfold lastC; rw [if_neg (by omega)]
        have hgi1 : u.getD (Int.toNat ((i : Int) - 1)) 0 = u.getD (i - 1) 0 := by rw [show Int.toNat ((i : Int) - 1) = i - 1 by omega]
        have hun : (u.getD i 0).toNat = 95 := by rw [hu]; rfl
        by_cases hd : u.getD (i - 1) 0 = 95
        · rw [hlast2, if_pos hd] at hI
          rw [← hI]
          have hdn : (u.getD (Int.toNat ((i : Int) - 1)) 0).toNat = 95 := by rw [hgi1, hd]; rfl
          (repeat' (first | (refine And.intro (fun h => ?_) (fun h => ?_) <;> (try simp [-List.getD_eq_getElem?_getD, -Int.pred_toNat] at h) <;> (try (exfalso; first | omega | contradiction))) | (refine And.intro (rng64 (by omega) (by omega)) ?_) | (refine And.intro ⟨by omega, by omega⟩ ?_) | (refine And.intro ⟨by omega, by omega, by omega⟩ ?_) | (intro _)))
          (repeat' (first | exact trivial | exact Or.inl rfl | exact Or.inr ⟨rfl, _, rfl⟩ | refine And.intro ?_ ?_))
        · rw [hlast2, if_neg hd] at hI
          have hdn : ¬ (u.getD (Int.toNat ((i : Int) - 1)) 0).toNat = 95 := fun h => hd (by rw [hgi1] at h; exact UInt8.toNat_inj.1 h)
          (repeat' (first | (refine And.intro (fun h => ?_) (fun h => ?_) <;> (try simp [-List.getD_eq_getElem?_getD, -Int.pred_toNat] at h) <;> (try (exfalso; first | omega | contradiction))) | (refine And.intro (rng64 (by omega) (by omega)) ?_) | (refine And.intro ⟨by omega, by omega⟩ ?_) | (refine And.intro ⟨by omega, by omega, by omega⟩ ?_) | (intro _)))
          refine Exists.intro [] (Exists.intro (i + 1, n) (And.intro ⟨hi, by simp only; rw [hlc, hu]; exact hI, Nat.lt_of_lt_of_le hn (Nat.pow_le_pow_right (by omega) (by simp))⟩ (And.intro ?_ ?_)))
          · (repeat' (first | exact trivial | exact Or.inl rfl | exact Or.inr (Or.inl ⟨rfl, _, rfl⟩) | exact Or.inr (Or.inr (Or.inr ⟨_, _, _, rfl, rfl⟩)) | refine And.intro ?_ ?_))
          · (exact Nat.sub_lt_sub_left (by omega) (by omega))
      · rw [if_neg hu] at hI
        have hun : ¬ (u.getD i 0).toNat = 95 := fun h => hu (UInt8.toNat_inj.1 h)
        have hx := s_hexOf (u.getD i 0)
        have hd100 := dgt_lt (u.getD i 0)
        generalize dgt (u.getD i 0) = d at hI hx hd100
        (repeat' (first | (refine And.intro (fun h => ?_) (fun h => ?_) <;> (try simp [-List.getD_eq_getElem?_getD, -Int.pred_toNat] at h) <;> (try (exfalso; first | omega | contradiction))) | (refine And.intro (rng64 (by omega) (by omega)) ?_) | (refine And.intro ⟨by omega, by omega⟩ ?_) | (refine And.intro ⟨by omega, by omega, by omega⟩ ?_) | (intro _)))
        refine Or.inl (Exists.intro _ (And.intro (hx) ?_))
        by_cases hd : b ≤ d
        · rw [if_pos hd] at hI
          rw [← hI]
          (repeat' (first | (refine And.intro (fun h => ?_) (fun h => ?_) <;> (try simp [-List.getD_eq_getElem?_getD, -Int.pred_toNat] at h) <;> (try (exfalso; first | omega | contradiction))) | (refine And.intro (rng64 (by omega) (by omega)) ?_) | (refine And.intro ⟨by omega, by omega⟩ ?_) | (refine And.intro ⟨by omega, by omega, by omega⟩ ?_) | (intro _)))
          (repeat' (first | exact trivial | exact Or.inl rfl | exact Or.inr ⟨rfl, _, rfl⟩ | refine And.intro ?_ ?_))
        · rw [if_neg hd] at hI
          have hwb : IntKind.u64.wrap (b : Int) = (b : Int) := by rw [IntKind.wrap_u64]; omega
          have hwd : IntKind.u64.wrap (d : Int) = (d : Int) := by rw [IntKind.wrap_u64]; omega
          have hn2 : n * b + d < b ^ (i + 1) := by
            have : (n + 1) * b ≤ b ^ i * b := Nat.mul_le_mul_right b hn
            rw [Nat.add_mul] at this
            rw [Nat.pow_succ]
            omega
          have hbig : b ^ (i + 1) ≤ 16 ^ 80 := Nat.le_trans (Nat.pow_le_pow_left hb2 _) (Nat.pow_le_pow_right (by decide) (by omega))
          have hl1 : (dg 10000 n).length ≤ 100 := dg_len_le (by decide) 100 n (Nat.lt_of_lt_of_le (show n < 16 ^ 80 by have : n ≤ n * b := Nat.le_mul_of_pos_right n (by omega); omega) (by decide))
          have hl2 : (dg 10000 b).length ≤ 100 := dg_len_le (by decide) 100 b (Nat.lt_of_lt_of_le (show b < 16 ^ 80 from Nat.lt_of_le_of_lt hb2 (by decide)) (by decide))
          have hl3 : (dg 10000 (n * b)).length ≤ 100 := dg_len_le (by decide) 100 _ (Nat.lt_of_lt_of_le (show n * b < 16 ^ 80 by omega) (by decide))
          have hl4 : (dg 10000 d).length ≤ 100 := dg_len_le (by decide) 100 d (Nat.lt_of_lt_of_le (show d < 16 ^ 80 from Nat.lt_trans hd100 (by decide)) (by decide))
          have hS : PSpec Tryd.prog 167 [.i .u64 (IntKind.u64.wrap (b : Int))] (.rd .int (dg 10000 b)) := by rw [hwb]; exact s_small b (by omega)
          have hBy := s_By (dg 10000 n) (dg 10000 b) (dg_Dg (by decide) _) (dg_Dg (by decide) _) (by omega) (by omega)
          rw [vl_dg (by decide), vl_dg (by decide)] at hBy
          have hS2 : PSpec Tryd.prog 167 [.i .u64 (IntKind.u64.wrap (d : Int))] (.rd .int (dg 10000 d)) := by rw [hwd]; exact s_small d (by omega)
          have hPl := s_plus (dg 10000 (n * b)) (dg 10000 d) (dg_Dg (by decide) _) (dg_Dg (by decide) _) (by omega) (by omega)
          rw [vl_dg (by decide), vl_dg (by decide)] at hPl
          (repeat' (first | (refine And.intro (fun h => ?_) (fun h => ?_) <;> (try simp [-List.getD_eq_getElem?_getD, -Int.pred_toNat] at h) <;> (try (exfalso; first | omega | contradiction))) | (refine And.intro (rng64 (by omega) (by omega)) ?_) | (refine And.intro ⟨by omega, by omega⟩ ?_) | (refine And.intro ⟨by omega, by omega, by omega⟩ ?_) | (intro _)))
          refine Or.inl (Exists.intro _ (And.intro (hS) ?_))
          refine Or.inl (Exists.intro _ (And.intro (hBy) ?_))
          refine Or.inl (Exists.intro _ (And.intro (hS2) ?_))
          refine Or.inl (Exists.intro _ (And.intro (hPl) ?_))
          (repeat' (first | (refine And.intro (fun h => ?_) (fun h => ?_) <;> (try simp [-List.getD_eq_getElem?_getD, -Int.pred_toNat] at h) <;> (try (exfalso; first | omega | contradiction))) | (refine And.intro (rng64 (by omega) (by omega)) ?_) | (refine And.intro ⟨by omega, by omega⟩ ?_) | (refine And.intro ⟨by omega, by omega, by omega⟩ ?_) | (intro _)))
          refine Exists.intro [] (Exists.intro (i + 1, n * b + d) (And.intro ⟨hi, by simp only; rw [hlc]; exact hI, hn2⟩ (And.intro ?_ ?_)))
          · (repeat' (first | exact trivial | exact Or.inl rfl | exact Or.inr (Or.inl ⟨rfl, _, rfl⟩) | exact Or.inr (Or.inr (Or.inr ⟨_, _, _, rfl, rfl⟩)) | refine And.intro ?_ ?_))
          · (exact Nat.sub_lt_sub_left (by omega) (by omega))
    · have hi : i = u.length := by have : ¬ (i : Int) < (u.length : Int) := of_decide_eq_false hc
                                   omega
      subst hi
      rw [List.drop_length, numN, if_neg (by unfold lastC; rw [if_neg (by omega)]; exact h9)] at hI
      rw [← hI]
      (repeat' (first | (refine And.intro (fun h => ?_) (fun h => ?_) <;> (try simp [-List.getD_eq_getElem?_getD, -Int.pred_toNat] at h) <;> (try (exfalso; first | omega | contradiction))) | (refine And.intro (rng64 (by omega) (by omega)) ?_) | (refine And.intro ⟨by omega, by omega⟩ ?_) | (refine And.intro ⟨by omega, by omega, by omega⟩ ?_) | (intro _)))
      (repeat' (first | exact trivial | exact Or.inl rfl | exact Or.inr ⟨rfl, _, rfl⟩ | refine And.intro ?_ ?_))
theorem s_numeral (s : Str) (hs : s.length ≤ 80) : PSpec Tryd.prog 128 [.s s] (.tup [.b (minusS s), .rd .int (match bareV (restS s) with | none => [] | some n => dg 10000 n), .b (bareV (restS s)).isSome]) :=
  pspec_of_VCsL Γ_good Tryd.func128 rfl Tryd.call128 Tryd.results128 Tryd.ntmps128 (Nat.le_of_ble_eq_true rfl) (w_numeral s hs) Γ_good
end
end Go.Proofs.YtmfchbkdakmjhaaDoor
end
section
namespace Go.Proofs.YtmfchbkdakmjhaaDoor
set_option linter.unusedSectionVars false
set_option linter.unusedSimpArgs false
set_option linter.unusedVariables false
open Go Go.SX Go.Bg Go.Nm
set_option maxRecDepth 100000
set_option maxHeartbeats 1000000
theorem front_base (t : Str) : 2 ≤ (frontB t).1 ∧ (frontB t).1 ≤ 16 ∧ (frontB t).2.length ≤ t.length := by
  match t with
  | [] => exact ⟨by decide, by decide, Nat.le_refl _⟩
  | [c] => exact ⟨by simp [frontB], by simp [frontB], by simp [frontB]⟩
  | c :: d :: r =>
    have e0 : frontB (c :: d :: r) = if c = 48 ∧ d = 120 then (16, r) else if c = 48 ∧ d = 111 then (8, r) else if c = 48 ∧ d = 98 then (2, r) else (10, c :: d :: r) := rfl
    rw [e0]
    have hr : r.length ≤ (c :: d :: r).length := by simp; omega
    by_cases h1 : c = 48 ∧ d = 120
    · rw [if_pos h1]; exact ⟨by simp, by simp, hr⟩
    rw [if_neg h1]
    by_cases h2 : c = 48 ∧ d = 111
    · rw [if_pos h2]; exact ⟨by simp, by simp, hr⟩
    rw [if_neg h2]
    by_cases h3 : c = 48 ∧ d = 98
    · rw [if_pos h3]; exact ⟨by simp, by simp, hr⟩
    rw [if_neg h3]; exact ⟨by simp, by simp, Nat.le_refl _⟩
theorem rest_len (s : Str) : (restS s).length ≤ s.length := by
  unfold restS
  split
  · rw [List.length_drop]; omega
  · exact Nat.le_refl _
theorem bare_bound {s : Str} {n : Nat} (hs : s.length ≤ 80) (h : bareV s = some n) : n < 16 ^ 80 := by
  unfold bareV at h
  split at h
  · cases h
  · obtain ⟨h1, h2, h3⟩ := front_base s
    have := numN_bound (by omega) _ _ _ _ h
    refine Nat.lt_of_lt_of_le this ?_
    rw [Nat.zero_add, Nat.one_mul]
    exact Nat.le_trans (Nat.pow_le_pow_left h2 _) (Nat.pow_le_pow_right (by decide) (by omega))
theorem dg_len_big {n : Nat} (h : n < 16 ^ 80) : (dg 10000 n).length ≤ 100 := dg_len_le (by decide) 100 n (Nat.lt_of_lt_of_le h (by decide))
theorem readV_long {s : Str} (h : 80 < s.length) : readV s = (0, 2) := by unfold readV; rw [if_pos h]
theorem readV_none {s : Str} (h : ¬ 80 < s.length) (hb : bareV (restS s) = none) : readV s = (0, 4) := by unfold readV; rw [if_neg h, hb]
theorem readV_some {s : Str} {n : Nat} (h : ¬ 80 < s.length) (hb : bareV (restS s) = some n) : readV s = if limN (minusS s) < n then (0, 7) else (if minusS s = true then -(n : Int) else n, 0) := by unfold readV; rw [if_neg h, hb]
theorem vl_drop_le (l : List Int) (k : Nat) (hk : k ≤ l.length) : vl 10000 (l.drop k) ≤ vl 10000 l := by
  rw [vl_split 10000 l k hk]
  have := Nat.le_mul_of_pos_left (vl 10000 (l.drop k)) (Nat.pow_pos (n := k) (show 0 < 10000 by decide))
  omega
section
variable [G : Globs]
theorem w_readNum (s : Str) : vc Tryd.prog Γ 55 [0, 2, 3, 4, 5, 6, 7, 8, 9, 10, 13, 21, 35, 40, 51] (Tryd.f90.body.getD .skip) (postK Γ [.tmp 2, .tmp 3] (fun v => v = .tup [.i .i64 (readV s).1, .i .i64 (readV s).2])) ⟨argSlots 0 [.s s], []⟩ := by
  intro _
  refine And.intro (fun h => ?_) (fun h => ?_)
  · have h : 80 < s.length := by have : (s.length : Int) > 80 := of_decide_eq_true h; omega
    rw [readV_long h]
    rfl
  have h : ¬ 80 < s.length := by have : ¬ (s.length : Int) > 80 := of_decide_eq_false h; omega
  have hN := s_numeral s (by omega)
  cases hb : bareV (restS s) with
  | none =>
    rw [hb] at hN
    rw [readV_none h hb]
    have hN : PSpec Tryd.prog 128 [.s s] (.tup [.b (minusS s), .rd .int [], .b false]) := hN
    refine Or.inl (Exists.intro _ (And.intro (hN) ?_))
    (repeat' (first | (refine And.intro (fun h => ?_) (fun h => ?_) <;> (try simp [-List.getD_eq_getElem?_getD, -Int.pred_toNat] at h) <;> (try (exfalso; first | omega | contradiction))) | (refine And.intro (rng64 (by omega) (by omega)) ?_) | (refine And.intro ⟨by omega, by omega⟩ ?_) | (refine And.intro ⟨by omega, by omega, by omega⟩ ?_) | (intro _)))
    rfl
  | some n =>
    rw [hb] at hN
    rw [readV_some h hb]
    have hN : PSpec Tryd.prog 128 [.s s] (.tup [.b (minusS s), .rd .int (dg 10000 n), .b true]) := hN
    have hn := bare_bound (by have := rest_len s; omega) hb
    have hl := dg_len_big hn
    generalize minusS s = m at hN
    refine Or.inl (Exists.intro _ (And.intro (hN) ?_))
    refine And.intro (fun h9 => by cases h9) (fun _ => ?_)
    have hP : PSpec Tryd.prog 129 [.i .u64 2, .i .i64 63] (.rd .int (dg 10000 (2 ^ 63))) := s_power 2 63 (by decide) (by decide) (fun k hk => Nat.le_trans (dg_len_le (B := 10000) (by decide) 16 _ (Nat.lt_of_le_of_lt (Nat.pow_le_pow_right (by decide) hk) (show 2 ^ 63 < 10000 ^ 16 by decide))) (by decide))
    refine Or.inl (Exists.intro _ (And.intro (hP) ?_))
    have hlp := dg_len_le (B := 10000) (by decide) 16 (2 ^ 63) (by decide)
    have hA := s_against (dg 10000 n) (dg 10000 (2 ^ 63)) (dg_Dg (by decide) _) (dg_Dg (by decide) _) (by omega) (by omega)
    rw [vl_dg (by decide), vl_dg (by decide)] at hA
    obtain ⟨c, hc⟩ : ∃ c, c = cmpN n (2 ^ 63) := ⟨_, rfl⟩
    rw [← hc] at hA
    unfold cmpN at hc
    refine Or.inl (Exists.intro _ (And.intro (hA) ?_))
    have hll := vl_dg (B := 10000) (by decide) n
    have hDg := dg_Dg (B := 10000) (by decide) n
    generalize dg 10000 n = l at hl hll hDg
    by_cases hA : 2 ^ 63 < n
    · have hc : c = 1 := by rw [hc, if_neg (by omega), if_pos hA]
      rw [if_pos (by unfold limN; split <;> omega)]
      (repeat' (first | (refine And.intro (fun h => ?_) (fun h => ?_) <;> (try simp [-List.getD_eq_getElem?_getD, -Int.pred_toNat] at h) <;> (try (exfalso; first | omega | contradiction))) | (refine And.intro (rng64 (by omega) (by omega)) ?_) | (refine And.intro ⟨by omega, by omega⟩ ?_) | (refine And.intro ⟨by omega, by omega, by omega⟩ ?_) | (intro _)))
      rfl
    by_cases hB : n = 2 ^ 63 ∧ m = false
    · have hc : c = 0 := by rw [hc, if_neg (by omega), if_neg (by omega)]
      obtain ⟨hB, rfl⟩ := hB
      rw [if_pos (by unfold limN; rw [if_neg (by decide)]; omega)]
      (repeat' (first | (refine And.intro (fun h => ?_) (fun h => ?_) <;> (try simp [-List.getD_eq_getElem?_getD, -Int.pred_toNat] at h) <;> (try (exfalso; first | omega | contradiction))) | (refine And.intro (rng64 (by omega) (by omega)) ?_) | (refine And.intro ⟨by omega, by omega⟩ ?_) | (refine And.intro ⟨by omega, by omega, by omega⟩ ?_) | (intro _)))
      rfl
    have hlim : ¬ limN m < n := by
      unfold limN
      cases m with
      | true => simp only [if_true]; omega
      | false =>
        have h2 : ¬ n = 2 ^ 63 := fun h => hB ⟨h, rfl⟩
        simp only [Bool.false_eq_true, if_false]
        omega
    rw [if_neg hlim]
    have hgo : ¬ 0 < c ∧ (c = 0 → m = true) := by
      by_cases hlt : n < 2 ^ 63
      · rw [if_pos hlt] at hc; exact ⟨by omega, by omega⟩
      · have : n = 2 ^ 63 := by omega
        rw [if_neg hlt, if_neg hA] at hc
        refine ⟨by omega, fun _ => ?_⟩
        cases m with
        | true => rfl
        | false => exact absurd ⟨this, rfl⟩ hB
    have hn63 : n ≤ 9223372036854775808 := by omega
    have hm63 : m = false → n < 9223372036854775808 := fun h => by
      unfold limN at hlim
      rw [h, if_neg (by decide)] at hlim
      omega
    clear hN hP hc hB hA hlim hb hn
    rcases Int.lt_trichotomy c 0 with hc | hc | hc
    · (repeat' (first | (refine And.intro (fun h => ?_) (fun h => ?_) <;> (try simp [-List.getD_eq_getElem?_getD, -Int.pred_toNat] at h) <;> (try (exfalso; first | omega | contradiction))) | (refine And.intro (rng64 (by omega) (by omega)) ?_) | (refine And.intro ⟨by omega, by omega⟩ ?_) | (refine And.intro ⟨by omega, by omega, by omega⟩ ?_) | (intro _)))
      refine Exists.intro [] (Exists.intro [] (Exists.intro [] (Exists.intro Nat (Exists.intro (fun k => k ≤ l.length) (Exists.intro (fun k => ⟨[(4, .b m), (5, .rd .int l), (9, .i .i64 (-(vl 10000 (l.drop k) : Int))), (10, .i .i64 ((k : Int) - 1))], []⟩) (Exists.intro (fun k => k) (Exists.intro l.length (And.intro (Nat.le_refl _) (And.intro ?_ ?_)))))))))
      · (repeat' (first | exact trivial | exact Or.inl rfl | exact Or.inl ((congrArg (AV.i .i64) (show (0 : Int) = -((vl 10000 (l.drop l.length) : Nat) : Int) by rw [List.drop_length]; rfl))) | refine And.intro ?_ ?_))
      · rintro k hk
        refine And.intro (fun hc => ?_) (fun hc => ?_)
        · have hk0 : 0 < k := by have : (k : Int) - 1 ≥ 0 := of_decide_eq_true hc
                                 omega
          obtain ⟨j, rfl⟩ : ∃ j, k = j + 1 := ⟨k - 1, by omega⟩
          have hv := vl_drop 10000 l j
          have hle := vl_drop_le l j (by omega)
          have hg := hDg.getD (by decide) j
          have hij : Int.toNat (((j + 1 : Nat) : Int) - 1) = j := by omega
          generalize vl 10000 (l.drop (j + 1)) = V at hv
          have hV : ((vl 10000 (l.drop j) : Nat) : Int) = l.getD j 0 + 10000 * (V : Int) := by omega
          have hgl : l.getD (Int.toNat (((j + 1 : Nat) : Int) - 1)) (dflt .int) = l.getD j 0 := by rw [hij]
          (repeat' (first | (refine And.intro (fun h => ?_) (fun h => ?_) <;> (try simp [-List.getD_eq_getElem?_getD, -Int.pred_toNat] at h) <;> (try (exfalso; first | omega | contradiction))) | (refine And.intro (rng64 (by omega) (by omega)) ?_) | (refine And.intro ⟨by omega, by omega⟩ ?_) | (refine And.intro ⟨by omega, by omega, by omega⟩ ?_) | (intro _)))
          rw [hgl]
          refine Exists.intro [] (Exists.intro j (And.intro (by omega) (And.intro ?_ ?_)))
          · (repeat' (first | exact trivial | exact Or.inl rfl | exact Or.inl ((congrArg (AV.i .i64) (show -(V : Int) * 10000 - l.getD j 0 = -((vl 10000 (l.drop j) : Nat) : Int) by omega))) | exact Or.inl ((congrArg (AV.i .i64) (show ((j + 1 : Nat) : Int) - 1 - 1 = (j : Int) - 1 by omega))) | refine And.intro ?_ ?_))
          · exact Nat.lt_succ_self j
        · have hk0 : k = 0 := by have : ¬ (k : Int) - 1 ≥ 0 := of_decide_eq_false hc
                                 omega
          subst hk0
          have hv0 : vl 10000 (l.drop 0) = n := hll
          rw [hv0]
          cases m with
          | true =>
            (repeat' (first | (refine And.intro (fun h => ?_) (fun h => ?_) <;> (try simp [-List.getD_eq_getElem?_getD, -Int.pred_toNat] at h) <;> (try (exfalso; first | omega | contradiction))) | (refine And.intro (rng64 (by omega) (by omega)) ?_) | (refine And.intro ⟨by omega, by omega⟩ ?_) | (refine And.intro ⟨by omega, by omega, by omega⟩ ?_) | (intro _)))
            rfl
          | false =>
            have h63 := hm63 rfl
            (repeat' (first | (refine And.intro (fun h => ?_) (fun h => ?_) <;> (try simp [-List.getD_eq_getElem?_getD, -Int.pred_toNat] at h) <;> (try (exfalso; first | omega | contradiction))) | (refine And.intro (rng64 (by omega) (by omega)) ?_) | (refine And.intro ⟨by omega, by omega⟩ ?_) | (refine And.intro ⟨by omega, by omega, by omega⟩ ?_) | (intro _)))
            refine Or.inl (And.intro (rng64 (by omega) (by omega)) ?_)
            show AV.tup [.i .i64 (0 - -(n : Int)), .i .i64 0] = AV.tup [.i .i64 (n : Int), .i .i64 0]
            rw [show (0 : Int) - -(n : Int) = n by omega]
    · have hm := hgo.2 hc
      subst hm
      (repeat' (first | (refine And.intro (fun h => ?_) (fun h => ?_) <;> (try simp [-List.getD_eq_getElem?_getD, -Int.pred_toNat] at h) <;> (try (exfalso; first | omega | contradiction))) | (refine And.intro (rng64 (by omega) (by omega)) ?_) | (refine And.intro ⟨by omega, by omega⟩ ?_) | (refine And.intro ⟨by omega, by omega, by omega⟩ ?_) | (intro _)))
      refine Exists.intro [] (Exists.intro [] (Exists.intro [] (Exists.intro Nat (Exists.intro (fun k => k ≤ l.length) (Exists.intro (fun k => ⟨[(4, .b true), (5, .rd .int l), (9, .i .i64 (-(vl 10000 (l.drop k) : Int))), (10, .i .i64 ((k : Int) - 1))], []⟩) (Exists.intro (fun k => k) (Exists.intro l.length (And.intro (Nat.le_refl _) (And.intro ?_ ?_)))))))))
      · (repeat' (first | exact trivial | exact Or.inl rfl | exact Or.inl ((congrArg (AV.i .i64) (show (0 : Int) = -((vl 10000 (l.drop l.length) : Nat) : Int) by rw [List.drop_length]; rfl))) | refine And.intro ?_ ?_))
      · rintro k hk
        refine And.intro (fun hc => ?_) (fun hc => ?_)
        · have hk0 : 0 < k := by have : (k : Int) - 1 ≥ 0 := of_decide_eq_true hc
                                 omega
          obtain ⟨j, rfl⟩ : ∃ j, k = j + 1 := ⟨k - 1, by omega⟩
          have hv := vl_drop 10000 l j
          have hle := vl_drop_le l j (by omega)
          have hg := hDg.getD (by decide) j
          have hij : Int.toNat (((j + 1 : Nat) : Int) - 1) = j := by omega
          generalize vl 10000 (l.drop (j + 1)) = V at hv
          have hV : ((vl 10000 (l.drop j) : Nat) : Int) = l.getD j 0 + 10000 * (V : Int) := by omega
          have hgl : l.getD (Int.toNat (((j + 1 : Nat) : Int) - 1)) (dflt .int) = l.getD j 0 := by rw [hij]
          (repeat' (first | (refine And.intro (fun h => ?_) (fun h => ?_) <;> (try simp [-List.getD_eq_getElem?_getD, -Int.pred_toNat] at h) <;> (try (exfalso; first | omega | contradiction))) | (refine And.intro (rng64 (by omega) (by omega)) ?_) | (refine And.intro ⟨by omega, by omega⟩ ?_) | (refine And.intro ⟨by omega, by omega, by omega⟩ ?_) | (intro _)))
          rw [hgl]
          refine Exists.intro [] (Exists.intro j (And.intro (by omega) (And.intro ?_ ?_)))
          · (repeat' (first | exact trivial | exact Or.inl rfl | exact Or.inl ((congrArg (AV.i .i64) (show -(V : Int) * 10000 - l.getD j 0 = -((vl 10000 (l.drop j) : Nat) : Int) by omega))) | exact Or.inl ((congrArg (AV.i .i64) (show ((j + 1 : Nat) : Int) - 1 - 1 = (j : Int) - 1 by omega))) | refine And.intro ?_ ?_))
          · exact Nat.lt_succ_self j
        · have hk0 : k = 0 := by have : ¬ (k : Int) - 1 ≥ 0 := of_decide_eq_false hc
                                 omega
          subst hk0
          have hv0 : vl 10000 (l.drop 0) = n := hll
          rw [hv0]
          (repeat' (first | (refine And.intro (fun h => ?_) (fun h => ?_) <;> (try simp [-List.getD_eq_getElem?_getD, -Int.pred_toNat] at h) <;> (try (exfalso; first | omega | contradiction))) | (refine And.intro (rng64 (by omega) (by omega)) ?_) | (refine And.intro ⟨by omega, by omega⟩ ?_) | (refine And.intro ⟨by omega, by omega, by omega⟩ ?_) | (intro _)))
          rfl
    · exact absurd hc hgo.1
theorem s_readNum (s : Str) : PSpec Tryd.prog 90 [.s s] (.tup [.i .i64 (readV s).1, .i .i64 (readV s).2]) :=
  pspec_of_vc Γ_good Tryd.func90 rfl Tryd.call90 Tryd.results90 Tryd.ntmps90 (Nat.le_of_ble_eq_true rfl) (w_readNum s)
end
end Go.Proofs.YtmfchbkdakmjhaaDoor
end
section
namespace Go.Proofs.YtmfchbkdakmjhaaDoor
set_option linter.unusedSectionVars false
set_option linter.unusedSimpArgs false
set_option linter.unusedVariables false
open Go Go.SX Go.Bg Go.Nm
set_option maxRecDepth 100000
set_option maxHeartbeats 1000000
theorem pre_minus (s : Str) : isPre [45] s = minusS s := by
  unfold isPre minusS
  match s with
  | [] => rfl
  | c :: r =>
    show decide (1 ≤ (c :: r).length ∧ [c] = [45]) = decide (c = 45)
    simp
theorem cut_minus (s : Str) : cutP [45] s = restS s := by
  unfold cutP restS
  rw [pre_minus]
  rfl
theorem pre_two (a b : UInt8) (s : Str) : isPre [a, b] s = decide (1 < s.length ∧ s.getD 0 0 = a ∧ s.getD 1 0 = b) := by
  unfold isPre
  match s with
  | [] => rfl
  | [c] => rfl
  | c :: d :: r =>
    show decide (2 ≤ (c :: d :: r).length ∧ [c, d] = [a, b]) = decide (1 < (c :: d :: r).length ∧ c = a ∧ d = b)
    simp
theorem or_pos {a b : Int} (ha : 0 ≤ a ∧ a ≤ 18446744073709551615) (hb : 0 ≤ b ∧ b ≤ 18446744073709551615) :
    0 ≤ bits .or .u64 a b ∧ bits .or .u64 a b ≤ 18446744073709551615 ∧ (0 < bits .or .u64 a b ↔ 0 < a ∨ 0 < b) := by
  obtain ⟨x, rfl⟩ := Int.eq_ofNat_of_zero_le ha.1
  obtain ⟨y, rfl⟩ := Int.eq_ofNat_of_zero_le hb.1
  have hx : x < 2 ^ 64 := by omega
  have hy : y < 2 ^ 64 := by omega
  have h1 : (BitVec.ofInt 64 (x : Int)).toNat = x := by
    rw [BitVec.ofInt_natCast, BitVec.toNat_ofNat]; exact Nat.mod_eq_of_lt hx
  have h2 : (BitVec.ofInt 64 (y : Int)).toNat = y := by
    rw [BitVec.ofInt_natCast, BitVec.toNat_ofNat]; exact Nat.mod_eq_of_lt hy
  have ho : x ||| y < 2 ^ 64 := Nat.or_lt_two_pow hx hy
  have e : bits .or .u64 (x : Int) (y : Int) = ((x ||| y : Nat) : Int) := by
    show IntKind.u64.wrap ((BitVec.ofInt 64 (x : Int) ||| BitVec.ofInt 64 (y : Int)).toNat : Int) = _
    rw [BitVec.toNat_or, h1, h2, IntKind.wrap_u64]
    omega
  rw [e]
  have h0 : (x ||| y) = 0 ↔ x = 0 ∧ y = 0 := Nat.or_eq_zero_iff
  omega
theorem front_eq (s : Str) : frontB s = if isPre [48, 120] s = true then (16, s.drop 2) else if isPre [48, 111] s = true then (8, s.drop 2) else if isPre [48, 98] s = true then (2, s.drop 2) else (10, s) := by
  rw [pre_two, pre_two, pre_two]
  match s with
  | [] => rfl
  | [c] => rfl
  | c :: d :: r =>
    have e0 : frontB (c :: d :: r) = if c = 48 ∧ d = 120 then (16, r) else if c = 48 ∧ d = 111 then (8, r) else if c = 48 ∧ d = 98 then (2, r) else (10, c :: d :: r) := rfl
    have hp : ∀ x : UInt8, (decide (1 < (c :: d :: r).length ∧ (c :: d :: r).getD 0 0 = 48 ∧ (c :: d :: r).getD 1 0 = x) = true) = (c = 48 ∧ d = x) := fun x => by
      rw [decide_eq_true_eq]
      exact propext ⟨fun h => h.2, fun h => ⟨by simp, h⟩⟩
    rw [e0]
    simp only [hp]
    rfl
theorem neg_wrap {N : Nat} (h : N ≤ 9223372036854775808) : IntKind.i64.wrap (0 - IntKind.i64.wrap (N : Int)) = -(N : Int) := by
  by_cases hN : N = 9223372036854775808
  · subst hN
    rw [IntKind.wrap_i64, IntKind.wrap_i64]
    decide
  · have h1 : IntKind.i64.wrap (N : Int) = N := by rw [IntKind.wrap_i64]; omega
    rw [h1, IntKind.wrap_i64]
    omega
section
variable [G : Globs]
/-- the fronts that tell a base -/
def fronts : List (Str × Int) := [([48, 120], 16), ([48, 111], 8), ([48, 98], 2)]
theorem w_base (s : Str) : vc Tryd.prog Γ 30 [0, 2, 3, 5, 6, 7, 11, 12, 13, 14, 24] (Tryd.f162.body.getD .skip) (postK Γ [.tmp 2, .tmp 3] (fun v => v = .tup [.i .u64 ((frontB s).1 : Int), .s (frontB s).2])) ⟨argSlots 0 [.s s], []⟩ := by
  rw [front_eq]
  (repeat' (first | (refine And.intro (fun h => ?_) (fun h => ?_) <;> (try simp [-List.getD_eq_getElem?_getD, -Int.pred_toNat] at h) <;> (try (exfalso; first | omega | contradiction))) | (refine And.intro (rng64 (by omega) (by omega)) ?_) | (refine And.intro ⟨by omega, by omega⟩ ?_) | (refine And.intro ⟨by omega, by omega, by omega⟩ ?_) | (intro _)))
  refine Exists.intro [] (Exists.intro [] (Exists.intro [] (Exists.intro Nat (Exists.intro (fun i => i ≤ 3 ∧ (1 ≤ i → isPre [48, 120] s = false) ∧ (2 ≤ i → isPre [48, 111] s = false) ∧ (3 ≤ i → isPre [48, 98] s = false)) (Exists.intro (fun i => ⟨[(0, .s s), (2, .i .u64 0), (3, .s []), (11, .vec 11 .frt fronts), (12, .i .i64 3), (13, .i .i64 (i : Int))], []⟩) (Exists.intro (fun i => 3 - i) (Exists.intro 0 (And.intro ⟨by decide, fun h => absurd h (by decide), fun h => absurd h (by decide), fun h => absurd h (by decide)⟩ (And.intro ?_ ?_)))))))))
  · (repeat' (first | exact trivial | exact Or.inl rfl | exact Or.inr (Or.inl ⟨rfl, _, rfl⟩) | exact Or.inr (Or.inr (Or.inr ⟨_, _, _, rfl, rfl⟩)) | refine And.intro ?_ ?_))
  · rintro i ⟨hi, h1, h2, h3⟩
    rcases (show i = 0 ∨ i = 1 ∨ i = 2 ∨ i = 3 by omega) with rfl | rfl | rfl | rfl
    · (repeat' (first | (refine And.intro (fun h => ?_) (fun h => ?_) <;> (try simp [-List.getD_eq_getElem?_getD, -Int.pred_toNat] at h) <;> (try (exfalso; first | omega | contradiction))) | (refine And.intro (rng64 (by omega) (by omega)) ?_) | (refine And.intro ⟨by omega, by omega⟩ ?_) | (refine And.intro ⟨by omega, by omega, by omega⟩ ?_) | (intro _)))
      refine And.intro ⟨by decide, by decide⟩ ?_
      refine Or.inl (Exists.intro _ (And.intro (s_cutPre s [48, 120]) ?_))
      cases hp : isPre [48, 120] s with
      | true =>
        unfold cutP
        rw [hp]
        (repeat' (first | (refine And.intro (fun h => ?_) (fun h => ?_) <;> (try simp [-List.getD_eq_getElem?_getD, -Int.pred_toNat] at h) <;> (try (exfalso; first | omega | contradiction))) | (refine And.intro (rng64 (by omega) (by omega)) ?_) | (refine And.intro ⟨by omega, by omega⟩ ?_) | (refine And.intro ⟨by omega, by omega, by omega⟩ ?_) | (intro _)))
        rfl
      | false =>
        (repeat' (first | (refine And.intro (fun h => ?_) (fun h => ?_) <;> (try simp [-List.getD_eq_getElem?_getD, -Int.pred_toNat] at h) <;> (try (exfalso; first | omega | contradiction))) | (refine And.intro (rng64 (by omega) (by omega)) ?_) | (refine And.intro ⟨by omega, by omega⟩ ?_) | (refine And.intro ⟨by omega, by omega, by omega⟩ ?_) | (intro _)))
        refine Exists.intro [] (Exists.intro 1 (And.intro ⟨by decide, fun _ => rfl, fun h => absurd h (by decide), fun h => absurd h (by decide)⟩ (And.intro ?_ ?_)))
        · (repeat' (first | exact trivial | exact Or.inl rfl | exact Or.inr (Or.inl ⟨rfl, _, rfl⟩) | exact Or.inr (Or.inr (Or.inr ⟨_, _, _, rfl, rfl⟩)) | refine And.intro ?_ ?_))
        · show 3 - 1 < 3 - 0
          decide
    · (repeat' (first | (refine And.intro (fun h => ?_) (fun h => ?_) <;> (try simp [-List.getD_eq_getElem?_getD, -Int.pred_toNat] at h) <;> (try (exfalso; first | omega | contradiction))) | (refine And.intro (rng64 (by omega) (by omega)) ?_) | (refine And.intro ⟨by omega, by omega⟩ ?_) | (refine And.intro ⟨by omega, by omega, by omega⟩ ?_) | (intro _)))
      refine And.intro ⟨by decide, by decide⟩ ?_
      refine Or.inl (Exists.intro _ (And.intro (s_cutPre s [48, 111]) ?_))
      cases hp : isPre [48, 111] s with
      | true =>
        rw [h1 (by decide)]
        unfold cutP
        rw [hp]
        (repeat' (first | (refine And.intro (fun h => ?_) (fun h => ?_) <;> (try simp [-List.getD_eq_getElem?_getD, -Int.pred_toNat] at h) <;> (try (exfalso; first | omega | contradiction))) | (refine And.intro (rng64 (by omega) (by omega)) ?_) | (refine And.intro ⟨by omega, by omega⟩ ?_) | (refine And.intro ⟨by omega, by omega, by omega⟩ ?_) | (intro _)))
        rfl
      | false =>
        (repeat' (first | (refine And.intro (fun h => ?_) (fun h => ?_) <;> (try simp [-List.getD_eq_getElem?_getD, -Int.pred_toNat] at h) <;> (try (exfalso; first | omega | contradiction))) | (refine And.intro (rng64 (by omega) (by omega)) ?_) | (refine And.intro ⟨by omega, by omega⟩ ?_) | (refine And.intro ⟨by omega, by omega, by omega⟩ ?_) | (intro _)))
        refine Exists.intro [] (Exists.intro 2 (And.intro ⟨by decide, fun _ => h1 (by decide), fun _ => rfl, fun h => absurd h (by decide)⟩ (And.intro ?_ ?_)))
        · (repeat' (first | exact trivial | exact Or.inl rfl | exact Or.inr (Or.inl ⟨rfl, _, rfl⟩) | exact Or.inr (Or.inr (Or.inr ⟨_, _, _, rfl, rfl⟩)) | refine And.intro ?_ ?_))
        · show 3 - 2 < 3 - 1
          decide
    · (repeat' (first | (refine And.intro (fun h => ?_) (fun h => ?_) <;> (try simp [-List.getD_eq_getElem?_getD, -Int.pred_toNat] at h) <;> (try (exfalso; first | omega | contradiction))) | (refine And.intro (rng64 (by omega) (by omega)) ?_) | (refine And.intro ⟨by omega, by omega⟩ ?_) | (refine And.intro ⟨by omega, by omega, by omega⟩ ?_) | (intro _)))
      refine And.intro ⟨by decide, by decide⟩ ?_
      refine Or.inl (Exists.intro _ (And.intro (s_cutPre s [48, 98]) ?_))
      cases hp : isPre [48, 98] s with
      | true =>
        rw [h1 (by decide), h2 (by decide)]
        unfold cutP
        rw [hp]
        (repeat' (first | (refine And.intro (fun h => ?_) (fun h => ?_) <;> (try simp [-List.getD_eq_getElem?_getD, -Int.pred_toNat] at h) <;> (try (exfalso; first | omega | contradiction))) | (refine And.intro (rng64 (by omega) (by omega)) ?_) | (refine And.intro ⟨by omega, by omega⟩ ?_) | (refine And.intro ⟨by omega, by omega, by omega⟩ ?_) | (intro _)))
        rfl
      | false =>
        (repeat' (first | (refine And.intro (fun h => ?_) (fun h => ?_) <;> (try simp [-List.getD_eq_getElem?_getD, -Int.pred_toNat] at h) <;> (try (exfalso; first | omega | contradiction))) | (refine And.intro (rng64 (by omega) (by omega)) ?_) | (refine And.intro ⟨by omega, by omega⟩ ?_) | (refine And.intro ⟨by omega, by omega, by omega⟩ ?_) | (intro _)))
        refine Exists.intro [] (Exists.intro 3 (And.intro ⟨by decide, fun _ => h1 (by decide), fun _ => h2 (by decide), fun _ => rfl⟩ (And.intro ?_ ?_)))
        · (repeat' (first | exact trivial | exact Or.inl rfl | exact Or.inr (Or.inl ⟨rfl, _, rfl⟩) | exact Or.inr (Or.inr (Or.inr ⟨_, _, _, rfl, rfl⟩)) | refine And.intro ?_ ?_))
        · show 3 - 3 < 3 - 2
          decide
    · rw [h1 (by decide), h2 (by decide), h3 (by decide)]
      (repeat' (first | (refine And.intro (fun h => ?_) (fun h => ?_) <;> (try simp [-List.getD_eq_getElem?_getD, -Int.pred_toNat] at h) <;> (try (exfalso; first | omega | contradiction))) | (refine And.intro (rng64 (by omega) (by omega)) ?_) | (refine And.intro ⟨by omega, by omega⟩ ?_) | (refine And.intro ⟨by omega, by omega, by omega⟩ ?_) | (intro _)))
      rfl
theorem s_base (s : Str) : PSpec Tryd.prog 162 [.s s] (.tup [.i .u64 ((frontB s).1 : Int), .s (frontB s).2]) :=
  pspec_of_vc Γ_good Tryd.func162 rfl Tryd.call162 Tryd.results162 Tryd.ntmps162 (Nat.le_of_ble_eq_true rfl) (w_base s)
theorem w_readP (s : Str) : VCs Tryd.prog Γ 109 [0, 2, 3, 4, 5, 6, 7, 8, 9, 11, 12, 13, 14, 15, 16, 19, 41, 43, 44, 45, 46, 64, 67, 88, 91, 94, 102] (Tryd.f126.body.getD .skip) (postK Γ [.tmp 2, .tmp 3] (fun v => v = .tup [.i .i64 (readV s).1, .i .i64 (readV s).2])) ⟨argSlots 0 [.s s], []⟩ := by
  refine VCs.seq (by first | exact Γ_good | exact Ctx.good_kp Γ_good _) ?_
  refine VCs.cut (by first | exact Γ_good | exact Ctx.good_kp Γ_good _) Unit (fun _ => ¬ 80 < s.length) (fun _ => ⟨[(0, .s s), (2, .i .i64 0), (3, .i .i64 0)], []⟩) ?_ ?_
  · intro _
    refine And.intro (fun h => ?_) (fun h => ?_)
    · have h : 80 < s.length := by have : (s.length : Int) > 80 := of_decide_eq_true h; omega
      rw [readV_long h]
      rfl
    · have h : ¬ 80 < s.length := by have : ¬ (s.length : Int) > 80 := of_decide_eq_false h; omega
      refine Exists.intro () (And.intro h ?_)
      (repeat' (first | exact trivial | exact Or.inl rfl | exact Or.inr (Or.inl ⟨rfl, _, rfl⟩) | exact Or.inr (Or.inr (Or.inr ⟨_, _, _, rfl, rfl⟩)) | refine And.intro ?_ ?_))
  rintro ⟨⟩ h
  have h80 := h
  have hC := s_cutPre s [45]
  rw [cut_minus, pre_minus] at hC
  have hB := s_base (restS s)
  obtain ⟨f1, f2, f3⟩ := front_base (restS s)
  have hrl := rest_len s
  obtain ⟨b, hb⟩ : ∃ b, b = (frontB (restS s)).1 := ⟨_, rfl⟩
  obtain ⟨u, hu⟩ : ∃ u, u = (frontB (restS s)).2 := ⟨_, rfl⟩
  rw [← hb] at f1 f2 hB
  rw [← hu] at f3 hB
  have hul : u.length ≤ 80 := by omega
  refine VCs.seq (by first | exact Γ_good | exact Ctx.good_kp Γ_good _) ?_
  refine Or.inl (Exists.intro _ (And.intro (hC) ?_))
  refine VCs.seq (by first | exact Γ_good | exact Ctx.good_kp Γ_good _) ?_
  refine Or.inl (Exists.intro _ (And.intro (hB) ?_))
  have hbz : ∀ z : Bool, ((b : Int) == 10) = z → (b = 10 ↔ z = true) := fun z hz => by
    rw [← hz, beq_iff_eq]; omega
  refine VCs.cut (by first | exact Γ_good | exact Ctx.good_kp Γ_good _) Unit (fun _ => ¬ (b = 10 ∧ 1 < u.length ∧ u.headD 0 = 48)) (fun _ => ⟨[(2, .i .i64 0), (3, .i .i64 0), (4, .s u), (5, .b (minusS s)), (6, .i .u64 (b : Int))], []⟩) ?_ ?_
  · by_cases hz : b = 10 ∧ 1 < u.length ∧ u.headD 0 = 48
    · have hV : bareV (restS s) = none := by unfold bareV; rw [← hb, ← hu, if_pos hz]
      rw [readV_none h hV]
      obtain ⟨z1, z2, z3⟩ := hz
      have hg : (u.getD 0 0).toNat = 48 := by
        cases u with
        | nil => simp at z2
        | cons c r => exact congrArg UInt8.toNat z3
      clear hbz
      (repeat' (first | (refine And.intro (fun h => ?_) (fun h => ?_) <;> (try simp [-List.getD_eq_getElem?_getD, -Int.pred_toNat] at h) <;> (try (exfalso; first | omega | contradiction))) | (refine And.intro (rng64 (by omega) (by omega)) ?_) | (refine And.intro ⟨by omega, by omega⟩ ?_) | (refine And.intro ⟨by omega, by omega, by omega⟩ ?_) | (intro _)))
      rfl
    · clear hbz
      by_cases z1 : b = 10
      · by_cases z2 : 1 < u.length
        · have hg : ¬ (u.getD 0 0).toNat = 48 := fun h => hz ⟨z1, z2, by
            cases u with
            | nil => simp at z2
            | cons c r => exact UInt8.toNat_inj.1 h⟩
          (repeat' (first | (refine And.intro (fun h => ?_) (fun h => ?_) <;> (try simp [-List.getD_eq_getElem?_getD, -Int.pred_toNat] at h) <;> (try (exfalso; first | omega | contradiction))) | (refine And.intro (rng64 (by omega) (by omega)) ?_) | (refine And.intro ⟨by omega, by omega⟩ ?_) | (refine And.intro ⟨by omega, by omega, by omega⟩ ?_) | (intro _)))
          refine Exists.intro () (And.intro hz ?_)
          (repeat' (first | exact trivial | exact Or.inl rfl | exact Or.inr (Or.inl ⟨rfl, _, rfl⟩) | exact Or.inr (Or.inr (Or.inr ⟨_, _, _, rfl, rfl⟩)) | refine And.intro ?_ ?_))
        · (repeat' (first | (refine And.intro (fun h => ?_) (fun h => ?_) <;> (try simp [-List.getD_eq_getElem?_getD, -Int.pred_toNat] at h) <;> (try (exfalso; first | omega | contradiction))) | (refine And.intro (rng64 (by omega) (by omega)) ?_) | (refine And.intro ⟨by omega, by omega⟩ ?_) | (refine And.intro ⟨by omega, by omega, by omega⟩ ?_) | (intro _)))
          refine Exists.intro () (And.intro hz ?_)
          (repeat' (first | exact trivial | exact Or.inl rfl | exact Or.inr (Or.inl ⟨rfl, _, rfl⟩) | exact Or.inr (Or.inr (Or.inr ⟨_, _, _, rfl, rfl⟩)) | refine And.intro ?_ ?_))
      · (repeat' (first | (refine And.intro (fun h => ?_) (fun h => ?_) <;> (try simp [-List.getD_eq_getElem?_getD, -Int.pred_toNat] at h) <;> (try (exfalso; first | omega | contradiction))) | (refine And.intro (rng64 (by omega) (by omega)) ?_) | (refine And.intro ⟨by omega, by omega⟩ ?_) | (refine And.intro ⟨by omega, by omega, by omega⟩ ?_) | (intro _)))
        refine Exists.intro () (And.intro hz ?_)
        (repeat' (first | exact trivial | exact Or.inl rfl | exact Or.inr (Or.inl ⟨rfl, _, rfl⟩) | exact Or.inr (Or.inr (Or.inr ⟨_, _, _, rfl, rfl⟩)) | refine And.intro ?_ ?_))
  rintro ⟨⟩ hz
  have hV : bareV (restS s) = numN b 95 0 u := by unfold bareV; rw [← hb, ← hu, if_neg hz]
  clear hz hbz hB hC
  refine VCs.seq (by first | exact Γ_good | exact Ctx.good_kp Γ_good _) ?_
  refine VCs.seq (by first | exact Γ_good | exact Ctx.good_kp Γ_good _) ?_
  refine VCs.cut (by first | exact Γ_good | exact Ctx.good_kp Γ_good _) (UInt8 × Nat × Int) (fun q => numN b q.1 q.2.1 [] = numN b 95 0 u ∧ 0 ≤ q.2.2 ∧ q.2.2 ≤ 18446744073709551615 ∧ (0 < q.2.2 ↔ 18446744073709551616 ≤ q.2.1)) (fun ⟨l, N, o⟩ => ⟨[(2, .i .i64 0), (3, .i .i64 0), (5, .b (minusS s)), (7, .i .u64 ((N % 18446744073709551616 : Nat) : Int)), (8, .i .u64 o), (9, .i .u8 (l.toNat : Int))], []⟩) ?_ ?_
  · (repeat' (first | (refine And.intro (fun h => ?_) (fun h => ?_) <;> (try simp [-List.getD_eq_getElem?_getD, -Int.pred_toNat] at h) <;> (try (exfalso; first | omega | contradiction))) | (refine And.intro (rng64 (by omega) (by omega)) ?_) | (refine And.intro ⟨by omega, by omega⟩ ?_) | (refine And.intro ⟨by omega, by omega, by omega⟩ ?_) | (intro _)))
    refine Exists.intro [] (Exists.intro [] (Exists.intro [] (Exists.intro (Nat × UInt8 × Nat × Int) (Exists.intro (fun q => q.1 ≤ u.length ∧ numN b q.2.1 q.2.2.1 (u.drop q.1) = numN b 95 0 u ∧ 0 ≤ q.2.2.2 ∧ q.2.2.2 ≤ 18446744073709551615 ∧ (0 < q.2.2.2 ↔ 18446744073709551616 ≤ q.2.2.1)) (Exists.intro (fun ⟨i, l, N, o⟩ => ⟨[(2, .i .i64 0), (3, .i .i64 0), (5, .b (minusS s)), (6, .i .u64 (b : Int)), (7, .i .u64 ((N % 18446744073709551616 : Nat) : Int)), (8, .i .u64 o), (9, .i .u8 (l.toNat : Int)), (43, .rd .u8 (u.map fun b => (b.toNat : Int))), (44, .i .i64 (((u.map fun b => (b.toNat : Int)).length : Nat) : Int)), (45, .i .i64 (i : Int))], []⟩) (Exists.intro (fun q => u.length - q.1) (Exists.intro (0, 95, 0, 0) (And.intro ⟨Nat.zero_le _, rfl, by simp, by simp, by simp⟩ (And.intro ?_ ?_)))))))))
    · (repeat' (first | exact trivial | exact Or.inl rfl | exact Or.inr (Or.inl ⟨rfl, _, rfl⟩) | exact Or.inr (Or.inr (Or.inr ⟨_, _, _, rfl, rfl⟩)) | refine And.intro ?_ ?_))
    · rintro ⟨i, l, N, o⟩ ⟨hi, hI, ho0, ho1, ho⟩
      simp only at hi hI ho0 ho1 ho
      have hml : (u.map fun b : UInt8 => (b.toNat : Int)).length = u.length := List.length_map ..
      refine And.intro (fun hc => ?_) (fun hc => ?_)
      · have hi : i < u.length := by
          have : (i : Int) < (((u.map fun b : UInt8 => (b.toNat : Int)).length : Nat) : Int) := of_decide_eq_true hc
          omega
        have hdr : u.drop i = u.getD i 0 :: u.drop (i + 1) := by
          rw [List.drop_eq_getElem_cons hi, List.getD_eq_getElem?_getD, List.getElem?_eq_getElem hi]; rfl
        have hgi : (u.map fun b : UInt8 => (b.toNat : Int)).getD (Int.toNat (i : Int)) (dflt .u8) = ((u.getD i 0).toNat : Int) := by
          rw [Int.toNat_natCast, List.getD_eq_getElem?_getD, List.getElem?_map, List.getD_eq_getElem?_getD, List.getElem?_eq_getElem hi]; rfl
        rw [hdr, numN] at hI
        generalize u.getD i 0 = c at hI hgi
        have hcl := u8_lt c
        refine And.intro ⟨by omega, by omega⟩ ?_
        rw [hgi]
        by_cases hu : c = 95
        · rw [if_pos hu] at hI
          have hcn : c.toNat = 95 := by rw [hu]; rfl
          by_cases hl : l = 95
          · rw [if_pos hl] at hI
            have hln : l.toNat = 95 := by rw [hl]; rfl
            rw [readV_none h80 (hV.trans hI.symm)]
            (repeat' (first | (refine And.intro (fun h => ?_) (fun h => ?_) <;> (try simp [-List.getD_eq_getElem?_getD, -Int.pred_toNat] at h) <;> (try (exfalso; first | omega | contradiction))) | (refine And.intro (rng64 (by omega) (by omega)) ?_) | (refine And.intro ⟨by omega, by omega⟩ ?_) | (refine And.intro ⟨by omega, by omega, by omega⟩ ?_) | (intro _)))
            rfl
          · rw [if_neg hl] at hI
            have hln : ¬ l.toNat = 95 := fun h => hl (UInt8.toNat_inj.1 h)
            (repeat' (first | (refine And.intro (fun h => ?_) (fun h => ?_) <;> (try simp [-List.getD_eq_getElem?_getD, -Int.pred_toNat] at h) <;> (try (exfalso; first | omega | contradiction))) | (refine And.intro (rng64 (by omega) (by omega)) ?_) | (refine And.intro ⟨by omega, by omega⟩ ?_) | (refine And.intro ⟨by omega, by omega, by omega⟩ ?_) | (intro _)))
            refine Exists.intro [] (Exists.intro (i + 1, c, N, o) (And.intro ⟨hi, by simp only; rw [hu]; exact hI, ho0, ho1, ho⟩ (And.intro ?_ ?_)))
            · (repeat' (first | exact trivial | exact Or.inl rfl | exact Or.inr (Or.inl ⟨rfl, _, rfl⟩) | exact Or.inr (Or.inr (Or.inr ⟨_, _, _, rfl, rfl⟩)) | refine And.intro ?_ ?_))
            · (exact Nat.sub_lt_sub_left (by omega) (by omega))
        · rw [if_neg hu] at hI
          have hcn : ¬ c.toNat = 95 := fun h => hu (UInt8.toNat_inj.1 h)
          have hD := s_digit c
          have hd100 := dgt_lt c
          generalize dgt c = d at hI hD hd100
          (repeat' (first | (refine And.intro (fun h => ?_) (fun h => ?_) <;> (try simp [-List.getD_eq_getElem?_getD, -Int.pred_toNat] at h) <;> (try (exfalso; first | omega | contradiction))) | (refine And.intro (rng64 (by omega) (by omega)) ?_) | (refine And.intro ⟨by omega, by omega⟩ ?_) | (refine And.intro ⟨by omega, by omega, by omega⟩ ?_) | (intro _)))
          refine Or.inl (Exists.intro _ (And.intro (hD) ?_))
          by_cases hd : b ≤ d
          · rw [if_pos hd] at hI
            rw [readV_none h80 (hV.trans hI.symm)]
            (repeat' (first | (refine And.intro (fun h => ?_) (fun h => ?_) <;> (try simp [-List.getD_eq_getElem?_getD, -Int.pred_toNat] at h) <;> (try (exfalso; first | omega | contradiction))) | (refine And.intro (rng64 (by omega) (by omega)) ?_) | (refine And.intro ⟨by omega, by omega⟩ ?_) | (refine And.intro ⟨by omega, by omega, by omega⟩ ?_) | (intro _)))
            rfl
          · rw [if_neg hd] at hI
            have hM := s_mul64 (N % 18446744073709551616) b (Nat.mod_lt _ (by decide)) (by omega)
            have hlim : N % 18446744073709551616 * b / 18446744073709551616 < 18446744073709551616 := by
              rw [Nat.div_lt_iff_lt_mul (by decide)]
              exact Nat.mul_lt_mul'' (Nat.mod_lt _ (by decide)) (by omega)
            obtain ⟨e1, e2⟩ := step64 (N := N) (n := N % 18446744073709551616) (b := b) (d := d) (o := decide (0 < o)) f1 f2 (by omega) rfl (by rw [decide_eq_true_eq]; exact ho)
            rw [decide_eq_true_eq] at e2
            have hlo : N % 18446744073709551616 * b % 18446744073709551616 < 18446744073709551616 := Nat.mod_lt _ (by decide)
            generalize N % 18446744073709551616 * b / 18446744073709551616 = H at hM hlim e2
            generalize N % 18446744073709551616 * b % 18446744073709551616 = L at hM hlo e1 e2
            obtain ⟨g1, g2, g3⟩ := or_pos (a := (H : Int)) (b := ((L : Int) + (d : Int) + 0) / 18446744073709551616) (by omega) (by omega)
            generalize hO1 : bits .or .u64 (H : Int) (((L : Int) + (d : Int) + 0) / 18446744073709551616) = O1 at g1 g2 g3
            obtain ⟨k1, k2, k3⟩ := or_pos (a := o) (b := O1) ⟨ho0, ho1⟩ ⟨g1, g2⟩
            generalize hO2 : bits .or .u64 o O1 = O2 at k1 k2 k3
            have hA := e_add64 L d
            (repeat' (first | (refine And.intro (fun h => ?_) (fun h => ?_) <;> (try simp [-List.getD_eq_getElem?_getD, -Int.pred_toNat] at h) <;> (try (exfalso; first | omega | contradiction))) | (refine And.intro (rng64 (by omega) (by omega)) ?_) | (refine And.intro ⟨by omega, by omega⟩ ?_) | (refine And.intro ⟨by omega, by omega, by omega⟩ ?_) | (intro _)))
            refine Or.inl (Exists.intro _ (And.intro (hM) ?_))
            refine Or.inl (Exists.intro _ (And.intro (hD) ?_))
            refine Or.inr (Or.inr (Or.inr (Or.inr (Or.inl (Exists.intro _ (And.intro (hA) ?_))))))
            (repeat' (first | (refine And.intro (fun h => ?_) (fun h => ?_) <;> (try simp [-List.getD_eq_getElem?_getD, -Int.pred_toNat] at h) <;> (try (exfalso; first | omega | contradiction))) | (refine And.intro (rng64 (by omega) (by omega)) ?_) | (refine And.intro ⟨by omega, by omega⟩ ?_) | (refine And.intro ⟨by omega, by omega, by omega⟩ ?_) | (intro _)))
            refine Exists.intro [] (Exists.intro (i + 1, c, N * b + d, O2) (And.intro ⟨hi, by simp only; exact hI, k1, k2, by simp only; omega⟩ (And.intro ?_ ?_)))
            · (repeat' (first | exact trivial | exact Or.inl rfl | exact Or.inl ((congrArg (AV.i .u64) (show ((L : Int) + (d : Int) + 0) % 18446744073709551616 = (((N * b + d) % 18446744073709551616 : Nat) : Int) by omega))) | exact Or.inl ((congrArg (AV.i .u64) (show bits .or .u64 o (bits .or .u64 (H : Int) (((L : Int) + (d : Int) + 0) / 18446744073709551616)) = O2 by rw [hO1, hO2]))) | refine And.intro ?_ ?_))
            · (exact Nat.sub_lt_sub_left (by omega) (by omega))
      · have hi : i = u.length := by
          have : ¬ (i : Int) < (((u.map fun b : UInt8 => (b.toNat : Int)).length : Nat) : Int) := of_decide_eq_false hc
          omega
        subst hi
        rw [List.drop_length] at hI
        refine Exists.intro (l, N, o) (And.intro ⟨hI, ho0, ho1, ho⟩ ?_)
        (repeat' (first | exact trivial | exact Or.inl rfl | exact Or.inr (Or.inl ⟨rfl, _, rfl⟩) | exact Or.inr (Or.inr (Or.inr ⟨_, _, _, rfl, rfl⟩)) | refine And.intro ?_ ?_))
  rintro ⟨l, N, o⟩ ⟨hN, ho0, ho1, ho⟩
  simp only at hN ho0 ho1 ho
  rw [numN] at hN
  refine VCs.of_vc (by first | exact Γ_good | exact Ctx.good_kp Γ_good _) ?_
  have hML : N % 18446744073709551616 < 18446744073709551616 := Nat.mod_lt _ (by decide)
  by_cases hl : l = 95
  · rw [if_pos hl] at hN
    have hln : l.toNat = 95 := by rw [hl]; rfl
    rw [readV_none h80 (hV.trans hN.symm)]
    generalize minusS s = m
    cases m
    all_goals
      (repeat' (first | (refine And.intro (fun h => ?_) (fun h => ?_) <;> (try simp [-List.getD_eq_getElem?_getD, -Int.pred_toNat] at h) <;> (try (exfalso; first | omega | contradiction))) | (refine And.intro (rng64 (by omega) (by omega)) ?_) | (refine And.intro ⟨by omega, by omega⟩ ?_) | (refine And.intro ⟨by omega, by omega, by omega⟩ ?_) | (intro _)))
      rfl
  rw [if_neg hl] at hN
  have hln : ¬ l.toNat = 95 := fun h => hl (UInt8.toNat_inj.1 h)
  rw [readV_some h80 (hV.trans hN.symm)]
  clear hV hN
  generalize minusS s = m
  by_cases h64 : 18446744073709551616 ≤ N
  · have hov : limN m < N := by unfold limN; split <;> omega
    have hop := ho.2 h64
    rw [if_pos hov]
    cases m
    all_goals
      (repeat' (first | (refine And.intro (fun h => ?_) (fun h => ?_) <;> (try simp [-List.getD_eq_getElem?_getD, -Int.pred_toNat] at h) <;> (try (exfalso; first | omega | contradiction))) | (refine And.intro (rng64 (by omega) (by omega)) ?_) | (refine And.intro ⟨by omega, by omega⟩ ?_) | (refine And.intro ⟨by omega, by omega, by omega⟩ ?_) | (intro _)))
      rfl
  have hop : o = 0 := by omega
  have hNM : N % 18446744073709551616 = N := Nat.mod_eq_of_lt (by omega)
  dsimp only
  rw [hNM]
  have hwn : N ≤ 9223372036854775807 → IntKind.i64.wrap (N : Int) = N := fun h => by rw [IntKind.wrap_i64]; omega
  cases m with
  | false =>
    by_cases hov : limN false < N
    · have hov2 : 9223372036854775807 < N := hov
      rw [if_pos hov]
      (repeat' (first | (refine And.intro (fun h => ?_) (fun h => ?_) <;> (try simp [-List.getD_eq_getElem?_getD, -Int.pred_toNat] at h) <;> (try (exfalso; first | omega | contradiction))) | (refine And.intro (rng64 (by omega) (by omega)) ?_) | (refine And.intro ⟨by omega, by omega⟩ ?_) | (refine And.intro ⟨by omega, by omega, by omega⟩ ?_) | (intro _)))
      rfl
    · have hov2 : ¬ 9223372036854775807 < N := hov
      rw [if_neg hov]
      (repeat' (first | (refine And.intro (fun h => ?_) (fun h => ?_) <;> (try simp [-List.getD_eq_getElem?_getD, -Int.pred_toNat] at h) <;> (try (exfalso; first | omega | contradiction))) | (refine And.intro (rng64 (by omega) (by omega)) ?_) | (refine And.intro ⟨by omega, by omega⟩ ?_) | (refine And.intro ⟨by omega, by omega, by omega⟩ ?_) | (intro _)))
      show AV.tup [.i .i64 (IntKind.i64.wrap (N : Int)), .i .i64 0] = AV.tup [.i .i64 (N : Int), .i .i64 0]
      rw [hwn (by omega)]
  | true =>
    have hW : IntKind.u64.wrap ((9223372036854775807 : Int) + 1) = 9223372036854775808 := by rw [IntKind.wrap_u64]; rfl
    have hW2 : IntKind.u64.wrap (9223372036854775808 : Int) = 9223372036854775808 := by rw [IntKind.wrap_u64]; rfl
    by_cases hov : limN true < N
    · have hov2 : 9223372036854775808 < N := hov
      rw [if_pos hov]
      (repeat' (first | (refine And.intro (fun h => ?_) (fun h => ?_) <;> (try simp [-List.getD_eq_getElem?_getD, -Int.pred_toNat] at h) <;> (try (exfalso; first | omega | contradiction))) | (refine And.intro (rng64 (by omega) (by omega)) ?_) | (refine And.intro ⟨by omega, by omega⟩ ?_) | (refine And.intro ⟨by omega, by omega, by omega⟩ ?_) | (intro _)))
      rfl
    · have hov2 : ¬ 9223372036854775808 < N := hov
      rw [if_neg hov]
      (repeat' (first | (refine And.intro (fun h => ?_) (fun h => ?_) <;> (try simp [-List.getD_eq_getElem?_getD, -Int.pred_toNat] at h) <;> (try (exfalso; first | omega | contradiction))) | (refine And.intro (rng64 (by omega) (by omega)) ?_) | (refine And.intro ⟨by omega, by omega⟩ ?_) | (refine And.intro ⟨by omega, by omega, by omega⟩ ?_) | (intro _)))
      refine Or.inr ?_
      have hwm : IntKind.i64.wrap (0 - IntKind.i64.wrap (N : Int)) = -(N : Int) := neg_wrap (by omega)
      show AV.tup [.i .i64 (IntKind.i64.wrap (0 - IntKind.i64.wrap (N : Int))), .i .i64 0] = AV.tup [.i .i64 (-(N : Int)), .i .i64 0]
      rw [hwm]
theorem s_readP (s : Str) : PSpec Tryd.prog 126 [.s s] (.tup [.i .i64 (readV s).1, .i .i64 (readV s).2]) :=
  pspec_of_VCs Γ_good Tryd.func126 rfl Tryd.call126 Tryd.results126 Tryd.ntmps126 (Nat.le_of_ble_eq_true rfl) (w_readP s) Γ_good
end
end Go.Proofs.YtmfchbkdakmjhaaDoor
end
section
namespace Go.Proofs.YtmfchbkdakmjhaaDoor
set_option linter.unusedSectionVars false
set_option linter.unusedSimpArgs false
set_option linter.unusedVariables false
open Go Go.SX Go.Vl
set_option maxRecDepth 100000
set_option maxHeartbeats 0
section
variable [G : Globs]
end
end Go.Proofs.YtmfchbkdakmjhaaDoor
end
section
namespace Go.Proofs.YtmfchbkdakmjhaaDoor
set_option linter.unusedSectionVars false
set_option linter.unusedSimpArgs false
set_option linter.unusedVariables false
open Go Go.SX Go.Vl
set_option maxRecDepth 100000
set_option maxHeartbeats 0
def sg (t : Bool) : Int := if t = true then -1 else 1
theorem cmpI_ne {a b : Int} (h : a ≠ b) : cmpI a b = sg (decide (a < b)) := by
  unfold cmpI sg
  rw [if_neg h]
  simp
theorem cmpS_ne {a b : Str} (h : a ≠ b) : cmpS a b = sg (Op.bytesLess a b) := by
  unfold cmpS sg
  rw [if_neg h]
theorem bool_ne {a b : Bool} (h : (!(a == b)) = true) : a ≠ b := by simpa using h
theorem bool_eq {a b : Bool} (h : (!(a == b)) = false) : a = b := by simpa using h
theorem len_ne {m n : Nat} (h : (((m : Nat) : Int) != ((n : Nat) : Int)) = true) : m ≠ n := fun e => by subst e; simp at h
theorem len_eq {m n : Nat} (h : (((m : Nat) : Int) != ((n : Nat) : Int)) = false) : m = n := by
  have : (m : Int) = (n : Int) := by simpa using h
  omega
theorem sg_nz (t : Bool) : sg t ≠ 0 := by cases t <;> decide
theorem shr63z {f : Int} (h0 : 0 ≤ f) (h1 : f ≤ 18446744073709551615) : (f.fdiv (2 ^ min (Int.toNat 63) IntKind.u64.bits) == 0) = decide (f < 9223372036854775808) := by
  rw [show (2 : Int) ^ min (Int.toNat 63) IntKind.u64.bits = 9223372036854775808 from rfl, Int.fdiv_eq_ediv_of_nonneg _ (by decide)]
  rw [Bool.eq_iff_iff, beq_iff_eq, decide_eq_true_eq]
  omega
theorem rank_low {a b : Int} (ha : 0 ≤ a ∧ a ≤ 18446744073709551615) (hb : 0 ≤ b ∧ b ≤ 18446744073709551615) (h : decide (a < 9223372036854775808) ≠ decide (b < 9223372036854775808)) : cmpI (rank a) (rank b) = sg (decide (b < 9223372036854775808)) := by
  by_cases h1 : a < 9223372036854775808 <;> by_cases h2 : b < 9223372036854775808
  · simp [h1, h2] at h
  · rw [decide_eq_false h2, rank, rank, if_pos h1, if_neg h2, cmpI_ne (by omega), decide_eq_false (by omega)]
  · rw [decide_eq_true h2, rank, rank, if_neg h1, if_pos h2, cmpI_ne (by omega), decide_eq_true (by omega)]
  · simp [h1, h2] at h
theorem rank_high {a b : Int} (ha : 0 ≤ a ∧ a ≤ 18446744073709551615) (hb : 0 ≤ b ∧ b ≤ 18446744073709551615) (hne : a ≠ b) (h : decide (a < 9223372036854775808) = decide (b < 9223372036854775808)) : cmpI (rank a) (rank b) = sg (decide (a < b) == decide (a < 9223372036854775808)) := by
  by_cases h1 : a < 9223372036854775808 <;> by_cases h2 : b < 9223372036854775808
  · rw [rank, rank, if_pos h1, if_pos h2, cmpI_ne (by omega), decide_eq_true h1]
    congr 1
    by_cases h3 : a < b
    · rw [decide_eq_true h3, decide_eq_true (by omega)]; rfl
    · rw [decide_eq_false h3, decide_eq_false (by omega)]; rfl
  · simp [h1, h2] at h
  · simp [h1, h2] at h
  · rw [rank, rank, if_neg h1, if_neg h2, cmpI_ne (by omega), decide_eq_false h1]
    congr 1
    by_cases h3 : a < b
    · rw [decide_eq_true h3, decide_eq_false (by omega)]; rfl
    · rw [decide_eq_false h3, decide_eq_true (by omega)]; rfl
section
variable [G : Globs]
theorem w_sgn (t : Bool) : vc Tryd.prog Γ 4 [0, 2, 3] (Tryd.f91.body.getD .skip) (postK Γ [.tmp 2] (fun v => v = .i .i64 (sg t))) ⟨argSlots 0 [.b t], []⟩ := by
  refine And.intro (fun h => ?_) (fun h => ?_)
  · have h : t = true := h
    subst h
    rfl
  · have h : t = false := h
    subst h
    rfl
theorem s_sgn (t : Bool) : PSpec Tryd.prog 91 [.b t] (.i .i64 (sg t)) :=
  pspec_of_vc Γ_good Tryd.func91 rfl Tryd.call91 Tryd.results91 Tryd.ntmps91 (Nat.le_of_ble_eq_true rfl) (w_sgn t)
theorem w_besd (a b : Val) (h0 : 0 ≤ a.f ∧ a.f ≤ 18446744073709551615) (h1 : 0 ≤ b.f ∧ b.f ≤ 18446744073709551615) (hc : ∀ x ∈ a.l, ∀ y ∈ b.l, PSpec Tryd.prog 50 [.agg (encVal x), .agg (encVal y)] (.i .i64 (cmpV x y))) (hp : ∀ x ∈ a.e, ∀ y ∈ b.e, PSpec Tryd.prog 50 [.agg (encVal x.2), .agg (encVal y.2)] (.i .i64 (cmpV x.2 y.2))) : VCs Tryd.prog Γ 185 [2, 3, 4, 5, 6, 7, 8, 9, 10, 15, 26, 37, 48, 63, 81, 96, 104, 124, 139, 168, 176] (Tryd.f50.body.getD .skip) (postK Γ [.tmp 4] (fun v => v = .i .i64 (cmpV a b))) ⟨argSlots 0 [.agg (encVal a), .agg (encVal b)], []⟩ := by
  refine VCs.seq (by first | exact Γ_good | exact Ctx.good_kp Γ_good _) ?_
  refine VCs.seq (by first | exact Γ_good | exact Ctx.good_kp Γ_good _) ?_
  refine And.intro (fun hk => ?_) (fun hk => ?_)
  · have hk : a.kind ≠ b.kind := by simpa using hk
    refine Or.inl (Exists.intro _ (And.intro (s_sgn (decide (a.kind < b.kind))) ?_))
    refine congrArg (AV.i .i64) ?_
    rw [cmpV_eq, cmpI_ne hk, orI_ne (sg_nz _)]
  have hk : a.kind = b.kind := by simpa using hk
  refine VCs.seq (by first | exact Γ_good | exact Ctx.good_kp Γ_good _) ?_
  refine And.intro (fun hn => ?_) (fun hn => ?_)
  · have hn : a.n ≠ b.n := by simpa using hn
    refine Or.inl (Exists.intro _ (And.intro (s_sgn (decide (a.n < b.n))) ?_))
    refine congrArg (AV.i .i64) ?_
    rw [cmpV_eq, hk, cmpI_self, orI_zero, cmpI_ne hn, orI_ne (sg_nz _)]
  have hn : a.n = b.n := by simpa using hn
  refine VCs.seq (by first | exact Γ_good | exact Ctx.good_kp Γ_good _) ?_
  refine And.intro (fun hf => ?_) (fun hf => ?_)
  · have hf : a.f ≠ b.f := by simpa using hf
    refine Exists.intro [.blk [0, 1, 2, 3, 4, 5, 6, 7, 8, 9]] (And.intro (by kernel_rfl) ?_)
    refine And.intro (by decide) ?_
    refine And.intro (by decide) ?_
    refine And.intro (fun hd => ?_) (fun hd => ?_)
    · have hd := bool_ne hd
      rw [shr63z h0.1 h0.2, shr63z h1.1 h1.2] at hd
      refine Or.inl (Exists.intro _ (And.intro (s_sgn (b.f.fdiv (2 ^ min (Int.toNat 63) IntKind.u64.bits) == 0)) ?_))
      refine congrArg (AV.i .i64) ?_
      rw [shr63z h1.1 h1.2, cmpV_eq, hk, cmpI_self, orI_zero, hn, cmpI_self, orI_zero, rank_low h0 h1 hd, orI_ne (sg_nz _)]
    · have hd := bool_eq hd
      rw [shr63z h0.1 h0.2, shr63z h1.1 h1.2] at hd
      refine Or.inl (Exists.intro _ (And.intro (s_sgn (decide (a.f < b.f) == (a.f.fdiv (2 ^ min (Int.toNat 63) IntKind.u64.bits) == 0))) ?_))
      refine congrArg (AV.i .i64) ?_
      rw [shr63z h0.1 h0.2, cmpV_eq, hk, cmpI_self, orI_zero, hn, cmpI_self, orI_zero, rank_high h0 h1 hf hd, orI_ne (sg_nz _)]
  have hf : a.f = b.f := by simpa using hf
  refine VCs.seq (by first | exact Γ_good | exact Ctx.good_kp Γ_good _) ?_
  refine And.intro (fun hs => ?_) (fun hs => ?_)
  · have hs : a.s ≠ b.s := by simpa using hs
    refine Or.inl (Exists.intro _ (And.intro (s_sgn (Op.bytesLess a.s b.s)) ?_))
    refine congrArg (AV.i .i64) ?_
    rw [cmpV_eq, hk, cmpI_self, orI_zero, hn, cmpI_self, orI_zero, hf, cmpI_self, orI_zero, cmpS_ne hs, orI_ne (sg_nz _)]
  have hs : a.s = b.s := by simpa using hs
  have hr : cmpV a b = orI (cmpL a.l b.l) (cmpE a.e b.e) := by rw [cmpV_eq, hk, cmpI_self, orI_zero, hn, cmpI_self, orI_zero, hf, cmpI_self, orI_zero, hs, cmpS_self, orI_zero]
  refine VCs.cut (by first | exact Γ_good | exact Ctx.good_kp Γ_good _) Unit (fun _ => ∃ k, cmpL a.l b.l = cmpL (a.l.drop k) (b.l.drop k) ∧ ((k = a.l.length ∧ k ≤ b.l.length) ∨ (k = b.l.length ∧ k ≤ a.l.length))) (fun _ => ⟨[(2, .pt 2 0), (3, .pt 3 0)], [(2, encVal a), (3, encVal b)]⟩) ?_ ?_
  · refine Exists.intro [] (Exists.intro [] (Exists.intro [] (Exists.intro Nat (Exists.intro (fun k => k ≤ a.l.length ∧ k ≤ b.l.length ∧ cmpL a.l b.l = cmpL (a.l.drop k) (b.l.drop k)) (Exists.intro (fun k => ⟨[(2, .pt 2 0), (3, .pt 3 0), (7, .i .i64 k)], [(2, encVal a), (3, encVal b)]⟩) (Exists.intro (fun k => a.l.length - k) (Exists.intro 0 (And.intro ⟨Nat.zero_le _, Nat.zero_le _, rfl⟩ (And.intro ?_ ?_)))))))))
    · (repeat' (first | exact trivial | exact Or.inl rfl | exact Or.inr (Or.inl ⟨rfl, _, rfl⟩) | exact Or.inr (Or.inr (Or.inr ⟨_, _, _, rfl, rfl⟩)) | refine And.intro ?_ ?_))
    · rintro k ⟨hka, hkb, he⟩
      intro hla
      refine And.intro (fun hc1 => ?_) (fun hc1 => ?_)
      · have hc1 : k < a.l.length := by have : (k : Int) < (a.l.length : Int) := of_decide_eq_true hc1
                                        omega
        intro _
        refine And.intro (fun hc2 => ?_) (fun hc2 => ?_)
        · have hc2 : k < b.l.length := by have : (k : Int) < (b.l.length : Int) := of_decide_eq_true hc2
                                          omega
          have hg : a.l.getD (Int.toNat (k : Int)) (dflt .val) = a.l[k] := by rw [Int.toNat_natCast, List.getD_eq_getElem?_getD, List.getElem?_eq_getElem hc1]; rfl
          have hgb : b.l.getD (Int.toNat (k : Int)) (dflt .val) = b.l[k] := by rw [Int.toNat_natCast, List.getD_eq_getElem?_getD, List.getElem?_eq_getElem hc2]; rfl
          have hcall := hc a.l[k] (List.getElem_mem hc1) b.l[k] (List.getElem_mem hc2)
          rw [← hg, ← hgb] at hcall
          refine Exists.intro [.blk [0, 1, 2, 3, 4, 5, 6, 7, 8, 9, 10, 11]] (And.intro (by kernel_rfl) ?_)
          refine And.intro ⟨by omega, by omega⟩ ?_
          refine And.intro ⟨by omega, by omega⟩ ?_
          refine Exists.intro _ (And.intro (hcall) ?_)
          rw [hg, hgb]
          rw [cmpL_drop hc1 hc2] at he
          refine And.intro (fun hz => ?_) (fun hz => ?_)
          · have hz : cmpV a.l[k] b.l[k] ≠ 0 := by simpa using hz
            rw [orI_ne hz] at he
            refine congrArg (AV.i .i64) ?_
            rw [hr, he, orI_ne hz]
          · have hz : cmpV a.l[k] b.l[k] = 0 := by simpa using hz
            rw [hz, orI_zero] at he
            have := len_le hla
            (refine And.intro (rng64 (by omega) (by omega)) ?_)
            refine Exists.intro [] (Exists.intro (k + 1) (And.intro ⟨hc1, hc2, he⟩ (And.intro ?_ ?_)))
            · (repeat' (first | exact trivial | exact Or.inl rfl | exact Or.inr (Or.inl ⟨rfl, _, rfl⟩) | exact Or.inr (Or.inr (Or.inr ⟨_, _, _, rfl, rfl⟩)) | refine And.intro ?_ ?_))
            · show a.l.length - (k + 1) < a.l.length - k
              omega
        · have hc2 : k = b.l.length := by have : ¬ (k : Int) < (b.l.length : Int) := of_decide_eq_false hc2
                                          omega
          refine Exists.intro () (And.intro ⟨k, he, .inr ⟨hc2, hka⟩⟩ ?_)
          (repeat' (first | exact trivial | exact Or.inl rfl | exact Or.inr (Or.inl ⟨rfl, _, rfl⟩) | exact Or.inr (Or.inr (Or.inr ⟨_, _, _, rfl, rfl⟩)) | refine And.intro ?_ ?_))
      · have hc1 : k = a.l.length := by have : ¬ (k : Int) < (a.l.length : Int) := of_decide_eq_false hc1
                                        omega
        refine And.intro (fun h9 => Bool.noConfusion h9) (fun _ => ?_)
        refine Exists.intro () (And.intro ⟨k, he, .inl ⟨hc1, hkb⟩⟩ ?_)
        (repeat' (first | exact trivial | exact Or.inl rfl | exact Or.inr (Or.inl ⟨rfl, _, rfl⟩) | exact Or.inr (Or.inr (Or.inr ⟨_, _, _, rfl, rfl⟩)) | refine And.intro ?_ ?_))
  rintro _ ⟨k, he, hk2⟩
  refine VCs.seq (by first | exact Γ_good | exact Ctx.good_kp Γ_good _) ?_
  intro hla
  intro hlb
  refine And.intro (fun hz => ?_) (fun hz => ?_)
  · have hz : a.l.length ≠ b.l.length := len_ne hz
    intro _
    intro _
    refine Or.inl (Exists.intro _ (And.intro (s_sgn (decide ((a.l.length : Int) < (b.l.length : Int)))) ?_))
    refine congrArg (AV.i .i64) ?_
    rcases hk2 with ⟨h2, h3⟩ | ⟨h2, h3⟩
    · rw [cmpL_long (by omega) (by omega)] at he
      rw [hr, he, decide_eq_true (by omega)]
      rfl
    · rw [cmpL_short (by omega) (by omega)] at he
      rw [hr, he, decide_eq_false (by omega)]
      rfl
  have hz : a.l.length = b.l.length := len_eq hz
  have hr : cmpV a b = cmpE a.e b.e := by rw [hr, he, cmpL_end (by omega) (by omega), orI_zero]
  clear he hk2 k
  refine VCs.cut (by first | exact Γ_good | exact Ctx.good_kp Γ_good _) Unit (fun _ => ∃ k, cmpE a.e b.e = cmpE (a.e.drop k) (b.e.drop k) ∧ ((k = a.e.length ∧ k ≤ b.e.length) ∨ (k = b.e.length ∧ k ≤ a.e.length))) (fun _ => ⟨[(2, .pt 2 0), (3, .pt 3 0)], [(2, encVal a), (3, encVal b)]⟩) ?_ ?_
  · refine Exists.intro [] (Exists.intro [] (Exists.intro [] (Exists.intro Nat (Exists.intro (fun k => k ≤ a.e.length ∧ k ≤ b.e.length ∧ cmpE a.e b.e = cmpE (a.e.drop k) (b.e.drop k)) (Exists.intro (fun k => ⟨[(2, .pt 2 0), (3, .pt 3 0), (9, .i .i64 k)], [(2, encVal a), (3, encVal b)]⟩) (Exists.intro (fun k => a.e.length - k) (Exists.intro 0 (And.intro ⟨Nat.zero_le _, Nat.zero_le _, rfl⟩ (And.intro ?_ ?_)))))))))
    · (repeat' (first | exact trivial | exact Or.inl rfl | exact Or.inr (Or.inl ⟨rfl, _, rfl⟩) | exact Or.inr (Or.inr (Or.inr ⟨_, _, _, rfl, rfl⟩)) | refine And.intro ?_ ?_))
    · rintro k ⟨hka, hkb, he⟩
      intro hla
      refine And.intro (fun hc1 => ?_) (fun hc1 => ?_)
      · have hc1 : k < a.e.length := by have : (k : Int) < (a.e.length : Int) := of_decide_eq_true hc1
                                        omega
        intro _
        refine And.intro (fun hc2 => ?_) (fun hc2 => ?_)
        · have hc2 : k < b.e.length := by have : (k : Int) < (b.e.length : Int) := of_decide_eq_true hc2
                                          omega
          have hg : a.e.getD (Int.toNat (k : Int)) (dflt .ent) = a.e[k] := by rw [Int.toNat_natCast, List.getD_eq_getElem?_getD, List.getElem?_eq_getElem hc1]; rfl
          have hgb : b.e.getD (Int.toNat (k : Int)) (dflt .ent) = b.e[k] := by rw [Int.toNat_natCast, List.getD_eq_getElem?_getD, List.getElem?_eq_getElem hc2]; rfl
          have hcall := hp a.e[k] (List.getElem_mem hc1) b.e[k] (List.getElem_mem hc2)
          rw [← hg, ← hgb] at hcall
          refine Exists.intro [.blk [0, 1, 2, 3, 4, 5, 6, 7, 8, 9, 10, 11, 12]] (And.intro (by kernel_rfl) ?_)
          refine And.intro ⟨by omega, by omega⟩ ?_
          refine And.intro ⟨by omega, by omega⟩ ?_
          rw [cmpE_drop hc1 hc2, cmpP_eq] at he
          refine And.intro (fun hq => ?_) (fun hq => ?_)
          · have hq : a.e[k].1 ≠ b.e[k].1 := by rw [hg, hgb] at hq; simpa using hq
            refine Exists.intro [.blk [0, 1, 2, 3, 4, 5, 6, 7, 8, 9, 10, 11, 12, 13, 14]] (And.intro (by kernel_rfl) ?_)
            refine And.intro ⟨by omega, by omega⟩ ?_
            refine And.intro ⟨by omega, by omega⟩ ?_
            refine Exists.intro _ (And.intro (s_sgn (Op.bytesLess (a.e.getD (Int.toNat (k : Int)) (dflt .ent)).1 (b.e.getD (Int.toNat (k : Int)) (dflt .ent)).1)) ?_)
            refine congrArg (AV.i .i64) ?_
            rw [hg, hgb, hr, he, cmpS_ne hq, orI_ne (sg_nz _), orI_ne (sg_nz _)]
          · have hq : a.e[k].1 = b.e[k].1 := by rw [hg, hgb] at hq; simpa using hq
            rw [hq, cmpS_self, orI_zero] at he
            refine Exists.intro [.blk [0, 1, 2, 3, 4, 5, 6, 7, 8, 9, 10, 11, 12, 13]] (And.intro (by kernel_rfl) ?_)
            refine And.intro ⟨by omega, by omega⟩ ?_
            refine And.intro ⟨by omega, by omega⟩ ?_
            refine Exists.intro _ (And.intro (hcall) ?_)
            rw [hg, hgb]
            refine And.intro (fun hz => ?_) (fun hz => ?_)
            · have hz : cmpV a.e[k].2 b.e[k].2 ≠ 0 := by simpa using hz
              rw [orI_ne hz] at he
              refine congrArg (AV.i .i64) ?_
              rw [hr, he]
            · have hz : cmpV a.e[k].2 b.e[k].2 = 0 := by simpa using hz
              rw [hz, orI_zero] at he
              have := len_le hla
              (refine And.intro (rng64 (by omega) (by omega)) ?_)
              refine Exists.intro [] (Exists.intro (k + 1) (And.intro ⟨hc1, hc2, he⟩ (And.intro ?_ ?_)))
              · (repeat' (first | exact trivial | exact Or.inl rfl | exact Or.inr (Or.inl ⟨rfl, _, rfl⟩) | exact Or.inr (Or.inr (Or.inr ⟨_, _, _, rfl, rfl⟩)) | refine And.intro ?_ ?_))
              · show a.e.length - (k + 1) < a.e.length - k
                omega
        · have hc2 : k = b.e.length := by have : ¬ (k : Int) < (b.e.length : Int) := of_decide_eq_false hc2
                                          omega
          refine Exists.intro () (And.intro ⟨k, he, .inr ⟨hc2, hka⟩⟩ ?_)
          (repeat' (first | exact trivial | exact Or.inl rfl | exact Or.inr (Or.inl ⟨rfl, _, rfl⟩) | exact Or.inr (Or.inr (Or.inr ⟨_, _, _, rfl, rfl⟩)) | refine And.intro ?_ ?_))
      · have hc1 : k = a.e.length := by have : ¬ (k : Int) < (a.e.length : Int) := of_decide_eq_false hc1
                                        omega
        refine And.intro (fun h9 => Bool.noConfusion h9) (fun _ => ?_)
        refine Exists.intro () (And.intro ⟨k, he, .inl ⟨hc1, hkb⟩⟩ ?_)
        (repeat' (first | exact trivial | exact Or.inl rfl | exact Or.inr (Or.inl ⟨rfl, _, rfl⟩) | exact Or.inr (Or.inr (Or.inr ⟨_, _, _, rfl, rfl⟩)) | refine And.intro ?_ ?_))
  rintro _ ⟨k, he, hk2⟩
  refine VCs.of_vc (by first | exact Γ_good | exact Ctx.good_kp Γ_good _) ?_
  intro hla
  intro hlb
  refine And.intro (fun hz => ?_) (fun hz => ?_)
  · have hz : a.e.length ≠ b.e.length := len_ne hz
    intro _
    intro _
    refine Or.inl (Exists.intro _ (And.intro (s_sgn (decide ((a.e.length : Int) < (b.e.length : Int)))) ?_))
    refine congrArg (AV.i .i64) ?_
    rcases hk2 with ⟨h2, h3⟩ | ⟨h2, h3⟩
    · rw [cmpE_long (by omega) (by omega)] at he
      rw [hr, he, decide_eq_true (by omega)]
      rfl
    · rw [cmpE_short (by omega) (by omega)] at he
      rw [hr, he, decide_eq_false (by omega)]
      rfl
  · have hz : a.e.length = b.e.length := len_eq hz
    refine congrArg (AV.i .i64) ?_
    rw [hr, he, cmpE_end (by omega) (by omega)]
theorem s_besd (a b : Val) (h0 : 0 ≤ a.f ∧ a.f ≤ 18446744073709551615) (h1 : 0 ≤ b.f ∧ b.f ≤ 18446744073709551615) (hc : ∀ x ∈ a.l, ∀ y ∈ b.l, PSpec Tryd.prog 50 [.agg (encVal x), .agg (encVal y)] (.i .i64 (cmpV x y))) (hp : ∀ x ∈ a.e, ∀ y ∈ b.e, PSpec Tryd.prog 50 [.agg (encVal x.2), .agg (encVal y.2)] (.i .i64 (cmpV x.2 y.2))) : PSpec Tryd.prog 50 [.agg (encVal a), .agg (encVal b)] (.i .i64 (cmpV a b)) :=
  pspec_of_VCs Γ_good Tryd.func50 rfl Tryd.call50 Tryd.results50 Tryd.ntmps50 (Nat.le_of_ble_eq_true rfl) (w_besd a b h0 h1 hc hp) Γ_good
theorem beside_spec : ∀ (n : Nat) (a b : Val), SizeOf.sizeOf a < n → VB a → VB b → PSpec Tryd.prog 50 [.agg (encVal a), .agg (encVal b)] (.i .i64 (cmpV a b)) := by
  intro n
  induction n with
  | zero => intro a b h; exact absurd h (Nat.not_lt_zero _)
  | succ n ih =>
    intro a b hs ha hb
    cases ha with
    | mk _ a1 a2 a3 a4 a5 =>
    cases hb with
    | mk _ b1 b2 b3 b4 b5 =>
      refine s_besd a b a3 b3 (fun x hx y hy => ih x y ?_ (a4 x hx) (b4 y hy)) (fun x hx y hy => ih x.2 y.2 ?_ (a5 x hx) (b5 y hy))
      · have := val_sz_l hx; omega
      · have := val_sz_e hx; omega
theorem s_Beside (a b : Val) (ha : VB a) (hb : VB b) : PSpec Tryd.prog 50 [.agg (encVal a), .agg (encVal b)] (.i .i64 (cmpV a b)) :=
  beside_spec _ a b (Nat.lt_succ_self _) ha hb
end
end Go.Proofs.YtmfchbkdakmjhaaDoor
end
section
namespace Go.Proofs.YtmfchbkdakmjhaaDoor
set_option linter.unusedSectionVars false
set_option linter.unusedSimpArgs false
set_option linter.unusedVariables false
open Go Go.SX Go.Vl
set_option maxRecDepth 100000
set_option maxHeartbeats 0
section
variable [G : Globs]
theorem w_same (a b : Val) (ha : VB a) (hb : VB b) : vc Tryd.prog Γ 9 [2, 3, 4] (Tryd.f13.body.getD .skip) (postK Γ [.tmp 4] (fun v => v = .b (decide (cmpV a b = 0)))) ⟨argSlots 0 [.agg (encVal a), .agg (encVal b)], []⟩ := by
  refine Or.inl (Exists.intro _ (And.intro (s_Beside a b ha hb) ?_))
  rfl
theorem s_same (a b : Val) (ha : VB a) (hb : VB b) : PSpec Tryd.prog 13 [.agg (encVal a), .agg (encVal b)] (.b (decide (cmpV a b = 0))) :=
  pspec_of_vc Γ_good Tryd.func13 rfl Tryd.call13 Tryd.results13 Tryd.ntmps13 (Nat.le_of_ble_eq_true rfl) (w_same a b ha hb)
theorem w_fnd1 (p : Ent) (k : Str) : vc Tryd.prog Γ 8 [1, 2, 3] (Tryd.f122.body.getD .skip) (postK Γ [.tmp 3] (fun v => v = .b (keyIs k p))) ⟨argSlots 0 [.agg (enc .ent p), .rp [.s k]], []⟩ := by
  rfl
theorem s_fnd1 (p : Ent) (k : Str) : PSpec Tryd.prog 122 [.agg (enc .ent p), .rp [.s k]] (.b (keyIs k p)) :=
  pspec_of_vc Γ_good Tryd.func122 rfl Tryd.call122 Tryd.results122 Tryd.ntmps122 (Nat.le_of_ble_eq_true rfl) (w_fnd1 p k)
theorem w_put1 (p : Ent) (k : Str) : vc Tryd.prog Γ 8 [1, 2, 3] (Tryd.f123.body.getD .skip) (postK Γ [.tmp 3] (fun v => v = .b (keyGt k p))) ⟨argSlots 0 [.agg (enc .ent p), .rp [.s k]], []⟩ := by
  rfl
theorem s_put1 (p : Ent) (k : Str) : PSpec Tryd.prog 123 [.agg (enc .ent p), .rp [.s k]] (.b (keyGt k p)) :=
  pspec_of_vc Γ_good Tryd.func123 rfl Tryd.call123 Tryd.results123 Tryd.ntmps123 (Nat.le_of_ble_eq_true rfl) (w_put1 p k)
theorem w_ixE (l : List Ent) (k : Str) (q : Ent → Bool) (f : Nat) (hq : ∀ x ∈ l, PSpec Tryd.prog f [.agg (enc .ent x), .rp [.s k]] (.b (q x))) : vc Tryd.prog Γ 19 [0, 1, 4, 5, 7, 8, 9, 16] (Tryd.f121.body.getD .skip) (postK Γ [.tmp 4] (fun v => v = .i .i64 (ixI l q))) ⟨argSlots 0 [.rd .ent l, .fn f [.rp [.s k]]], []⟩ := by
  intro hl
  refine Exists.intro [] (Exists.intro [] (Exists.intro [] (Exists.intro Nat (Exists.intro (fun i => i ≤ l.length ∧ i ≤ l.findIdx q) (Exists.intro (fun i => ⟨[(0, .rd .ent l), (1, .fn f [.rp [.s k]]), (7, .i .i64 l.length), (8, .i .i64 i)], []⟩) (Exists.intro (fun i => l.length - i) (Exists.intro 0 (And.intro ⟨Nat.zero_le _, Nat.zero_le _⟩ (And.intro ?_ ?_)))))))))
  · (repeat' (first | exact trivial | exact Or.inl rfl | exact Or.inr (Or.inl ⟨rfl, _, rfl⟩) | exact Or.inr (Or.inr (Or.inr ⟨_, _, _, rfl, rfl⟩)) | refine And.intro ?_ ?_))
  · rintro i ⟨hi, hf⟩
    refine And.intro (fun he => ?_) (fun he => ?_)
    · have hi : i < l.length := by have : (i : Int) < (l.length : Int) := of_decide_eq_true he
                                   omega
      have hg : l.getD (Int.toNat (i : Int)) (dflt .ent) = l[i] := by rw [Int.toNat_natCast, List.getD_eq_getElem?_getD, List.getElem?_eq_getElem hi]; rfl
      refine And.intro ⟨by omega, by omega⟩ ?_
      have hs := hq l[i] (List.getElem_mem hi)
      rw [← hg] at hs
      refine Or.inl (Exists.intro _ (And.intro (hs) ?_))
      rw [hg]
      refine And.intro (fun hz => ?_) (fun hz => ?_)
      · have hz : q l[i] = true := hz
        rw [ix_hit hi hf hz]
        rfl
      · have hz : q l[i] = false := hz
        have := len_le hl
        (refine And.intro (rng64 (by omega) (by omega)) ?_)
        refine Exists.intro [] (Exists.intro (i + 1) (And.intro ⟨hi, ix_miss hi hf hz⟩ (And.intro ?_ ?_)))
        · (repeat' (first | exact trivial | exact Or.inl rfl | exact Or.inr (Or.inl ⟨rfl, _, rfl⟩) | exact Or.inr (Or.inr (Or.inr ⟨_, _, _, rfl, rfl⟩)) | refine And.intro ?_ ?_))
        · show l.length - (i + 1) < l.length - i
          omega
    · have hi : i = l.length := by have : ¬ (i : Int) < (l.length : Int) := of_decide_eq_false he
                                   omega
      rw [ix_none (by omega)]
      rfl
theorem s_ixE (l : List Ent) (k : Str) (q : Ent → Bool) (f : Nat) (hq : ∀ x ∈ l, PSpec Tryd.prog f [.agg (enc .ent x), .rp [.s k]] (.b (q x))) : PSpec Tryd.prog 121 [.rd .ent l, .fn f [.rp [.s k]]] (.i .i64 (ixI l q)) :=
  pspec_of_vc Γ_good Tryd.func121 rfl Tryd.call121 Tryd.results121 Tryd.ntmps121 (Nat.le_of_ble_eq_true rfl) (w_ixE l k q f hq)
theorem w_find (l : List Ent) (k : Str) : vc Tryd.prog Γ 8 [0, 3, 4] (Tryd.f81.body.getD .skip) (postK Γ [.tmp 4] (fun v => v = .i .i64 (ixI l (keyIs k)))) ⟨argSlots 0 [.rd .ent l, .s k], []⟩ := by
  refine Or.inr (Or.inr (Or.inl (Exists.intro _ (And.intro (s_ixE l k (keyIs k) 122 (fun x _ => s_fnd1 x k)) ?_))))
  rfl
theorem s_find (l : List Ent) (k : Str) : PSpec Tryd.prog 81 [.rd .ent l, .s k] (.i .i64 (ixI l (keyIs k))) :=
  pspec_of_vc Γ_good Tryd.func81 rfl Tryd.call81 Tryd.results81 Tryd.ntmps81 (Nat.le_of_ble_eq_true rfl) (w_find l k)
theorem w_entAt (l : List Ent) (k : Str) : vc Tryd.prog Γ 20 [0, 1, 4, 5, 6, 7, 8, 9, 10, 17] (Tryd.f75.body.getD .skip) (postK Γ [.tmp 4] (fun v => v = .i .i64 (ixI l (keyIs k)))) ⟨argSlots 0 [.rd .ent l, .s k], []⟩ := by
  intro hl
  refine Exists.intro [] (Exists.intro [] (Exists.intro [] (Exists.intro Nat (Exists.intro (fun i => i ≤ l.length ∧ i ≤ l.findIdx (keyIs k)) (Exists.intro (fun i => ⟨[(1, .s k), (7, .rd .ent l), (8, .i .i64 l.length), (9, .i .i64 i)], []⟩) (Exists.intro (fun i => l.length - i) (Exists.intro 0 (And.intro ⟨Nat.zero_le _, Nat.zero_le _⟩ (And.intro ?_ ?_)))))))))
  · (repeat' (first | exact trivial | exact Or.inl rfl | exact Or.inr (Or.inl ⟨rfl, _, rfl⟩) | exact Or.inr (Or.inr (Or.inr ⟨_, _, _, rfl, rfl⟩)) | refine And.intro ?_ ?_))
  · rintro i ⟨hi, hf⟩
    refine And.intro (fun he => ?_) (fun he => ?_)
    · have hi : i < l.length := by have : (i : Int) < (l.length : Int) := of_decide_eq_true he
                                   omega
      have hg : l.getD (Int.toNat (i : Int)) (dflt .ent) = l[i] := by rw [Int.toNat_natCast, List.getD_eq_getElem?_getD, List.getElem?_eq_getElem hi]; rfl
      refine And.intro ⟨by omega, by omega⟩ ?_
      refine And.intro (fun hz => ?_) (fun hz => ?_)
      · have hz : keyIs k l[i] = true := by rw [← hg]; exact hz
        rw [ix_hit hi hf hz]
        rfl
      · have hz : keyIs k l[i] = false := by rw [← hg]; exact hz
        have := len_le hl
        (refine And.intro (rng64 (by omega) (by omega)) ?_)
        refine Exists.intro [] (Exists.intro (i + 1) (And.intro ⟨hi, ix_miss hi hf hz⟩ (And.intro ?_ ?_)))
        · (repeat' (first | exact trivial | exact Or.inl rfl | exact Or.inr (Or.inl ⟨rfl, _, rfl⟩) | exact Or.inr (Or.inr (Or.inr ⟨_, _, _, rfl, rfl⟩)) | refine And.intro ?_ ?_))
        · show l.length - (i + 1) < l.length - i
          omega
    · have hi : i = l.length := by have : ¬ (i : Int) < (l.length : Int) := of_decide_eq_false he
                                   omega
      rw [ix_none (by omega)]
      rfl
theorem s_entAt (l : List Ent) (k : Str) : PSpec Tryd.prog 75 [.rd .ent l, .s k] (.i .i64 (ixI l (keyIs k))) :=
  pspec_of_vc Γ_good Tryd.func75 rfl Tryd.call75 Tryd.results75 Tryd.ntmps75 (Nat.le_of_ble_eq_true rfl) (w_entAt l k)
theorem w_wout (l : List Ent) (k : Str) (hl1 : l.length ≤ 100000000) : vc Tryd.prog Γ 24 [0, 1, 4, 5, 7, 8, 9, 10, 11, 17] (Tryd.f87.body.getD .skip) (postK Γ [.tmp 4] (fun v => v = .rd .ent (withoutE l k))) ⟨argSlots 0 [.rd .ent l, .s k], []⟩ := by
  intro hl
  refine Exists.intro [(5, 5, .ent)] (Exists.intro [] (Exists.intro [] (Exists.intro Nat (Exists.intro (fun i => i ≤ l.length) (Exists.intro (fun i => ⟨[(1, .s k), (5, .vec 5 .ent (withoutE (l.take i) k)), (8, .rd .ent l), (9, .i .i64 l.length), (10, .i .i64 i)], []⟩) (Exists.intro (fun i => l.length - i) (Exists.intro 0 (And.intro (Nat.zero_le _) (And.intro ?_ ?_)))))))))
  · (repeat' (first | exact trivial | exact Or.inl rfl | exact Or.inr (Or.inl ⟨rfl, _, rfl⟩) | exact Or.inr (Or.inr (Or.inr ⟨_, _, _, rfl, rfl⟩)) | refine And.intro ?_ ?_))
  · rintro i hi
    refine And.intro (fun he => ?_) (fun he => ?_)
    · have hi : i < l.length := by have : (i : Int) < (l.length : Int) := of_decide_eq_true he
                                   omega
      have hg : l.getD (Int.toNat (i : Int)) (dflt .ent) = l[i] := by rw [Int.toNat_natCast, List.getD_eq_getElem?_getD, List.getElem?_eq_getElem hi]; rfl
      refine And.intro ⟨by omega, by omega⟩ ?_
      refine And.intro (fun hz => ?_) (fun hz => ?_)
      · have hz : keyIs k l[i] = false := by rw [← hg]; simpa [keyIs] using hz
        rw [hg]
        have hfl := filter_len (l := l) (k := k) (i := i)
        refine And.intro (show ((withoutE (l.take i) k).length + 1) * 104 ≤ 140737488355328 by omega) ?_
        (refine And.intro (rng64 (by omega) (by omega)) ?_)
        refine Exists.intro [(21, 5)] (Exists.intro (i + 1) (And.intro hi (And.intro ?_ ?_)))
        · have e : withoutE (l.take i) k ++ [(l[i].1, (⟨l[i].2.kind, l[i].2.n, l[i].2.f, l[i].2.s, l[i].2.l, l[i].2.e⟩ : Val))] = withoutE (l.take (i + 1)) k := by rw [val_eta]; exact (filter_next hi hz).symm
          (repeat' (first | exact trivial | exact Or.inl rfl | exact Or.inl ((congrArg (AV.vec 5 .ent) e)) | refine And.intro ?_ ?_))
        · show l.length - (i + 1) < l.length - i
          omega
      · have hz : keyIs k l[i] = true := by rw [← hg]; simpa [keyIs] using hz
        (refine And.intro (rng64 (by omega) (by omega)) ?_)
        refine Exists.intro [] (Exists.intro (i + 1) (And.intro hi (And.intro ?_ ?_)))
        · (repeat' (first | exact trivial | exact Or.inl rfl | exact Or.inl ((congrArg (AV.vec 5 .ent) (filter_skip hi hz).symm)) | refine And.intro ?_ ?_))
        · show l.length - (i + 1) < l.length - i
          omega
    · have hi : i = l.length := by have : ¬ (i : Int) < (l.length : Int) := of_decide_eq_false he
                                   omega
      subst hi
      rw [List.take_length]
      rfl
theorem s_wout (l : List Ent) (k : Str) (hl1 : l.length ≤ 100000000) : PSpec Tryd.prog 87 [.rd .ent l, .s k] (.rd .ent (withoutE l k)) :=
  pspec_of_vc Γ_good Tryd.func87 rfl Tryd.call87 Tryd.results87 Tryd.ntmps87 (Nat.le_of_ble_eq_true rfl) (w_wout l k hl1)
end
end Go.Proofs.YtmfchbkdakmjhaaDoor
end
section
namespace Go.SX
set_option linter.unusedSectionVars false
set_option linter.unusedVariables false
set_option linter.unusedSimpArgs false
variable [Globs]
open Go.RowKit Go.WideShapes Go.ChangeShapes Go.Deep
/-- no list of it, at whatever depth, is longer than n -/
inductive VN (n : Nat) : Val → Prop
  | mk (a : Val) : a.l.length ≤ n → a.e.length ≤ n → (∀ x ∈ a.l, VN n x) → (∀ p ∈ a.e, VN n p.2) → VN n a
theorem VN.mono {n m : Nat} (h : n ≤ m) {a : Val} (ha : VN n a) : VN m a := by
  induction ha with
  | mk a h1 h2 _ _ i1 i2 => exact .mk a (Nat.le_trans h1 h) (Nat.le_trans h2 h) i1 i2
/-- a measure of data by which a whole is no less than its parts -/
structure Bulk {H : Type} (bk : DataW H → Nat) : Prop where
  len : ∀ els rest, els.length ≤ bk (.slice els rest)
  el : ∀ els rest, ∀ d ∈ els, bk d ≤ bk (.slice els rest)
  part : ∀ ds, ∀ d ∈ ds, bk d ≤ bk (.agg ds)
section
variable {H : Type} {encH : TypeId × Value → H} {P : Program} {W : World} {sp : Nat → Bool} {hd : Bool} {O : Nat → Prop} {bk : DataW H → Nat}
end
end Go.SX
end
section
namespace Go.Proofs.YtmfchbkdakmjhaaDoor
set_option linter.unusedSectionVars false
set_option linter.unusedSimpArgs false
set_option linter.unusedVariables false
open Go Go.SX Go.Vl
set_option maxRecDepth 100000
set_option maxHeartbeats 0
section
variable [G : Globs]
theorem w_own (a : Val) (hl : a.l.length ≤ 100000000) (he : a.e.length ≤ 100000000) (hc : ∀ x ∈ a.l, PSpec Tryd.prog 45 [.agg (encVal x)] (.agg (encVal x))) (hp : ∀ x ∈ a.e, PSpec Tryd.prog 45 [.agg (encVal x.2)] (.agg (encVal x.2))) : vc Tryd.prog Γ 48 [1, 2, 3, 4, 6, 8, 15, 16, 17, 18, 29, 30, 31, 32] (Tryd.f45.body.getD .skip) (postK Γ [.cell 2 26] (fun v => v = .agg (encVal a))) ⟨argSlots 0 [.agg (encVal a)], []⟩ := by
  refine Exists.intro [.blk [0, 1, 2, 3, 4, 5]] (And.intro (by kernel_rfl) ?_)
  intro hml
  refine Exists.intro [] (Exists.intro [(1, 4, 47, .val)] (Exists.intro [] (Exists.intro Nat (Exists.intro (fun i => i ≤ a.l.length) (Exists.intro (fun i => ⟨[(1, .pt 1 0), (2, .pt 2 0), (4, .rd .ent a.e), (15, .rd .val a.l), (16, .i .i64 a.l.length), (17, .i .i64 i)], [(1, [.i .i64 a.kind, .i .i64 a.n, .i .u64 a.f, .s a.s, .vec 47 .val (a.l.take i), .nl]), (2, [.i .i64 0, .i .i64 0, .i .u64 0, .s [], .nl, .nl])]⟩) (Exists.intro (fun i => a.l.length - i) (Exists.intro 0 (And.intro (Nat.zero_le _) (And.intro ?_ ?_)))))))))
  · (repeat' (first | exact trivial | exact Or.inl rfl | exact Or.inr (Or.inl ⟨rfl, _, rfl⟩) | exact Or.inr (Or.inr (Or.inr ⟨_, _, _, rfl, rfl⟩)) | refine And.intro ?_ ?_))
  · rintro i hi
    refine And.intro (fun hz => ?_) (fun hz => ?_)
    · have hi : i < a.l.length := by have : (i : Int) < (a.l.length : Int) := of_decide_eq_true hz
                                     omega
      have hg : a.l.getD (Int.toNat (i : Int)) (dflt .val) = a.l[i] := by rw [Int.toNat_natCast, List.getD_eq_getElem?_getD, List.getElem?_eq_getElem hi]; rfl
      refine And.intro ⟨by omega, by omega⟩ ?_
      have hs := hc a.l[i] (List.getElem_mem hi)
      rw [← hg] at hs
      refine Exists.intro [.blk [0, 1, 2, 3, 4] [25], .one 5, .take 6, .one 7] (And.intro (by kernel_rfl) ?_)
      refine Exists.intro _ (And.intro (hs) ?_)
      rw [hg]
      refine And.intro (show ((a.l.take i).length + 1) * 88 ≤ 140737488355328 by rw [List.length_take]; omega) ?_
      (refine And.intro (rng64 (by omega) (by omega)) ?_)
      have e : a.l.take i ++ [(⟨a.l[i].kind, a.l[i].n, a.l[i].f, a.l[i].s, a.l[i].l, a.l[i].e⟩ : Val)] = a.l.take (i + 1) := by rw [val_eta, List.take_add_one, List.getElem?_eq_getElem hi]; rfl
      refine Exists.intro [(26, 47)] (Exists.intro (i + 1) (And.intro hi (And.intro ?_ ?_)))
      · (repeat' (first | exact trivial | exact Or.inl rfl | exact Or.inl ((congrArg (AV.vec 47 .val) e)) | refine And.intro ?_ ?_))
      · show a.l.length - (i + 1) < a.l.length - i
        omega
    · have hi : i = a.l.length := by have : ¬ (i : Int) < (a.l.length : Int) := of_decide_eq_false hz
                                     omega
      subst hi
      rw [List.take_length]
      intro hme
      refine Exists.intro [] (Exists.intro [(1, 5, 46, .ent)] (Exists.intro [] (Exists.intro Nat (Exists.intro (fun i => i ≤ a.e.length) (Exists.intro (fun i => ⟨[(1, .pt 1 0), (2, .pt 2 0), (29, .rd .ent a.e), (30, .i .i64 a.e.length), (31, .i .i64 i)], [(1, [.i .i64 a.kind, .i .i64 a.n, .i .u64 a.f, .s a.s, .vec 47 .val a.l, .vec 46 .ent (a.e.take i)]), (2, [.i .i64 0, .i .i64 0, .i .u64 0, .s [], .nl, .nl])]⟩) (Exists.intro (fun i => a.e.length - i) (Exists.intro 0 (And.intro (Nat.zero_le _) (And.intro ?_ ?_)))))))))
      · (repeat' (first | exact trivial | exact Or.inl rfl | exact Or.inr (Or.inl ⟨rfl, _, rfl⟩) | exact Or.inr (Or.inr (Or.inr ⟨_, _, _, rfl, rfl⟩)) | refine And.intro ?_ ?_))
      · rintro i hi
        refine And.intro (fun hz => ?_) (fun hz => ?_)
        · have hi : i < a.e.length := by have : (i : Int) < (a.e.length : Int) := of_decide_eq_true hz
                                         omega
          have hg : a.e.getD (Int.toNat (i : Int)) (dflt .ent) = a.e[i] := by rw [Int.toNat_natCast, List.getD_eq_getElem?_getD, List.getElem?_eq_getElem hi]; rfl
          refine And.intro ⟨by omega, by omega⟩ ?_
          have hs := hp a.e[i] (List.getElem_mem hi)
          rw [← hg] at hs
          refine Exists.intro [.blk [0, 1, 2, 3, 4, 5, 6, 7, 8] [43], .one 9, .take 10, .one 11] (And.intro (by kernel_rfl) ?_)
          refine Exists.intro _ (And.intro (hs) ?_)
          rw [hg]
          refine And.intro (show ((a.e.take i).length + 1) * 104 ≤ 140737488355328 by rw [List.length_take]; omega) ?_
          (refine And.intro (rng64 (by omega) (by omega)) ?_)
          have e : a.e.take i ++ [(a.e[i].1, (⟨a.e[i].2.kind, a.e[i].2.n, a.e[i].2.f, a.e[i].2.s, a.e[i].2.l, a.e[i].2.e⟩ : Val))] = a.e.take (i + 1) := by rw [val_eta, List.take_add_one, List.getElem?_eq_getElem hi]; rfl
          refine Exists.intro [(44, 46)] (Exists.intro (i + 1) (And.intro hi (And.intro ?_ ?_)))
          · (repeat' (first | exact trivial | exact Or.inl rfl | exact Or.inl ((congrArg (AV.vec 46 .ent) e)) | refine And.intro ?_ ?_))
          · show a.e.length - (i + 1) < a.e.length - i
            omega
        · have hi : i = a.e.length := by have : ¬ (i : Int) < (a.e.length : Int) := of_decide_eq_false hz
                                         omega
          subst hi
          rw [List.take_length]
          rfl
theorem s_own (a : Val) (hl : a.l.length ≤ 100000000) (he : a.e.length ≤ 100000000) (hc : ∀ x ∈ a.l, PSpec Tryd.prog 45 [.agg (encVal x)] (.agg (encVal x))) (hp : ∀ x ∈ a.e, PSpec Tryd.prog 45 [.agg (encVal x.2)] (.agg (encVal x.2))) : PSpec Tryd.prog 45 [.agg (encVal a)] (.agg (encVal a)) :=
  pspec_of_vc Γ_good Tryd.func45 rfl Tryd.call45 Tryd.results45 Tryd.ntmps45 (Nat.le_of_ble_eq_true rfl) (w_own a hl he hc hp)
theorem own_spec : ∀ (m : Nat) (a : Val), SizeOf.sizeOf a < m → VN 100000000 a → PSpec Tryd.prog 45 [.agg (encVal a)] (.agg (encVal a)) := by
  intro m
  induction m with
  | zero => intro a h; exact absurd h (Nat.not_lt_zero _)
  | succ m ih =>
    intro a hs ha
    cases ha with
    | mk _ a1 a2 a3 a4 =>
      refine s_own a a1 a2 (fun x hx => ih x ?_ (a3 x hx)) (fun x hx => ih x.2 ?_ (a4 x hx))
      · have := val_sz_l hx; omega
      · have := val_sz_e hx; omega
theorem s_Own (a : Val) (ha : VN 100000000 a) : PSpec Tryd.prog 45 [.agg (encVal a)] (.agg (encVal a)) := own_spec _ a (Nat.lt_succ_self _) ha
theorem w_drop (l : List Ent) (k : Str) (hl1 : l.length ≤ 100000000) (hn : ∀ p ∈ l, VN 100000000 p.2) : vc Tryd.prog Γ 29 [0, 1, 4, 5, 7, 8, 9, 10, 11, 17] (Tryd.f83.body.getD .skip) (postK Γ [.tmp 4] (fun v => v = .rd .ent (withoutE l k))) ⟨argSlots 0 [.rd .ent l, .s k], []⟩ := by
  intro hl
  refine Exists.intro [(5, 5, .ent)] (Exists.intro [] (Exists.intro [] (Exists.intro Nat (Exists.intro (fun i => i ≤ l.length) (Exists.intro (fun i => ⟨[(1, .s k), (5, .vec 5 .ent (withoutE (l.take i) k)), (8, .rd .ent l), (9, .i .i64 l.length), (10, .i .i64 i)], []⟩) (Exists.intro (fun i => l.length - i) (Exists.intro 0 (And.intro (Nat.zero_le _) (And.intro ?_ ?_)))))))))
  · (repeat' (first | exact trivial | exact Or.inl rfl | exact Or.inr (Or.inl ⟨rfl, _, rfl⟩) | exact Or.inr (Or.inr (Or.inr ⟨_, _, _, rfl, rfl⟩)) | refine And.intro ?_ ?_))
  · rintro i hi
    refine And.intro (fun he => ?_) (fun he => ?_)
    · have hi : i < l.length := by have : (i : Int) < (l.length : Int) := of_decide_eq_true he
                                   omega
      have hg : l.getD (Int.toNat (i : Int)) (dflt .ent) = l[i] := by rw [Int.toNat_natCast, List.getD_eq_getElem?_getD, List.getElem?_eq_getElem hi]; rfl
      refine And.intro ⟨by omega, by omega⟩ ?_
      refine And.intro (fun hz => ?_) (fun hz => ?_)
      · have hz : keyIs k l[i] = false := by rw [← hg]; simpa [keyIs] using hz
        have hs := s_Own l[i].2 (hn _ (List.getElem_mem hi))
        rw [← hg] at hs
        refine Exists.intro [.blk [0, 1, 2, 3, 4, 5, 6, 7] [25], .one 8, .take 9] (And.intro (by kernel_rfl) ?_)
        refine Exists.intro _ (And.intro (hs) ?_)
        rw [hg]
        have hfl := filter_len (l := l) (k := k) (i := i)
        refine And.intro (show ((withoutE (l.take i) k).length + 1) * 104 ≤ 140737488355328 by omega) ?_
        (refine And.intro (rng64 (by omega) (by omega)) ?_)
        refine Exists.intro [(26, 5)] (Exists.intro (i + 1) (And.intro hi (And.intro ?_ ?_)))
        · have e : withoutE (l.take i) k ++ [(l[i].1, (⟨l[i].2.kind, l[i].2.n, l[i].2.f, l[i].2.s, l[i].2.l, l[i].2.e⟩ : Val))] = withoutE (l.take (i + 1)) k := by rw [val_eta]; exact (filter_next hi hz).symm
          (repeat' (first | exact trivial | exact Or.inl rfl | exact Or.inl ((congrArg (AV.vec 5 .ent) e)) | refine And.intro ?_ ?_))
        · show l.length - (i + 1) < l.length - i
          omega
      · have hz : keyIs k l[i] = true := by rw [← hg]; simpa [keyIs] using hz
        (refine And.intro (rng64 (by omega) (by omega)) ?_)
        refine Exists.intro [] (Exists.intro (i + 1) (And.intro hi (And.intro ?_ ?_)))
        · (repeat' (first | exact trivial | exact Or.inl rfl | exact Or.inl ((congrArg (AV.vec 5 .ent) (filter_skip hi hz).symm)) | refine And.intro ?_ ?_))
        · show l.length - (i + 1) < l.length - i
          omega
    · have hi : i = l.length := by have : ¬ (i : Int) < (l.length : Int) := of_decide_eq_false he
                                   omega
      subst hi
      rw [List.take_length]
      rfl
theorem s_drop (l : List Ent) (k : Str) (hl1 : l.length ≤ 100000000) (hn : ∀ p ∈ l, VN 100000000 p.2) : PSpec Tryd.prog 83 [.rd .ent l, .s k] (.rd .ent (withoutE l k)) :=
  pspec_of_vc Γ_good Tryd.func83 rfl Tryd.call83 Tryd.results83 Tryd.ntmps83 (Nat.le_of_ble_eq_true rfl) (w_drop l k hl1 hn)
end
end Go.Proofs.YtmfchbkdakmjhaaDoor
end
section
namespace Go.Proofs.YtmfchbkdakmjhaaDoor
set_option linter.unusedSectionVars false
set_option linter.unusedSimpArgs false
set_option linter.unusedVariables false
open Go Go.SX Go.Vl
set_option maxRecDepth 100000
set_option maxHeartbeats 0
section
variable [G : Globs]
theorem w_with (l : List Ent) (k : Str) (a : Val) (hl1 : l.length ≤ 100000000) : VCs Tryd.prog Γ 39 [0, 1, 5, 6, 7, 23] (Tryd.f86.body.getD .skip) (postK Γ [.tmp 6] (fun v => v = .rd .ent (putE l k a))) ⟨argSlots 0 [.rd .ent l, .s k, .agg (encVal a)], []⟩ := by
  refine VCs.seq (by first | exact Γ_good | exact Ctx.good_kp Γ_good _) ?_
  refine VCs.seq (by first | exact Γ_good | exact Ctx.good_kp Γ_good _) ?_
  refine Or.inl (Exists.intro _ (And.intro (s_wout l k hl1) ?_))
  have hml : (withoutE l k).length ≤ l.length := List.length_filter_le _ _
  unfold putE
  generalize withoutE l k = m at hml
  refine VCs.seq (by first | exact Γ_good | exact Ctx.good_kp Γ_good _) ?_
  refine VCs.cut (by first | exact Γ_good | exact Ctx.good_kp Γ_good _) Unit (fun _ => True) (fun _ => ⟨[(0, .rd .ent m), (1, .s k), (5, .pt 5 0), (7, .i .i64 (m.findIdx (keyGt k) : Nat))], [(5, encVal a)]⟩) ?_ ?_
  · refine Exists.intro [] (Exists.intro [] (Exists.intro [] (Exists.intro Nat (Exists.intro (fun i => i ≤ m.length ∧ i ≤ m.findIdx (keyGt k)) (Exists.intro (fun i => ⟨[(0, .rd .ent m), (1, .s k), (5, .pt 5 0), (7, .i .i64 i)], [(5, encVal a)]⟩) (Exists.intro (fun i => m.length - i) (Exists.intro 0 (And.intro ⟨Nat.zero_le _, Nat.zero_le _⟩ (And.intro ?_ ?_)))))))))
    · (repeat' (first | exact trivial | exact Or.inl rfl | exact Or.inr (Or.inl ⟨rfl, _, rfl⟩) | exact Or.inr (Or.inr (Or.inr ⟨_, _, _, rfl, rfl⟩)) | refine And.intro ?_ ?_))
    · rintro i ⟨hi, hf⟩
      intro _
      refine And.intro (fun hz => ?_) (fun hz => ?_)
      · have hi : i < m.length := by have : (i : Int) < (m.length : Int) := of_decide_eq_true hz
                                     omega
        have hg : m.getD (Int.toNat (i : Int)) (dflt .ent) = m[i] := by rw [Int.toNat_natCast, List.getD_eq_getElem?_getD, List.getElem?_eq_getElem hi]; rfl
        refine And.intro ⟨by omega, by omega⟩ ?_
        refine And.intro (fun hq => ?_) (fun hq => ?_)
        · have hq : keyGt k m[i] = false := by
            rw [hg] at hq
            have hq : (Op.bytesLess m[i].1 k || m[i].1 == k) = true := hq
            rw [keyGt, hq]; rfl
          (refine And.intro (rng64 (by omega) (by omega)) ?_)
          refine Exists.intro [] (Exists.intro (i + 1) (And.intro ⟨hi, ix_miss hi hf hq⟩ (And.intro ?_ ?_)))
          · (repeat' (first | exact trivial | exact Or.inl rfl | exact Or.inr (Or.inl ⟨rfl, _, rfl⟩) | exact Or.inr (Or.inr (Or.inr ⟨_, _, _, rfl, rfl⟩)) | refine And.intro ?_ ?_))
          · show m.length - (i + 1) < m.length - i
            omega
        · have hq : keyGt k m[i] = true := by
            rw [hg] at hq
            have hq : (Op.bytesLess m[i].1 k || m[i].1 == k) = false := hq
            rw [keyGt, hq]; rfl
          have e : i = m.findIdx (keyGt k) := by
            have := List.not_of_lt_findIdx (p := keyGt k) (xs := m) (i := i)
            rcases Nat.lt_or_ge i (m.findIdx (keyGt k)) with h1 | h1
            · have := this h1
              rw [hq] at this
              cases this
            · omega
          refine Exists.intro () (And.intro trivial ?_)
          (repeat' (first | exact trivial | exact Or.inl rfl | exact Or.inl ((congrArg (fun n : Nat => AV.i .i64 n) e)) | refine And.intro ?_ ?_))
      · have hi : i = m.length := by have : ¬ (i : Int) < (m.length : Int) := of_decide_eq_false hz
                                     omega
        have e : i = m.findIdx (keyGt k) := by
          have := List.findIdx_le_length (p := keyGt k) (xs := m)
          omega
        refine And.intro (fun h9 => Bool.noConfusion h9) (fun _ => ?_)
        refine Exists.intro () (And.intro trivial ?_)
        (repeat' (first | exact trivial | exact Or.inl rfl | exact Or.inl ((congrArg (fun n : Nat => AV.i .i64 n) e)) | refine And.intro ?_ ?_))
  rintro _ _
  have hle := List.findIdx_le_length (p := keyGt k) (xs := m)
  generalize m.findIdx (keyGt k) = j at hle
  refine VCs.of_vc (by first | exact Γ_good | exact Ctx.good_kp Γ_good _) ?_
  refine Exists.intro [.take 0, .take 1, .take 2, .take 4, .take 9, .take 10, .take 11, .tree 4 [3, 5, 6, 7] (.opt 3 (.opt 5 (.opt 6 (.opt 7 .fin .non) .non) .non) (.opt 5 (.opt 3 (.opt 6 (.opt 7 .fin .non) .non) (.opt 6 (.opt 3 (.opt 7 .fin .non) (.opt 7 (.opt 3 .fin .non) .non)) .non)) .non)), .one 8, .one 12, .take 13] (And.intro (by kernel_rfl) ?_)
  refine And.intro ⟨by omega, by omega, by omega⟩ ?_
  refine And.intro ⟨by omega, by omega⟩ ?_
  have hob : (List.drop (Int.toNat 0) (m.take (Int.toNat (j : Int)))).length * 104 ≤ 140737488355328 := by
    rw [List.length_drop, List.length_take]
    omega
  refine Exists.intro ⟨[(29, .vec 29 .ent (m.take j)), (33, .vec 33 .ent [(k, ⟨a.kind, a.n, a.f, a.s, a.l, a.e⟩)]), (37, .rd .ent ((m.take m.length).drop j))], []⟩ (And.intro ?_ ?_)
  · repeat' (first | exact trivial | exact hob | exact Or.inl rfl | refine And.intro ?_ ?_)
  rw [List.take_length]
  refine And.intro (show ((m.take j).length + 1) * 104 ≤ 140737488355328 by rw [List.length_take]; omega) ?_
  refine And.intro (show ((m.take j ++ [(k, (⟨a.kind, a.n, a.f, a.s, a.l, a.e⟩ : Val))]).length + (m.drop j).length) * 104 ≤ 140737488355328 by rw [List.length_append, List.length_take, List.length_drop, List.length_singleton]; omega) ?_
  have e : m.take j ++ [(k, (⟨a.kind, a.n, a.f, a.s, a.l, a.e⟩ : Val))] ++ m.drop j = m.take j ++ (k, a) :: m.drop j := by rw [val_eta, List.append_assoc]; rfl
  exact congrArg (AV.rd .ent) e
theorem s_with (l : List Ent) (k : Str) (a : Val) (hl1 : l.length ≤ 100000000) : PSpec Tryd.prog 86 [.rd .ent l, .s k, .agg (encVal a)] (.rd .ent (putE l k a)) :=
  pspec_of_VCs Γ_good Tryd.func86 rfl Tryd.call86 Tryd.results86 Tryd.ntmps86 (Nat.le_of_ble_eq_true rfl) (w_with l k a hl1) Γ_good
end
end Go.Proofs.YtmfchbkdakmjhaaDoor
end
section
namespace Go.Proofs.YtmfchbkdakmjhaaDoor
set_option linter.unusedSectionVars false
set_option linter.unusedSimpArgs false
set_option linter.unusedVariables false
open Go Go.SX Go.Vl
set_option maxRecDepth 100000
set_option maxHeartbeats 0
section
variable [G : Globs]
end
end Go.Proofs.YtmfchbkdakmjhaaDoor
end
section
namespace Go.SX
set_option linter.unusedSectionVars false
set_option linter.unusedSimpArgs false
set_option linter.unusedVariables false
variable {P : Program}
/-- a row of which cells are turned -/
def spl (cur : Array Value) (o : Nat) (cs : List Value) : Array Value := (cur.toList.take o ++ cs ++ cur.toList.drop (o + cs.length)).toArray
theorem spl_size {cur : Array Value} {o : Nat} {cs : List Value} (h : o + cs.length ≤ cur.size) : (spl cur o cs).size = cur.size := by
  have : cur.toList.length = cur.size := Array.length_toList
  simp only [spl, List.size_toArray, List.length_append, List.length_take, List.length_drop, this]
  omega
theorem spl_at {cur : Array Value} {o : Nat} {cs : List Value} (h : o + cs.length ≤ cur.size) (k : Nat) : (spl cur o cs)[k]? = if k < o then cur[k]? else if k < o + cs.length then cs[k - o]? else cur[k]? := by
  have hl : cur.toList.length = cur.size := Array.length_toList
  rw [spl, List.getElem?_toArray, List.append_assoc]
  have ht : (cur.toList.take o).length = o := by rw [List.length_take, hl]; omega
  by_cases h1 : k < o
  · rw [if_pos h1, List.getElem?_append_left (by omega), List.getElem?_take, if_pos h1, Array.getElem?_toList]
  · rw [if_neg h1, List.getElem?_append_right (by omega), ht]
    by_cases h2 : k < o + cs.length
    · rw [if_pos h2, List.getElem?_append_left (by omega)]
    · rw [if_neg h2, List.getElem?_append_right (by omega), List.getElem?_drop, Array.getElem?_toList]
      congr 1
      omega
/-- all is read before anything is written -/
theorem run_copyR (w : World) (dT sT ty elem : TypeId) (z g o dLen dCap : Nat) (a : Addr) (sLen sCap : Nat) (cs : List Value) (cur : Array Value) (e : TypeId)
    (hu : P.underlying dT = some (.slice elem)) (hs : ∀ w, (Go.sizeOf elem).run P w = .ok z w) (hn : cs.length = Nat.min sLen dLen * z)
    (hsrc : ∀ j v, cs[j]? = some v → w.cell? (a.add j) = some v) (hh : w.heap[g]? = some (.cells cur e (0, 0))) (hfit : o + cs.length ≤ cur.size) (h1 : ∀ v ∈ cs, v.oneCell' = true) :
    (Builtin.copy_ #[dT, sT] ty #[.slice (some ⟨g, o, none⟩) dLen dCap, .slice (some a) sLen sCap]).run P w = .ok (goInt (Nat.min sLen dLen)) (w.setRow g (spl cur o cs)) := by
  have hl := run_loadCells_list (P := P) w a cs hsrc
  have hst := run_storeCells_at P g o e cs 0 cur w hh (by simpa using hfit) h1
  simp only [Nat.add_zero] at hst
  simp [Builtin.copy_, run_underlying hu, Builtin.lenOf, Builtin.firstCells, hs, ← hn, hl, hst, spl]
section
variable [Globs]
theorem All2.take {α γ : Type} {R : α → γ → Prop} {a : List α} {b : List γ} (h : All2 R a b) (n : Nat) : All2 R (a.take n) (b.take n) := by
  refine ⟨by rw [List.length_take, List.length_take, h.1], fun j x y hx hy => ?_⟩
  rw [List.getElem?_take] at hx hy
  split at hx
  · rename_i hj
    rw [if_pos hj] at hy
    exact h.2 j x y hx hy
  · cases hx
theorem All2.drop {α γ : Type} {R : α → γ → Prop} {a : List α} {b : List γ} (h : All2 R a b) (n : Nat) : All2 R (a.drop n) (b.drop n) := by
  refine ⟨by rw [List.length_drop, List.length_drop, h.1], fun j x y hx hy => ?_⟩
  rw [List.getElem?_drop] at hx hy
  exact h.2 _ x y hx hy
theorem flat_take (τ : Ty) (l : List (den τ)) (i : Nat) (hi : i ≤ l.length) : flat τ (l.take i) = (flat τ l).take (i * esz τ) := by
  have h := flat_append τ (l.take i) (l.drop i)
  rw [List.take_append_drop] at h
  rw [h, List.take_left' (by rw [flat_length, List.length_take, Nat.min_eq_left hi])]
theorem flat_drop (τ : Ty) (l : List (den τ)) (i : Nat) (hi : i ≤ l.length) : flat τ (l.drop i) = (flat τ l).drop (i * esz τ) := by
  have h := flat_append τ (l.take i) (l.drop i)
  rw [List.take_append_drop] at h
  rw [h, List.drop_left' (by rw [flat_length, List.length_take, Nat.min_eq_left hi])]
/-- the cells of a list into which one element is put -/
theorem ins_cells {O : Nat → Prop} {w : World} {τ : Ty} {l : List (den τ)} {x : den τ} {us vs : List Value} (h : All2 (Im O w) (flat τ l) us) (h2 : All2 (Im O w) (flat τ [x]) vs) (i : Nat) (hi : i ≤ l.length) :
    All2 (Im O w) (flat τ (l.take i ++ x :: l.drop i)) (us.take (i * esz τ) ++ (vs ++ us.drop (i * esz τ))) := by
  rw [flat_append, show x :: l.drop i = [x] ++ l.drop i from rfl, flat_append, flat_take τ l i hi, flat_drop τ l i hi]
  exact (h.take _).append (h2.append (h.drop _))
/-- a row of which three parts are known -/
theorem row_pre {row : Array Value} {A B C : List Value} (h1 : ∀ j, j < A.length → row[j]? = A[j]?) (h2 : ∀ j, j < B.length → row[A.length + j]? = B[j]?) (h3 : ∀ j, j < C.length → row[A.length + B.length + j]? = C[j]?) :
    ∀ (j : Nat) u, (A ++ (B ++ C))[j]? = some u → row[j]? = some u := by
  intro j u hj
  by_cases c1 : j < A.length
  · rw [List.getElem?_append_left c1] at hj
    rw [h1 j c1, hj]
  · rw [List.getElem?_append_right (by omega)] at hj
    by_cases c2 : j - A.length < B.length
    · rw [List.getElem?_append_left c2] at hj
      have := h2 _ c2
      rw [show A.length + (j - A.length) = j by omega] at this
      rw [this, hj]
    · rw [List.getElem?_append_right (by omega)] at hj
      have c3 : j - A.length - B.length < C.length := (List.getElem?_eq_some_iff.1 hj).1
      have := h3 _ c3
      rw [show A.length + B.length + (j - A.length - B.length) = j by omega] at this
      rw [this, hj]
/-- where one own slice is handed back -/
theorem vec_end {F : Fr} {X : Nat → Prop} {N : Nat} {s : St} {β : Nat → Option Nat} {a : Act} {w w' : World} (hN : 1 ≤ N) (hI : InvB w F X N s β a w) {id g c : Nat} {τ : Ty} {L : List (den τ)} {cur : Array Value} {e : TypeId} {us : List Value}
    (hstp : Stp (fun k => k = g) w w') (hg : (Nm s id ∧ β id = some g) ∨ w.heap.size ≤ g) (hh : w'.heap[g]? = some (.cells cur e (0, 0))) (hlc : L.length ≤ c) (hc : c ≤ maxLen) (hsz : cur.size = c * esz τ)
    (hus : All2 (Im (Own X s β) w) (flat τ L) us) (hpre : ∀ (j : Nat) u, us[j]? = some u → cur[j]? = some u) (ha : a.defers = [] := by rfl) :
    InvB w F X 1 ⟨[(0, .vec id τ L)], []⟩ (fun n => if n = id then some g else none) ⟨#[.slice (some ⟨g, 0, none⟩) L.length c], []⟩ w' := by
  have hNm : ∀ n, Nm ⟨[(0, .vec id τ L)], []⟩ n → n = id := by
    rintro n (⟨cs, h⟩ | ⟨m, h⟩ | ⟨b, cs, h, _⟩)
    · cases h
    · simp only [look] at h
      cases hb : Nat.beq 0 m with
      | true => rw [hb] at h; simpa [ids, ids0] using h
      | false => rw [hb] at h; simp [ids, ids0] at h
    · cases h
  have hO : ∀ k, Own X ⟨[(0, .vec id τ L)], []⟩ (fun n => if n = id then some g else none) k → X k ∨ k = g := by
    rintro k (h | ⟨n, h1, h2⟩)
    · exact .inl h
    · have := hNm n h1
      subst this
      simp only [if_true] at h2
      injection h2 with h2
      exact .inr h2.symm
  have hgo : ∀ k, k < w.heap.size → k = g → Own X s β k := by
    rintro k hk rfl
    rcases hg with ⟨h1, h2⟩ | h1
    · exact .inr ⟨id, h1, h2⟩
    · omega
  have hlt : g < w'.heap.size := (Array.getElem?_eq_some_iff.1 hh).1
  have hown : w.heap.size ≤ g ∨ F.own g := by
    rcases hg with ⟨h1, h2⟩ | h1
    · exact (hI.own id g h1 h2).2
    · exact .inl h1
  refine ⟨hstp.mono (fun k hk e => ?_), fun n => ?_, rfl, fun n cs h => (by cases h), fun n m k hn hm _ _ => (hNm n hn).trans (hNm m hm).symm, fun n k hn hk => ?_, ha.symm.trans hI.defers, hI.ext2, fun n cs k h => (by cases h), fun n hn => hI.pinN n (by omega), hI.gl⟩
  · rcases hown with h | h
    · omega
    · rw [e]; exact h
  · show Rel _ _ _ (look [(0, .vec id τ L)] n) _
    simp only [look]
    cases hb : Nat.beq 0 n with
    | true =>
      have := Nat.eq_of_beq_eq_true hb
      subst this
      refine vec_of (β := fun n => if n = id then some g else none) (d := id) (g := g) (if_pos rfl) hh hlc hc hsz (hus.mono fun _ _ _ _ him => him.step hstp hgo fun k hk ho => ?_) hpre
      rcases hO k ho with h | h
      · exact .inl h
      · exact hgo k hk h
    | false => exact Rel.x
  · have := hNm n hn
    subst this
    simp only [if_true] at hk
    injection hk with hk
    subst hk
    exact ⟨hlt, hown⟩
/-- what is read of an own slice's block -/
theorem vec_one {O : Nat → Prop} {w : World} {τ : Ty} {l : List (den τ)} {cur : Array Value} (h : All2 (Im O w) (flat τ l) (cur.toList.take (l.length * esz τ))) : ∀ v ∈ cur.toList.take (l.length * esz τ), v.oneCell' = true := by
  intro v hv
  obtain ⟨j, hj, rfl⟩ := List.getElem_of_mem hv
  have hj' : j < (flat τ l).length := by rw [h.1]; exact hj
  exact plain_one (h.2 j _ _ (List.getElem?_eq_getElem hj') (List.getElem?_eq_getElem hj)) (flat_plain (List.getElem_mem hj'))
end
end Go.SX
end
