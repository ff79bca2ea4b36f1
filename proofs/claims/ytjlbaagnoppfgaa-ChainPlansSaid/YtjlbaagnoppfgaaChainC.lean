/-
  A part of the proof that 'typecaselaw.ChainPlans' returns true: the program's plan, walked. No conditions.
-/
import Derived.Test.YtjlbaagnoppfgaaChainB
namespace Go.Proofs.Ytjlbaagnoppfgaa
set_option linter.unusedSectionVars false
set_option linter.unusedSimpArgs false
set_option linter.unusedVariables false
open Go Go.SX Go.Ch
set_option maxRecDepth 100000
set_option maxHeartbeats 0
/-- the plan -/
noncomputable def planR (l : List Link) (f t : Int) : AV :=
  open Classical in
  if 100 < l.length then .tup [.nl, .i .i64 2] else if h : ∃ d, Dist l t f d then .tup [.rd .int (wayF l t h.choose f), .i .i64 0] else .tup [.nl, .i .i64 8]
theorem planR_some {l : List Link} {f t : Int} {d : Nat} (hl : l.length ≤ 100) (h : Dist l t f d) : planR l f t = .tup [.rd .int (wayF l t d f), .i .i64 0] := by
  have hx : ∃ d, Dist l t f d := ⟨d, h⟩
  rw [planR, if_neg (by omega), dif_pos hx, hx.choose_spec.uniq h]
theorem planR_none {l : List Link} {f t : Int} (hl : l.length ≤ 100) (h : ∀ d, ¬ Dist l t f d) : planR l f t = .tup [.nl, .i .i64 8] := by
  rw [planR, if_neg (by omega), dif_neg (fun ⟨d, hd⟩ => h d hd)]
/-- what holds while versions stand in line -/
def Bq (l : List Link) (t : Int) (F : List (Int × Int)) (q : List Int) : Prop :=
  (∃ q1 q2 k, q = q1 ++ q2 ∧ Srch l t F q1 q2 k) ∧ ∀ y, Kn F y → y ∉ q → ∀ x ∈ l, x.to = y → Kn F x.fr
/-- what holds while the links are gone through for the first in line -/
def Iq (l : List Link) (t : Int) (F : List (Int × Int)) (q : List Int) (h : Int) (i : Nat) : Prop :=
  (∃ q1 q2 k, q = h :: (q1 ++ q2) ∧ Srch l t F (h :: q1) q2 k) ∧ (∀ y, Kn F y → y ∉ q → ∀ x ∈ l, x.to = y → Kn F x.fr) ∧ ∀ (j : Nat) x, j < i → l[j]? = some x → x.to = h → Kn F x.fr
theorem Bq.start (l : List Link) (t : Int) : Bq l t [(t, 0)] [t] := by
  refine ⟨⟨[t], [], 0, rfl, Srch.start l t⟩, fun y hy hq => absurd ?_ hq⟩
  unfold Kn at hy
  by_cases h : y = t
  · rw [h]; exact List.mem_singleton.2 rfl
  · simp [mpGet, keq, h] at hy
theorem Bq.first {l : List Link} {t h : Int} {F : List (Int × Int)} {r : List Int} (H : Bq l t F (h :: r)) : Iq l t F (h :: r) h 0 := by
  obtain ⟨⟨q1, q2, k, e, hs⟩, hc⟩ := H
  refine ⟨?_, hc, fun j x hj => absurd hj (Nat.not_lt_zero _)⟩
  cases q1 with
  | nil =>
    have e : h :: r = q2 := e
    subst e
    exact ⟨r, [], k + 1, by rw [List.append_nil], hs.roll hc⟩
  | cons a q1 =>
    injection e with e1 e2
    subst e1
    exact ⟨q1, q2, k, by rw [e2]; rfl, hs⟩
theorem Iq.head {l : List Link} {t h : Int} {F : List (Int × Int)} {q : List Int} {i : Nat} (H : Iq l t F q h i) : ∃ k : Nat, @mpGet .int .int F h = some (k : Int) ∧ k ≤ l.length := by
  obtain ⟨⟨q1, q2, k, _, hs⟩, _⟩ := H
  have h1 := hs.a1 h (List.mem_cons_self ..)
  obtain ⟨e, he, hd⟩ := hs.right h _ h1
  have he : k = e := by have h9 : ((k : Nat) : Int) = ((e : Nat) : Int) := he; omega
  exact ⟨k, h1, by rw [he]; exact hd.le⟩
theorem Iq.size {l : List Link} {t h : Int} {F : List (Int × Int)} {q : List Int} {i : Nat} (H : Iq l t F q h i) : F.length ≤ l.length + 1 := by
  obtain ⟨⟨q1, q2, k, _, hs⟩, _⟩ := H
  have := hs.size
  omega
theorem Iq.skip {l : List Link} {t h : Int} {F : List (Int × Int)} {q : List Int} {i : Nat} (H : Iq l t F q h i) {x : Link} (hx : l[i]? = some x) (hk : x.to = h → Kn F x.fr) : Iq l t F q h (i + 1) := by
  refine ⟨H.1, H.2.1, fun j y hj hy ht => ?_⟩
  by_cases e : j = i
  · subst e
    rw [hx] at hy
    injection hy with hy
    subst hy
    exact hk ht
  · exact H.2.2 j y (by omega) hy ht
theorem Iq.push {l : List Link} {t h : Int} {F : List (Int × Int)} {q : List Int} {i : Nat} (H : Iq l t F q h i) {x : Link} (hx : l[i]? = some x) (ht : x.to = h) (hu : @mpGet .int .int F x.fr = none) {k : Nat} (hk : @mpGet .int .int F h = some (k : Int)) :
    Iq l t (@mpSet .int .int F x.fr ((k : Int) + 1)) (q ++ [x.fr]) h (i + 1) ∧ unk l (@mpSet .int .int F x.fr ((k : Int) + 1)) + 1 ≤ unk l F := by
  obtain ⟨⟨q1, q2, k', e, hs⟩, hc, hj⟩ := H
  have h1 := hs.a1 h (List.mem_cons_self ..)
  have : k = k' := by
    rw [hk] at h1
    injection h1 with h1
    omega
  subst this
  have hxm : x ∈ l := List.mem_of_getElem? hx
  obtain ⟨hs', mono, other⟩ := hs.push hk hxm ht hu
  have knew : Kn (@mpSet .int .int F x.fr ((k : Int) + 1)) x.fr := by unfold Kn; rw [get_set, if_pos rfl]; rfl
  refine ⟨⟨⟨q1, q2 ++ [x.fr], k, by rw [e, List.cons_append, List.append_assoc], hs'⟩, fun y hy hq z hz hzt => ?_, fun j y hj' hy hyt => ?_⟩, unk_set hxm hu⟩
  · by_cases e1 : y = x.fr
    · exact absurd (by rw [e1]; exact List.mem_append.2 (.inr (List.mem_singleton.2 rfl))) hq
    · unfold Kn at hy
      rw [other y e1] at hy
      exact mono _ (hc y hy (fun hm => hq (List.mem_append.2 (.inl hm))) z hz hzt)
  · by_cases e1 : j = i
    · subst e1
      rw [hx] at hy
      injection hy with hy
      subst hy
      exact knew
    · exact mono _ (hj j y (by omega) hy hyt)
theorem Iq.last {l : List Link} {t h : Int} {F : List (Int × Int)} {q : List Int} (H : Iq l t F q h l.length) : Bq l t F q.tail := by
  obtain ⟨⟨q1, q2, k, rfl, hs⟩, hc, hj⟩ := H
  refine ⟨⟨q1, q2, k, rfl, ⟨hs.right, fun y hy => hs.a1 y (List.mem_cons_of_mem _ hy), hs.a2, hs.full, hs.root, hs.size⟩⟩, fun y hy hq x hx hxt => ?_⟩
  by_cases e : y = h
  · obtain ⟨j, hj', ej⟩ := List.getElem_of_mem hx
    exact hj j x hj' (by rw [List.getElem?_eq_getElem hj', ej]) (hxt.trans e)
  · exact hc y hy (fun hm => by
      rcases List.mem_cons.1 hm with hm | hm
      · exact e hm
      · exact hq hm) x hx hxt
theorem Bq.fnd {l : List Link} {t : Int} {F : List (Int × Int)} (H : Bq l t F []) : Fnd l t F := by
  obtain ⟨⟨q1, q2, k, e, hs⟩, hc⟩ := H
  obtain ⟨rfl, rfl⟩ := List.append_eq_nil_iff.1 e.symm
  have hc' : ∀ y, Kn F y → ∀ x ∈ l, x.to = y → Kn F x.fr := fun y hy => hc y hy (fun h => nomatch h)
  exact ⟨hs.done hc', fun n e he => by obtain ⟨m, h1, _⟩ := hs.right n e he; exact ⟨m, h1⟩⟩
section
variable [G : Globs]
theorem w_Plan (l : List Link) (f t : Int) : vc Try.prog Γ 95 [0, 1, 2, 6, 7, 8, 9, 11, 13, 15, 16, 17, 18, 21, 29, 32, 33, 34, 35, 54, 76, 80, 93] (Try.f13.body.getD .skip) (postK Γ [.tmp 6, .tmp 7] (fun v => v = planR l f t)) ⟨argSlots 0 [.rd .link l, .i .i64 f, .i .i64 t], []⟩ := by
  intro hl
  refine And.intro (fun h => ?_) (fun h => ?_)
  · have h : 100 < l.length := by have := of_decide_eq_true h; omega
    show _ = _
    rw [planR, if_pos h]
    rfl
  · have h : l.length ≤ 100 := by have := of_decide_eq_false h; omega
    refine And.intro (show 0 < _ by decide) ?_
    refine Exists.intro [] (Exists.intro [] (Exists.intro [] (Exists.intro (List (Int × Int) × List Int × Nat) (Exists.intro (fun x => Bq l t x.1 (x.2.1.drop x.2.2) ∧ 2 * unk l x.1 + (x.2.1.length - x.2.2) ≤ 1000) (Exists.intro (fun x => ⟨[(0, .rd .link l), (1, .i .i64 f), (2, .i .i64 t), (8, .pt 8 0), (9, .vs 26 .int x.2.1 x.2.2)], [(8, [.ob 22 22 (.mp .int .int x.1)])]⟩) (Exists.intro (fun x => 2 * unk l x.1 + (x.2.1.length - x.2.2)) (Exists.intro ([(t, 0)], [t], 0) (And.intro ⟨Bq.start l t, by have : unk l [(t, 0)] ≤ l.length := List.countP_le_length; show 2 * unk l [(t, 0)] + 1 ≤ 1000; omega⟩ (And.intro ?_ ?_)))))))))
    · (repeat' (first | exact trivial | exact Or.inl rfl | exact Or.inr (Or.inl ⟨rfl, _, rfl⟩) | exact Or.inr (Or.inr (Or.inr ⟨_, _, _, rfl, rfl⟩)) | refine And.intro ?_ ?_))
    · rintro ⟨F, L, p⟩ ⟨hB, hM⟩
      replace hB : Bq l t F (L.drop p) := hB
      replace hM : 2 * unk l F + (L.length - p) ≤ 1000 := hM
      intro hp hL
      replace hp : p ≤ L.length := hp
      replace hL : L.length ≤ maxLen := hL
      refine And.intro (fun h1 => ?_) (fun h1 => ?_)
      · have h1 : p < L.length := by have : (0 : Int) < ((L.length - p : Nat) : Int) := of_decide_eq_true h1
                                     omega
        have hq : L.drop p = L[p] :: L.drop (p + 1) := List.drop_eq_getElem_cons h1
        have hI := hB
        rw [hq] at hI
        replace hI := hI.first
        rw [← hq] at hI
        generalize L[p] = v at hI hq
        intro _
        refine Exists.intro [] (Exists.intro [] (Exists.intro [] (Exists.intro (List (Int × Int) × List Int × Nat × Nat) (Exists.intro (fun x => Iq l t x.1 (x.2.1.drop x.2.2.1) v x.2.2.2 ∧ 2 * unk l x.1 + (x.2.1.length - x.2.2.1) ≤ 2 * unk l F + (L.length - p) ∧ x.2.2.1 < x.2.1.length ∧ x.2.2.2 ≤ l.length) (Exists.intro (fun x => ⟨[(0, .rd .link l), (1, .i .i64 f), (2, .i .i64 t), (8, .pt 8 0), (9, .vs 26 .int x.2.1 x.2.2.1), (32, .rd .link l), (33, .i .i64 l.length), (34, .i .i64 x.2.2.2)], [(8, [.ob 22 22 (.mp .int .int x.1)])]⟩) (Exists.intro (fun x => l.length - x.2.2.2) (Exists.intro (F, L, p, 0) (And.intro ⟨hI, Nat.le_refl _, h1, Nat.zero_le _⟩ (And.intro ?_ ?_)))))))))
        · (repeat' (first | exact trivial | exact Or.inl rfl | exact Or.inr (Or.inl ⟨rfl, _, rfl⟩) | exact Or.inr (Or.inr (Or.inr ⟨_, _, _, rfl, rfl⟩)) | refine And.intro ?_ ?_))
        · rintro ⟨F1, L1, p1, i⟩ ⟨hI1, hM1, hp1, hi⟩
          replace hI1 : Iq l t F1 (L1.drop p1) v i := hI1
          replace hM1 : 2 * unk l F1 + (L1.length - p1) ≤ 2 * unk l F + (L.length - p) := hM1
          replace hp1 : p1 < L1.length := hp1
          replace hi : i ≤ l.length := hi
          dsimp only
          refine And.intro (fun he => ?_) (fun he => ?_)
          · have hi : i < l.length := by have : (i : Int) < (l.length : Int) := of_decide_eq_true he
                                         omega
            clear he
            refine And.intro ⟨by show (0 : Int) ≤ (i : Int); omega, by show (i : Int) < (l.length : Int); omega⟩ ?_
            have hg : l[i]? = some l[i] := List.getElem?_eq_getElem hi
            have hx : l.getD (Int.toNat (i : Int)) (dflt .link) = l[i] := by rw [Int.toNat_natCast, List.getD_eq_getElem?_getD, hg]; rfl
            (conv => whnf)
            change Exists _
            rw [hx]
            generalize l[i] = x at hg hx
            refine Exists.intro [.blk [0, 1, 2, 3, 4, 5, 6, 7, 8, 9]] (And.intro (by kernel_rfl) ?_)
            refine And.intro ⟨by decide, by show (0 : Int) < ((L1.length - p1 : Nat) : Int); omega⟩ ?_
            have hh : L1.getD (p1 + Int.toNat 0) (dflt .int) = v := by
              obtain ⟨⟨q1, q2, k, e, _⟩, _⟩ := hI1
              have e0 : (L1.drop p1)[0]? = some v := by rw [e]; rfl
              rw [List.getElem?_drop] at e0
              rw [List.getD_eq_getElem?_getD, show p1 + Int.toNat 0 = p1 + 0 from rfl, e0]
              rfl
            refine And.intro (fun ha => ?_) (fun ha => ?_)
            · have ha : x.to = v := by rw [← hh]; exact eq_of_beq ha
              obtain ⟨k, hk, hkl⟩ := hI1.head
              refine And.intro (fun hb => ?_) (fun hb => ?_)
              · have hb : (!(@mpGet .int .int F1 x.fr).isSome) = true := hb
                have hu : @mpGet .int .int F1 x.fr = none := by
                  cases hu : @mpGet .int .int F1 x.fr with
                  | none => rfl
                  | some d => rw [hu] at hb; cases hb
                obtain ⟨hpu, hun⟩ := hI1.push hg ha hu hk
                (conv => whnf)
                rw [ha, hk]
                refine And.intro (show Rng .i64 ((k : Int) + 1) from rng64 (by omega) (by omega)) ?_
                refine And.intro (show F1.length < 9223372036854775807 by have := hI1.size; omega) ?_
                refine And.intro (show (L1.length - p1 + 1) * 8 ≤ 140737488355328 by omega) ?_
                intro pre hpre
                (refine And.intro (rng64 (by omega) (by omega)) ?_)
                have hdr : (pre ++ (L1.drop p1 ++ [x.fr])).drop pre.length = L1.drop p1 ++ [x.fr] := List.drop_left
                have hlen : (pre ++ (L1.drop p1 ++ [x.fr])).length = pre.length + (L1.length - p1 + 1) := by simp
                refine Exists.intro [(67, 26)] (Exists.intro (@mpSet .int .int F1 x.fr ((k : Int) + 1), pre ++ (L1.drop p1 ++ [x.fr]), pre.length, i + 1) (And.intro ⟨by show Iq l t _ ((pre ++ (L1.drop p1 ++ [x.fr])).drop pre.length) v (i + 1); rw [hdr]; exact hpu, by dsimp only; rw [hlen]; omega, by dsimp only; rw [hlen]; omega, hi⟩ (And.intro ?_ ?_)))
                · (repeat' (first | exact trivial | exact Or.inl rfl | exact Or.inr (Or.inl ⟨rfl, _, rfl⟩) | exact Or.inr (Or.inr (Or.inr ⟨_, _, _, rfl, rfl⟩)) | refine And.intro ?_ ?_))
                · show l.length - (i + 1) < l.length - i
                  omega
              · have hb : (!(@mpGet .int .int F1 x.fr).isSome) = false := hb
                have hkn : Kn F1 x.fr := by
                  unfold Kn
                  cases hu : (@mpGet .int .int F1 x.fr).isSome with
                  | true => rfl
                  | false => rw [hu] at hb; cases hb
                (refine And.intro (rng64 (by omega) (by omega)) ?_)
                refine Exists.intro [] (Exists.intro (F1, L1, p1, i + 1) (And.intro ⟨hI1.skip hg (fun _ => hkn), hM1, hp1, hi⟩ (And.intro ?_ ?_)))
                · (repeat' (first | exact trivial | exact Or.inl rfl | exact Or.inr (Or.inl ⟨rfl, _, rfl⟩) | exact Or.inr (Or.inr (Or.inr ⟨_, _, _, rfl, rfl⟩)) | refine And.intro ?_ ?_))
                · show l.length - (i + 1) < l.length - i
                  omega
            · have ha : x.to ≠ v := by rw [← hh]; exact ne_of_beq_false ha
              refine And.intro (fun hb => absurd hb (fun hb => Bool.noConfusion hb)) (fun _ => ?_)
              (refine And.intro (rng64 (by omega) (by omega)) ?_)
              refine Exists.intro [] (Exists.intro (F1, L1, p1, i + 1) (And.intro ⟨hI1.skip hg (fun e => absurd e ha), hM1, hp1, hi⟩ (And.intro ?_ ?_)))
              · (repeat' (first | exact trivial | exact Or.inl rfl | exact Or.inr (Or.inl ⟨rfl, _, rfl⟩) | exact Or.inr (Or.inr (Or.inr ⟨_, _, _, rfl, rfl⟩)) | refine And.intro ?_ ?_))
              · show l.length - (i + 1) < l.length - i
                omega
          · have hi : i = l.length := by have : ¬ (i : Int) < (l.length : Int) := of_decide_eq_false he
                                         omega
            subst hi
            have := hI1.last
            rw [List.tail_drop] at this
            refine And.intro ⟨by decide, by show (1 : Int) ≤ ((L1.length - p1 : Nat) : Int); omega⟩ ?_
            refine Exists.intro [] (Exists.intro (F1, L1, p1 + 1) (And.intro ⟨this, by show 2 * unk l F1 + (L1.length - (p1 + 1)) ≤ 1000; omega⟩ (And.intro ?_ ?_)))
            · (repeat' (first | exact trivial | exact Or.inl rfl | exact Or.inr (Or.inl ⟨rfl, _, rfl⟩) | exact Or.inr (Or.inr (Or.inr ⟨_, _, _, rfl, rfl⟩)) | refine And.intro ?_ ?_))
            · show 2 * unk l F1 + (L1.length - (p1 + 1)) < 2 * unk l F + (L.length - p)
              omega
      · have h1 : p = L.length := by have : ¬ (0 : Int) < ((L.length - p : Nat) : Int) := of_decide_eq_false h1
                                     omega
        subst h1
        rw [List.drop_length] at hB
        have hF := hB.fnd
        dsimp only
        refine And.intro (fun hb => ?_) (fun hb => ?_)
        · have hb : (!(@mpGet .int .int F f).isSome) = true := hb
          have hu : @mpGet .int .int F f = none := by
            cases hu : @mpGet .int .int F f with
            | none => rfl
            | some d => rw [hu] at hb; cases hb
          show _ = _
          rw [planR_none h (fun d hd => by rw [(hF.iff f d).2 hd] at hu; cases hu)]
          rfl
        · have hb : (!(@mpGet .int .int F f).isSome) = false := hb
          obtain ⟨D, hD⟩ : ∃ D, @mpGet .int .int F f = some D := by
            cases hu : @mpGet .int .int F f with
            | none => rw [hu] at hb; cases hb
            | some d => exact ⟨d, rfl⟩
          obtain ⟨D, rfl⟩ := hF.nat f D hD
          have hd : Dist l t f D := (hF.iff f D).1 hD
          have hdl := hd.le
          rw [planR_some h hd]
          refine Exists.intro [(16, 16, .int)] (Exists.intro [] (Exists.intro [] (Exists.intro (Nat × Int × List Int) (Exists.intro (fun x => Dist l t x.2.1 x.1 ∧ x.2.2 ++ wayF l t x.1 x.2.1 = wayF l t D f ∧ x.1 ≤ l.length) (Exists.intro (fun x => ⟨[(0, .rd .link l), (2, .i .i64 t), (8, .pt 8 0), (16, .vec 16 .int x.2.2), (17, .pt 17 0)], [(8, [.ob 22 22 (.mp .int .int F)]), (17, [.i .i64 x.2.1])]⟩) (Exists.intro (fun x => x.1) (Exists.intro (D, f, []) (And.intro ⟨hd, rfl, hdl⟩ (And.intro ?_ ?_)))))))))
          · (repeat' (first | exact trivial | exact Or.inl rfl | exact Or.inr (Or.inl ⟨rfl, _, rfl⟩) | exact Or.inr (Or.inr (Or.inr ⟨_, _, _, rfl, rfl⟩)) | refine And.intro ?_ ?_))
          · rintro ⟨e, a, o⟩ ⟨h1, h2, h3⟩
            replace h1 : Dist l t a e := h1
            replace h2 : o ++ wayF l t e a = wayF l t D f := h2
            replace h3 : e ≤ l.length := h3
            dsimp only
            refine And.intro (fun hc => ?_) (fun hc => ?_)
            · have hc : a ≠ t := by simpa using hc
              obtain ⟨e, rfl⟩ : ∃ m, e = m + 1 := by
                cases e with
                | zero => exact absurd (by simpa [Rb] using h1.1) hc
                | succ m => exact ⟨m, rfl⟩
              have hidx := way_idx h1
              have hto := way_to h1
              rw [wayF] at h2
              refine Or.inr (Or.inl (Exists.intro [] (Exists.intro _ (Exists.intro _ (Exists.intro _ (Exists.intro _ (Exists.intro _ (Exists.intro [(1000, 8), (1001, 17), (1002, 22)] (And.intro (s_ix1 a F l t e hF h1 (by omega) h) ?_)))))))))
              refine (And.intro rfl (And.intro rfl (And.intro rfl (And.intro rfl (And.intro rfl (And.intro rfl ?_))))))
              have hol : o.length ≤ 100 := by
                have := congrArg List.length h2
                rw [List.length_append, way_len] at this
                omega
              generalize hI : l.findIdx (fun x => decide (x.fr = a) && Rb l t e x.to) = I at hidx hto h2
              refine And.intro (show (o.length + 1) * 8 ≤ 140737488355328 by omega) ?_
              refine And.intro ⟨by show (0 : Int) ≤ (I : Int); omega, by show (I : Int) < (l.length : Int); omega⟩ ?_
              refine Exists.intro [(87, 16)] (Exists.intro (e, (l.getD I default).to, o ++ [(I : Int)]) (And.intro ⟨hto, by rw [← h2, List.append_assoc]; rfl, by dsimp only; omega⟩ (And.intro ?_ ?_)))
              · (repeat' (first | exact trivial | exact Or.inl rfl | exact Or.inr (Or.inl ⟨rfl, _, rfl⟩) | exact Or.inr (Or.inr (Or.inr ⟨_, _, _, rfl, rfl⟩)) | refine And.intro ?_ ?_))
              · exact Nat.lt_succ_self e
            · have hc : a = t := by simpa using hc
              have : e = 0 := by
                cases e with
                | zero => rfl
                | succ m => exact absurd (h1.2 0 (Nat.succ_pos _)) (by simp [Rb, hc])
              subst this
              rw [wayF, List.append_nil] at h2
              rw [← h2]
              rfl
theorem s_Plan (l : List Link) (f t : Int) : PSpec Try.prog 13 [.rd .link l, .i .i64 f, .i .i64 t] (planR l f t) :=
  pspec_of_vc Γ_good Try.func13 rfl Try.call13 Try.results13 Try.ntmps13 (Nat.le_of_ble_eq_true rfl) (w_Plan l f t)
end
end Go.Proofs.Ytjlbaagnoppfgaa
