/-
  'typecaselaw.Names' returns true, whatever the input: there is none.
-/
import Derived.Test.YtjlbaagnoppfgaaSxCtx
import Derived.Test.YtjlbaagnoppfgaaSxLaw
import Derived.Test.YtjlbaagnoppfgaaRows
import Derived.WalkKit
import Derived.ProofKit
import Derived.OpenShut
import Derived.JoinedCond
namespace Go.Proofs.Ytjlbaagnoppfgaa.names
open Go Go.SX
set_option maxRecDepth 100000
set_option maxHeartbeats 0
def L3 : List Nat := [0, 1, 2, 3, 4, 6, 7, 8, 9, 10, 13, 14, 15, 22, 26, 27, 28, 35, 43, 44, 45, 46, 50, 51, 52, 60, 66, 67, 68, 78]
def l16 : List Int := [0, 1, 2, 3, 4, 5, 6, 7, 8, 9, 10, 11, 12, 13, 14, 15]
def l7 : List Int := [0, 1, 2, 3, 4, 5, 6]
def ll : List (List Int) := [[1, 2, 3, 4, 5, 6, 7], [1, 2, 3, 4, 5, 6], [1, 2, 3, 4], [1, 2, 3], [1, 2, 3, 4, 5, 6, 7, 8, 9, 10, 11, 12], [1, 2, 3, 4, 5, 6, 7]]
def l20 : List Int := [4000, 1000, 1000, 80, 100, 20000, 20, 2000, 4000, 200, 400, 200, 50, 200, 100, 8, 20, 100, 16, 100]
theorem ll_at : ∀ k : Nat, k < 6 → ∀ j : Nat, j < (ll.getD k []).length → (ll.getD k []).getD j (dflt Ty.int) = (j : Int) + 1 := by decide
theorem ll_small : ∀ k : Nat, k < 6 → (ll.getD k []).length ≤ 12 := by decide
theorem l16_at : ∀ k : Nat, k < 16 → l16.getD k (dflt Ty.errno) = (k : Int) := by decide
theorem l7_at : ∀ k : Nat, k < 7 → l7.getD k (dflt Ty.errno) = (k : Int) := by decide
theorem walk3 : vc Try.prog Γ 80 L3 (Try.f3.body.getD .skip) (postK Γ [.tmp 0] (fun v => v = .b true)) ⟨[], []⟩ := by
  intro hl
  refine Exists.intro [] (Exists.intro Nat (Exists.intro (fun k => ⟨[(0, .b false), (1, .vec 11 .errno l16), (13, .i .i64 16), (14, .i .i64 k)], []⟩) (Exists.intro (fun k => 16 - k) (Exists.intro 0 (And.intro ?_ ?_)))))
  · repeat' (first | exact trivial | exact Or.inl rfl | refine And.intro ?_ ?_)
  · intro k
    refine And.intro (fun h => ?_) (fun h => ?_)
    · have hk : k < 16 := by have := of_decide_eq_true h; omega
      refine And.intro ⟨by omega, by show _ < (16 : Int); omega⟩ ?_
      refine And.intro (fun h => ?_) (fun h => ?_)
      · rw [show (k : Int).toNat = k from Int.toNat_natCast k, l16_at k hk] at h
        simp at h
      · refine And.intro (by constructor <;> omega) ?_
        refine Exists.intro (k + 1) (And.intro ?_ ?_)
        · repeat' (first | exact trivial | exact Or.inl rfl | refine And.intro ?_ ?_)
        · show 16 - (k + 1) < 16 - k
          omega
    · clear hl h
      intro hl
      refine Exists.intro [] (Exists.intro Nat (Exists.intro (fun k => ⟨[(0, .b false), (3, .vec 24 .int l7), (26, .i .i64 7), (27, .i .i64 k)], []⟩) (Exists.intro (fun k => 7 - k) (Exists.intro 0 (And.intro ?_ ?_)))))
      · repeat' (first | exact trivial | exact Or.inl rfl | refine And.intro ?_ ?_)
      · intro k
        refine And.intro (fun h => ?_) (fun h => ?_)
        · have hk : k < 7 := by have := of_decide_eq_true h; omega
          refine And.intro ⟨by omega, by show _ < (7 : Int); omega⟩ ?_
          refine And.intro (fun h => ?_) (fun h => ?_)
          · rw [show (k : Int).toNat = k from Int.toNat_natCast k, l7_at k hk] at h
            simp at h
          · refine And.intro (by constructor <;> omega) ?_
            refine Exists.intro (k + 1) (And.intro ?_ ?_)
            · repeat' (first | exact trivial | exact Or.inl rfl | refine And.intro ?_ ?_)
            · show 7 - (k + 1) < 7 - k
              omega
        · clear hl h
          intro hl
          refine Exists.intro [] (Exists.intro Nat (Exists.intro (fun k => ⟨[(0, .b false), (43, .vec 43 .ints ll), (44, .i .i64 6), (45, .i .i64 k)], []⟩) (Exists.intro (fun k => 6 - k) (Exists.intro 0 (And.intro ?_ ?_)))))
          · repeat' (first | exact trivial | exact Or.inl rfl | refine And.intro ?_ ?_)
          · intro k
            refine And.intro (fun h => ?_) (fun h => ?_)
            · have hk : k < 6 := by have := of_decide_eq_true h; omega
              refine And.intro ⟨by omega, by show _ < (6 : Int); omega⟩ ?_
              intro hl
              refine Exists.intro [] (Exists.intro Nat (Exists.intro (fun j => ⟨[(0, .b false), (6, .rd .int (ll.getD k [])), (43, .vec 43 .ints ll), (44, .i .i64 6), (45, .i .i64 k), (50, .i .i64 (ll.getD k []).length), (51, .i .i64 j)], []⟩) (Exists.intro (fun j => (ll.getD k []).length - j) (Exists.intro 0 (And.intro ?_ ?_)))))
              · repeat' (first | exact trivial | exact Or.inl rfl | refine And.intro ?_ ?_)
              · intro j
                refine And.intro (fun h => ?_) (fun h => ?_)
                · have hj : j < (ll.getD k []).length := by have := of_decide_eq_true h; omega
                  refine And.intro ⟨by omega, by show (j : Int) < ((ll.getD k []).length : Int); omega⟩ ?_
                  have hjl := ll_small k hk
                  refine And.intro (by constructor <;> omega) ?_
                  refine And.intro (fun h => ?_) (fun h => ?_)
                  · rw [show (j : Int).toNat = j from Int.toNat_natCast j, ll_at k hk j hj] at h
                    simp at h
                  · refine And.intro (by constructor <;> omega) ?_
                    refine Exists.intro (j + 1) (And.intro ?_ ?_)
                    · repeat' (first | exact trivial | exact Or.inl rfl | refine And.intro ?_ ?_)
                    · show (ll.getD k []).length - (j + 1) < (ll.getD k []).length - j
                      omega
                · refine And.intro (by constructor <;> omega) ?_
                  refine Exists.intro (k + 1) (And.intro ?_ ?_)
                  · repeat' (first | exact trivial | exact Or.inl rfl | refine And.intro ?_ ?_)
                  · show 6 - (k + 1) < 6 - k
                    omega
            · clear hl h
              intro hl
              refine Exists.intro [] (Exists.intro Nat (Exists.intro (fun k => ⟨[(0, .b false), (8, .vec 63 .int l20), (9, .vec 64 .int l20), (66, .i .i64 20), (67, .i .i64 k)], []⟩) (Exists.intro (fun k => 20 - k) (Exists.intro 0 (And.intro ?_ ?_)))))
              · repeat' (first | exact trivial | exact Or.inl rfl | refine And.intro ?_ ?_)
              · intro k
                refine And.intro (fun h => ?_) (fun h => ?_)
                · have hk : k < 20 := by have := of_decide_eq_true h; omega
                  refine Exists.intro [.blk [0, 1, 2, 3, 4, 5, 6, 7, 8]] (And.intro (by kernel_rfl) ?_)
                  refine And.intro ⟨by omega, by show _ < (20 : Int); omega⟩ ?_
                  refine And.intro ⟨by omega, by show _ < (20 : Int); omega⟩ ?_
                  refine And.intro (fun h => ?_) (fun h => ?_)
                  · simp at h
                  · refine And.intro (by constructor <;> omega) ?_
                    refine Exists.intro (k + 1) (And.intro ?_ ?_)
                    · repeat' (first | exact trivial | exact Or.inl rfl | refine And.intro ?_ ?_)
                    · show 20 - (k + 1) < 20 - k
                      omega
                · show _ = _
                  rfl

theorem spec3 : PSpec Try.prog 3 [] (.b true) :=
  pspec_of_vc Γ_good Try.func3 rfl Try.call3 Try.results3 Try.ntmps3 (by decide) walk3
open Go.ChangeShapes Go.WideShapes Go.ChangeAt Go.RowKit
theorem own : ownKnob Try.prog.godebug = none := by kernel_rfl

theorem contract (H : Type) (enc : TypeId × Value → H) (W : World) (args : Array Value) (ds gs : List (DataW H)) (before : List MemPlace)
    (hW : DataW.Whole enc Try.prog Try.f3.params.toList Rows.namesSpec.vars false W args.toList ds gs before) :
    Calls Try.prog 3 args W fun e W' => ∃ v, e = .returned v ∧ Rows.namesSpec.post enc Try.prog Try.f3 false true false false W args v W' := by
  have hW' := hW
  obtain ⟨p, q, hA0, hV, rfl, hfz, hnd⟩ := hW
  have hA : DataW.TrodAll enc Try.prog W 0 (fun _ => true) true Try.f3.params.toList args.toList ds p := hA0
  rw [Try.params3] at hA
  obtain ⟨hargs, rfl, rfl⟩ := trodAll_nil hA
  obtain rfl : args = #[] := by cases args; simp_all
  obtain ⟨rfl, rfl⟩ := trodVars_none hV
  refine (spec3.2 (fun _ => False) W [] (fun _ h => h.elim) (All2.nil _)).mono fun e W' ⟨v, he, hst, hv⟩ => ?_
  subst he
  cases hv
  exact ⟨_, rfl, post_of_below (pa := []) (pv := []) hW' (fun _ _ _ => (trodAll_cons_mk (shut_bool Try.underlying4 _) trodAll_mk0)) (fun sp _ => trodAll_mk0) (fun _ _ => rfl) rfl
    hst.below (ok_one (by kernel_rfl) rfl (okWide_bool_mk Try.underlying4 _))⟩

theorem lifted (os : Os) (started : os.Started) (H : Type) (enc : TypeId × Value → H) :
    ReturnsInHanded {} Try.checked os 3 .any (Rows.namesSpec.pre6 enc Try.prog Try.f3 Rows.namesRow.domain false) (Rows.namesSpec.post enc Try.prog Try.f3 false true false false) := by
  refine returnsInHanded_of_change (C := Try.checked) own started (by kernel_rfl) Try.func3
    (ChangeSpec.witness6 (enc := enc) (C := Try.checked) false ⟨#[], #[], []⟩ 8 (by kernel_rfl) (by kernel_rfl) (by kernel_rfl) (by kernel_rfl)) ?_
  intro W base args ds gs before _ hW _ _
  exact contract H enc W args ds gs before hW

theorem over : Rows.namesRow.holds Try.pinned (OpenSpec.ofChange Rows.namesSpec) :=
  OpenClaim.holds_of_wide 3 Try.f3 rfl rfl rfl rfl rfl rfl rfl ⟨rfl, rfl, rfl, rfl, rfl⟩ rfl rfl rfl rfl rfl (by kernel_rfl) Try.func3 (by kernel_rfl)
    (of_decide_eq_true (by kernel_rfl)) (by unfold Func.isWrapper; first | (rw [if_pos (by decide +kernel)]; kernel_rfl) | (rw [if_neg (by decide +kernel)]; exact ⟨rfl, rfl⟩))
    (fun os started H enc _ => lifted os started H enc)

theorem proved : Rows.NamesSaid :=
  over
#print axioms proved
end Go.Proofs.Ytjlbaagnoppfgaa.names
