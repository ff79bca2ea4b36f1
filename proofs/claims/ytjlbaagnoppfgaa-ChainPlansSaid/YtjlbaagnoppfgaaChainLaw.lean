/-
  Plain laws of links: how far a version is, and the first of the shortest ways. No conditions.
-/
import Derived.Test.YtjlbaagnoppfgaaSxMap
namespace Go.Ch
set_option linter.unusedSectionVars false
set_option linter.unusedSimpArgs false
set_option linter.unusedVariables false
open Go.SX
/-- by so many links to t -/
def Rb (l : List Link) (t : Int) : Nat → Int → Bool
  | 0, n => decide (n = t)
  | d + 1, n => l.any fun x => decide (x.fr = n) && Rb l t d x.to
theorem Rb_succ {l : List Link} {t : Int} {d : Nat} {n : Int} : Rb l t (d + 1) n = true ↔ ∃ x ∈ l, x.fr = n ∧ Rb l t d x.to = true := by
  simp [Rb]
/-- by so many, and by no fewer -/
def Dist (l : List Link) (t n : Int) (d : Nat) : Prop := Rb l t d n = true ∧ ∀ k, k < d → Rb l t k n = false
theorem Dist.uniq {l : List Link} {t n : Int} {d e : Nat} (h : Dist l t n d) (k : Dist l t n e) : d = e := by
  rcases Nat.lt_trichotomy d e with h1 | h1 | h1
  · have := k.2 d h1; rw [h.1] at this; cases this
  · exact h1
  · have := h.2 e h1; rw [k.1] at this; cases this
theorem Rb.dist {l : List Link} {t n : Int} {d : Nat} (h : Rb l t d n = true) : ∃ k, k ≤ d ∧ Dist l t n k := by
  induction d using Nat.strongRecOn with
  | _ d ih =>
    by_cases hex : ∃ k, k < d ∧ Rb l t k n = true
    · obtain ⟨k, hk, hr⟩ := hex
      obtain ⟨j, hj, hd⟩ := ih k hk hr
      exact ⟨j, by omega, hd⟩
    · refine ⟨d, Nat.le_refl _, h, fun k hk => ?_⟩
      cases hr : Rb l t k n with
      | false => rfl
      | true => exact absurd ⟨k, hk, hr⟩ hex
theorem Dist.step {l : List Link} {t n : Int} {d : Nat} (h : Dist l t n (d + 1)) {x : Link} (hx : x ∈ l) (hf : x.fr = n) (hr : Rb l t d x.to = true) : Dist l t x.to d := by
  refine ⟨hr, fun k hk => ?_⟩
  cases hq : Rb l t k x.to with
  | false => rfl
  | true =>
    have := h.2 (k + 1) (by omega)
    rw [Rb_succ.2 ⟨x, hx, hf, hq⟩] at this
    cases this
theorem Dist.prev {l : List Link} {t n : Int} {d : Nat} (h : Dist l t n (d + 1)) : ∃ x ∈ l, x.fr = n ∧ Dist l t x.to d := by
  obtain ⟨x, hx, hf, hr⟩ := Rb_succ.1 h.1
  exact ⟨x, hx, hf, h.step hx hf hr⟩
theorem nodup_le : ∀ (n : Nat) (l : List Nat), l.Nodup → (∀ x ∈ l, x < n) → l.length ≤ n := by
  intro n
  induction n with
  | zero =>
    intro l _ h
    cases l with
    | nil => exact Nat.le_refl _
    | cons x r => have := h x (List.mem_cons_self ..); omega
  | succ n ih =>
    intro l hn h
    by_cases hm : n ∈ l
    · have h1 := ih (l.erase n) (hn.erase n) fun x hx => by
        have h2 := (hn.mem_erase_iff).1 hx
        have := h x h2.2
        have := h2.1
        omega
      rw [List.length_erase_of_mem hm] at h1
      omega
    · have := ih l hn fun x hx => by
        have := h x hx
        have : x ≠ n := fun e => hm (e ▸ hx)
        omega
      omega
/-- nobody is further than there are links -/
theorem Dist.le {l : List Link} {t n : Int} {D : Nat} (h : Dist l t n D) : D ≤ l.length := by
  have hex : ∀ k, k < D → ∃ (i : Nat) (x : Link), l[i]? = some x ∧ Dist l t x.fr (k + 1) := by
    have down : ∀ j, ∀ m (e : Nat), Dist l t m e → j ≤ e → ∃ m', Dist l t m' (e - j) := by
      intro j
      induction j with
      | zero => intro m e he _; exact ⟨m, he⟩
      | succ j ih =>
        intro m e he hj
        obtain ⟨m', hm'⟩ := ih m e he (by omega)
        obtain ⟨q, hq⟩ : ∃ q, e - j = q + 1 := ⟨e - j - 1, by omega⟩
        rw [hq] at hm'
        obtain ⟨x, _, _, hd⟩ := hm'.prev
        exact ⟨x.to, by rw [show e - (j + 1) = q by omega]; exact hd⟩
    intro k hk
    obtain ⟨m, hm⟩ := down (D - (k + 1)) n D h (by omega)
    rw [show D - (D - (k + 1)) = k + 1 by omega] at hm
    obtain ⟨x, hx, hf, _⟩ := hm.prev
    obtain ⟨i, hi, e⟩ := List.getElem_of_mem hx
    exact ⟨i, x, by rw [List.getElem?_eq_getElem hi, e], by rw [hf]; exact hm⟩
  have hf : ∃ f : Nat → Nat, ∀ k, k < D → ∃ x : Link, l[f k]? = some x ∧ Dist l t x.fr (k + 1) := by
    refine ⟨fun k => if hk : k < D then Classical.choose (hex k hk) else 0, fun k hk => ?_⟩
    simp only [hk, dif_pos]
    exact Classical.choose_spec (hex k hk)
  obtain ⟨f, hf⟩ := hf
  have hinj : ∀ j k, j < D → k < D → f j = f k → j = k := fun j k hj hk e => by
    obtain ⟨x, h1, h2⟩ := hf j hj
    obtain ⟨y, h3, h4⟩ := hf k hk
    rw [e, h3] at h1
    injection h1 with h1
    subst h1
    have := h2.uniq h4
    omega
  have := nodup_le l.length ((List.range D).map f) (by
    rw [List.nodup_iff_pairwise_ne, List.pairwise_map]
    refine (List.nodup_iff_pairwise_ne.1 List.nodup_range).imp_of_mem fun {a b} ha hb hne e => hne (hinj a b (List.mem_range.1 ha) (List.mem_range.1 hb) e)) fun x hx => by
    obtain ⟨k, hk, rfl⟩ := List.mem_map.1 hx
    obtain ⟨y, h1, _⟩ := hf k (List.mem_range.1 hk)
    exact (List.getElem?_eq_some_iff.1 h1).1
  simpa using this
/-- the first of the shortest ways -/
def wayF (l : List Link) (t : Int) : Nat → Int → List Int
  | 0, _ => []
  | d + 1, n => ((l.findIdx fun x => decide (x.fr = n) && Rb l t d x.to : Nat) : Int) :: wayF l t d (l.getD (l.findIdx fun x => decide (x.fr = n) && Rb l t d x.to) default).to
theorem way_idx {l : List Link} {t n : Int} {d : Nat} (h : Dist l t n (d + 1)) : l.findIdx (fun x => decide (x.fr = n) && Rb l t d x.to) < l.length := by
  obtain ⟨x, hx, hf, hd⟩ := h.prev
  exact List.findIdx_lt_length.2 ⟨x, hx, by simp [hf, hd.1]⟩
theorem way_to {l : List Link} {t n : Int} {d : Nat} (h : Dist l t n (d + 1)) : Dist l t (l.getD (l.findIdx fun x => decide (x.fr = n) && Rb l t d x.to) default).to d := by
  have hi := way_idx h
  rw [List.getD_eq_getElem?_getD, List.getElem?_eq_getElem hi]
  have := List.findIdx_getElem (w := hi)
  simp only [Bool.and_eq_true, decide_eq_true_eq] at this
  exact h.step (List.getElem_mem hi) this.1 this.2
theorem way_len {l : List Link} {t : Int} : ∀ (d : Nat) (n : Int), (wayF l t d n).length = d
  | 0, _ => rfl
  | d + 1, n => by simp [wayF, way_len d]
/-! ### the search from the end -/
theorem get_set {F : List (Int × Int)} {k v n : Int} : @mpGet .int .int (@mpSet .int .int F k v) n = if n = k then some v else @mpGet .int .int F n := by
  induction F with
  | nil =>
    simp only [mpSet, mpGet, keq]
    by_cases h : n = k <;> simp [h]
  | cons p r ih =>
    obtain ⟨a, u⟩ := p
    simp only [mpSet, keq]
    by_cases h : k = a
    · subst h
      simp only [decide_true, cond_true, mpGet, keq]
      by_cases h1 : n = k <;> simp [h1]
    · simp only [h, decide_false, cond_false, mpGet, keq]
      by_cases h1 : n = a
      · subst h1
        have : ¬ n = k := fun e => h e.symm
        simp [this]
      · simp [h1, ih]
def Kn (F : List (Int × Int)) (n : Int) : Prop := (@mpGet .int .int F n).isSome = true
def unk (l : List Link) (F : List (Int × Int)) : Nat := l.countP fun x => (@mpGet .int .int F x.fr).isNone
/-- what holds while the versions that have the number of links k and k + 1 stand in line -/
structure Srch (l : List Link) (t : Int) (F : List (Int × Int)) (q1 q2 : List Int) (k : Nat) : Prop where
  right : ∀ n d, @mpGet .int .int F n = some d → ∃ e : Nat, d = e ∧ Dist l t n e
  a1 : ∀ y ∈ q1, @mpGet .int .int F y = some (k : Int)
  a2 : ∀ y ∈ q2, @mpGet .int .int F y = some ((k : Int) + 1)
  full : ∀ n e, Dist l t n e → e ≤ k → Kn F n
  root : Kn F t
  size : F.length + unk l F ≤ l.length + 1
theorem Kn.dist {l : List Link} {t : Int} {F : List (Int × Int)} {n : Int} {e : Nat} (h : Kn F n) (hr : ∀ n d, @mpGet .int .int F n = some d → ∃ e : Nat, d = e ∧ Dist l t n e) (hd : Dist l t n e) : @mpGet .int .int F n = some (e : Int) := by
  obtain ⟨d, hd'⟩ := Option.isSome_iff_exists.1 h
  obtain ⟨e', rfl, h2⟩ := hr n d hd'
  rw [hd', h2.uniq hd]
theorem unk_set {l : List Link} {F : List (Int × Int)} {x : Link} {v : Int} (hx : x ∈ l) (h : @mpGet .int .int F x.fr = none) : unk l (@mpSet .int .int F x.fr v) + 1 ≤ unk l F := by
  unfold unk
  induction l with
  | nil => cases hx
  | cons y r ih =>
    have mono : ∀ l : List Link, l.countP (fun x_1 => (@mpGet .int .int (@mpSet .int .int F x.fr v) x_1.fr).isNone) ≤ l.countP (fun x => (@mpGet .int .int F x.fr).isNone) := fun l =>
      List.countP_mono_left fun z _ hz => by
        rw [get_set] at hz
        split at hz
        · cases hz
        · exact hz
    rw [List.countP_cons, List.countP_cons]
    rcases List.mem_cons.1 hx with rfl | hx
    · have h1 : (@mpGet .int .int (@mpSet .int .int F x.fr v) x.fr).isNone = false := by rw [get_set]; simp
      have h2 : (@mpGet .int .int F x.fr).isNone = true := by rw [h]; rfl
      rw [h1, h2]
      have := mono r
      simp
      omega
    · have := ih hx
      have h3 : (@mpGet .int .int (@mpSet .int .int F x.fr v) y.fr).isNone = true → (@mpGet .int .int F y.fr).isNone = true := fun hz => by
        rw [get_set] at hz
        split at hz
        · cases hz
        · exact hz
      split <;> split <;> first | omega | (exfalso; simp_all; done)
theorem set_len {F : List (Int × Int)} {n v : Int} : (@mpSet .int .int F n v).length ≤ F.length + 1 := mpSet_len (κ := .int) (τ := .int) F n v
/-- a version that was not known is put in line -/
theorem Srch.push {l : List Link} {t : Int} {F : List (Int × Int)} {q1 q2 : List Int} {k : Nat} {h : Int} (H : Srch l t F q1 q2 k) (hh : @mpGet .int .int F h = some (k : Int)) {x : Link} (hx : x ∈ l) (ht : x.to = h) (hu : @mpGet .int .int F x.fr = none) :
    Srch l t (@mpSet .int .int F x.fr ((k : Int) + 1)) q1 (q2 ++ [x.fr]) k ∧ (∀ n, Kn F n → Kn (@mpSet .int .int F x.fr ((k : Int) + 1)) n) ∧ (∀ n, n ≠ x.fr → @mpGet .int .int (@mpSet .int .int F x.fr ((k : Int) + 1)) n = @mpGet .int .int F n) := by
  have other : ∀ n, n ≠ x.fr → @mpGet .int .int (@mpSet .int .int F x.fr ((k : Int) + 1)) n = @mpGet .int .int F n := fun n hn => by rw [get_set, if_neg hn]
  have known : ∀ n, (∃ d, @mpGet .int .int F n = some d) → n ≠ x.fr := fun n ⟨d, hd⟩ e => by rw [e, hu] at hd; cases hd
  have mono : ∀ n, Kn F n → Kn (@mpSet .int .int F x.fr ((k : Int) + 1)) n := fun n hn => by
    unfold Kn at hn ⊢
    rw [other n (known n (Option.isSome_iff_exists.1 hn))]
    exact hn
  refine ⟨⟨fun n d hd => ?_, fun y hy => ?_, fun y hy => ?_, fun n e hd he => mono n (H.full n e hd he), mono t H.root, ?_⟩, mono, other⟩
  · by_cases hn : n = x.fr
    · subst hn
      rw [get_set, if_pos rfl] at hd
      injection hd with hd
      obtain ⟨e, he, hde⟩ := H.right h _ hh
      have he : k = e := by have h9 : ((k : Nat) : Int) = ((e : Nat) : Int) := he; omega
      subst he
      refine ⟨k + 1, by rw [← hd]; rfl, Rb_succ.2 ⟨x, hx, rfl, by rw [ht]; exact hde.1⟩, fun j hj => ?_⟩
      cases hr : Rb l t j x.fr with
      | false => rfl
      | true =>
        obtain ⟨m, hm, hdm⟩ := Rb.dist hr
        have := H.full x.fr m hdm (by omega)
        unfold Kn at this
        rw [hu] at this
        cases this
    · rw [other n hn] at hd
      exact H.right n d hd
  · rw [other y (known y ⟨_, H.a1 y hy⟩)]; exact H.a1 y hy
  · rcases List.mem_append.1 hy with hy | hy
    · rw [other y (known y ⟨_, H.a2 y hy⟩)]; exact H.a2 y hy
    · rw [List.mem_singleton.1 hy, get_set, if_pos rfl]
  · have h1 := unk_set (v := (k : Int) + 1) hx hu
    have h2 := set_len (F := F) (n := x.fr) (v := (k : Int) + 1)
    have := H.size
    omega
/-- the next lot -/
theorem Srch.roll {l : List Link} {t : Int} {F : List (Int × Int)} {q2 : List Int} {k : Nat} (H : Srch l t F [] q2 k) (hc : ∀ y, Kn F y → y ∉ q2 → ∀ x ∈ l, x.to = y → Kn F x.fr) : Srch l t F q2 [] (k + 1) := by
  refine ⟨H.right, fun y hy => ?_, fun y hy => (nomatch hy), fun n e hd he => ?_, H.root, H.size⟩
  · rw [H.a2 y hy]; rfl
  · rcases Nat.lt_or_ge k e with h | h
    · have : e = k + 1 := by omega
      subst this
      obtain ⟨x, hx, hf, hdx⟩ := hd.prev
      have hk := H.full x.to k hdx (Nat.le_refl _)
      have := hc x.to hk (fun hm => by
        have h1 := H.a2 _ hm
        rw [hk.dist H.right hdx] at h1
        injection h1 with h1
        omega) x hx rfl
      rw [← hf]
      exact this
    · exact H.full n e hd h
/-- where nobody stands in line, all that can be come from are known -/
theorem Srch.done {l : List Link} {t : Int} {F : List (Int × Int)} {k : Nat} (H : Srch l t F [] [] k) (hc : ∀ y, Kn F y → ∀ x ∈ l, x.to = y → Kn F x.fr) (n : Int) (e : Nat) : @mpGet .int .int F n = some (e : Int) ↔ Dist l t n e := by
  have all : ∀ d n, Rb l t d n = true → Kn F n := by
    intro d
    induction d with
    | zero =>
      intro n hn
      have : n = t := by simpa [Rb] using hn
      rw [this]; exact H.root
    | succ d ih =>
      intro n hn
      obtain ⟨x, hx, hf, hr⟩ := Rb_succ.1 hn
      rw [← hf]
      exact hc x.to (ih _ hr) x hx rfl
  constructor
  · intro h
    obtain ⟨e', he, hd⟩ := H.right n _ h
    have : e = e' := by have h9 : ((e : Nat) : Int) = ((e' : Nat) : Int) := he; omega
    rw [this]; exact hd
  · intro h
    exact (all e n h.1).dist H.right h
theorem Srch.right_nat {l : List Link} {t : Int} {F : List (Int × Int)} {k : Nat} (H : Srch l t F [] [] k) (n d : Int) (h : @mpGet .int .int F n = some d) : ∃ e : Nat, d = e ∧ Dist l t n e := H.right n d h
theorem Srch.start (l : List Link) (t : Int) : Srch l t [(t, 0)] [t] [] 0 := by
  have g : ∀ n, @mpGet .int .int [(t, 0)] n = if n = t then some 0 else none := fun n => by
    simp only [mpGet, keq]
    by_cases h : n = t <;> simp [h]
  refine ⟨fun n d hd => ?_, fun y hy => ?_, fun y hy => (nomatch hy), fun n e hd he => ?_, ?_, ?_⟩
  · rw [g] at hd
    split at hd
    · rename_i e
      injection hd with hd
      refine ⟨0, by rw [← hd]; rfl, by simp [Rb, e], fun k hk => by omega⟩
    · cases hd
  · rw [List.mem_singleton.1 hy, g, if_pos rfl]; rfl
  · have : e = 0 := by omega
    subst this
    have : n = t := by simpa [Rb] using hd.1
    unfold Kn
    rw [g, if_pos this]
    rfl
  · unfold Kn; rw [g, if_pos rfl]; rfl
  · have : unk l [(t, 0)] ≤ l.length := List.countP_le_length
    simp
    omega
end Go.Ch
