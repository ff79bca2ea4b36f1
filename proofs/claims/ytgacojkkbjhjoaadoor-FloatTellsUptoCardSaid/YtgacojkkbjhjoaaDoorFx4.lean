/-
  A part of a proof: plain laws and walks, one after the other. No conditions.
-/
import Derived.Test.YtgacojkkbjhjoaaDoorFx3
import Derived.Laws.BitsAllLaws
import Derived.Laws.Bits64b
import Derived.Shelf.Strings.Builder1
import Derived.Shelf.Strings.Builder2
import Derived.Shelf.Strings.Trim
import Derived.Shelf.Small.Utf8
import Derived.Shelf.Small.Bits
import Derived.Shelf.Small.Strs
import Derived.Shelf.Small.Wraps
import Derived.Shelf.Strings.BuilderF
import Derived.Shelf.Strings.BuilderK
import Derived.Shelf.Strings.Builder2Cap
import Derived.Shelf.Strconv.Itoa0
import Derived.Shelf.Strconv.Itoa1
import Derived.Shelf.LaysM
import Derived.Shelf.Strconv.Itoa2
import Derived.Shelf.Strconv.Itoa3
import Derived.Shelf.Strings.Search1
import Derived.Shelf.Sort.Plain
import Derived.Shelf.Strings.Prefix
import Derived.Shelf.Unicode.Decode
import Derived.Shelf.Strings.Runes
import Derived.Shelf.Strings.AsciiSet
import Derived.Shelf.Bits.Mul64
import Derived.Shelf.Strings.Repeat
import Derived.Shelf.Unicode.DecodeSlow
import Derived.Shelf.Unicode.DecodeAny
import Derived.Shelf.Unicode.DecodeLast
import Derived.Shelf.Slices.CompactS
import Derived.Ground.Names2Prog
import Derived.Shelf.Slices.SearchI
import Derived.Shelf.Slices.Cells
import Derived.Shelf.Slices.In.SortNone
import Derived.Ground.SlgnProg
import Derived.Shelf.SlicesG.SearchI
import Derived.Test.YtgacojkkbjhjoaaDoorProg
import Derived.Lib.TrimByte
set_option linter.constructorNameAsVariable false
set_option linter.unusedVariables false
set_option linter.unusedSimpArgs false
set_option linter.unusedSectionVars false
section
namespace Go.Proofs.YtgacojkkbjhjoaaDoor
set_option linter.unusedSectionVars false
set_option linter.unusedSimpArgs false
set_option linter.unusedVariables false
open Go Go.SX Go.Bg
set_option maxRecDepth 100000
set_option maxHeartbeats 0
theorem vl_take_set {B:Nat} {o:List Int} {k:Nat} (hk:k < o.length) (x:Int):vl B ((o.set k x).take (k + 1)) = vl B (o.take k) + B ^ k * x.toNat:=by
  rw [vl_take_succ,List.take_set_of_le (Nat.le_refl k),List.getD_eq_getElem?_getD,List.getElem?_set_self hk]
  rfl
theorem minus_next {a b o : List Int} {k r r' : Nat} {t : Int} (ha : Dg 10000 a) (hb : Dg 10000 b) (ho : Dg 10000 o) (hol : o.length = a.length) (hv : vl 10000 (a.take k) + 10000 ^ k * r = vl 10000 (o.take k) + vl 10000 (b.take k))
    (hk:k < a.length) (ht:0≤t∧t < 10000) (he:t = a.getD k 0 - b.getD k 0 - r + 10000 * r') :
    Dg 10000 (o.set k t)∧(o.set k t).length = a.length∧vl 10000 (a.take (k + 1)) + 10000 ^ (k + 1) * r' = vl 10000 ((o.set k t).take (k + 1)) + vl 10000 (b.take (k + 1)):=by
  have g1:=ha.getD (by decide) k
  have g2:=hb.getD (by decide) k
  refine ⟨ho.set k ⟨ht.1,by omega⟩,by simp [hol],?_⟩
  rw [vl_take_set (by omega),vl_take_succ,vl_take_succ,Nat.pow_succ,Nat.mul_assoc]
  have e2:(a.getD k 0).toNat + 10000 * r' = t.toNat + (b.getD k 0).toNat + r:=by omega
  have e3:10000 ^ k * ((a.getD k 0).toNat + 10000 * r') = 10000 ^ k * (t.toNat + (b.getD k 0).toNat + r):=by rw [e2]
  rw [Nat.mul_add,Nat.mul_add,Nat.mul_add] at e3
  omega
theorem minus_end {a b o : List Int} {r : Nat} (hb : Dg 10000 b) (ho : Dg 10000 o) (hol : o.length = a.length) (hv : vl 10000 (a.take a.length) + 10000 ^ a.length * r = vl 10000 (o.take a.length) + vl 10000 (b.take a.length)) (hle : vl 10000 b ≤ vl 10000 a) :
    vl 10000 o = vl 10000 a - vl 10000 b:=by
  rw [List.take_length,List.take_of_length_le (l:=o) (by omega)] at hv
  have h1:=vl_lt ho
  rw [hol] at h1
  have hs:vl 10000 b = vl 10000 (b.take a.length) + 10000 ^ a.length * vl 10000 (b.drop a.length):=by
    rcases Nat.lt_or_ge a.length b.length with h | h
    · exact vl_split _ _ _ (by omega)
    · rw [List.take_of_length_le h,List.drop_of_length_le h]; simp [vl]
  have hr:r = 0:=by
    rcases Nat.eq_zero_or_pos r with h | h
    · exact h
    · have:10000 ^ a.length * 1≤10000 ^ a.length * r:=Nat.mul_le_mul_left _ h
      omega
  subst hr
  have hz:vl 10000 (b.drop a.length) = 0:=by
    rcases Nat.eq_zero_or_pos (vl 10000 (b.drop a.length)) with h | h
    · exact h
    · have:10000 ^ a.length * 1≤10000 ^ a.length * vl 10000 (b.drop a.length):=Nat.mul_le_mul_left _ h
      omega
  rw [hz] at hs
  omega
section
variable [G:Globs]
theorem w_minus (a b:List Int) (ha:Dg 10000 a) (hb:Dg 10000 b) (hla:a.length≤1000000) (hle:vl 10000 b≤vl 10000 a):vc Tryd.prog Γ 38 [0,1,4,5,6,7,8,13,14,15,28] (Tryd.f36.body.getD .skip) (postK Γ [.tmp 4] (fun v=>v = .rd .int (dg 10000 (vl 10000 a - vl 10000 b)))) ⟨argSlots 0 [.rd .int a,.rd .int b],[]⟩:=by
  intro hl0
  refine And.intro ⟨by omega,Int.le_refl _,by omega,by show a.length * 8≤_; omega⟩ ?_
  intro hl1
  refine Exists.intro [] (Exists.intro [] (Exists.intro [] (Exists.intro (Nat × Nat × List Int) (Exists.intro (fun x=>Dg 10000 x.2.2∧x.2.2.length = a.length∧x.2.1≤1∧vl 10000 (a.take x.1) + 10000 ^ x.1 * x.2.1 = vl 10000 (x.2.2.take x.1) + vl 10000 (b.take x.1)∧x.1≤a.length) (Exists.intro (fun ⟨k,r,o⟩=>⟨[(0,.rd .int a),(1,.rd .int b),(5,.vec 11 .int o),(6,.i .i64 r),(13,.i .i64 a.length),(14,.i .i64 k)],[]⟩) (Exists.intro (fun x=>a.length - x.1) (Exists.intro (0,0,List.replicate a.length 0) (And.intro ⟨Dg.replicate (by decide) _,by simp,by simp,by simp [vl],by simp⟩ (And.intro ?_ ?_)))))))))
  · (repeat' (first | exact trivial | exact Or.inl rfl | exact Or.inr (Or.inl ⟨rfl,_,rfl⟩) | exact Or.inr (Or.inr (Or.inr ⟨_,_,_,rfl,rfl⟩)) | refine And.intro ?_ ?_))
  · rintro ⟨k,r,o⟩ ⟨h1,h2,h3,h4,h5⟩
    dsimp only at h1 h2 h3 h4 h5
    refine And.intro (fun hc=>?_) (fun hc=>?_)
    · have hk : k < a.length := by have : (k : Int) < (a.length : Int) := of_decide_eq_true hc
                                   omega
      have g1:=ha.getD (by decide) k
      have g2:=hb.getD (by decide) k
      refine Exists.intro [.blk [0,1,2,3,4,5,6,7,8,9,10]] (And.intro (by kernel_rfl) ?_)
      refine And.intro ⟨by omega,by omega⟩ ?_
      refine Exists.intro _ (And.intro (s_at b k) ?_)
      have e:a.getD (Int.toNat (k:Int)) (dflt .int) = a.getD k 0:=rfl
      rw [e]
      generalize hx:a.getD k 0 = x at g1
      generalize hy:b.getD k 0 = y at g2
      (refine And.intro (rng64 (by omega) (by omega)) ?_)
      (refine And.intro (rng64 (by omega) (by omega)) ?_)
      refine And.intro (fun hd=>?_) (fun hd=>?_)
      · have hd:x - y - r < 0:=of_decide_eq_true hd
        (refine And.intro (rng64 (by omega) (by omega)) ?_)
        refine And.intro ⟨by omega,by omega⟩ ?_
        have nx:=minus_next (t:=x - y - r + 10000) (r':=1) ha hb h1 h2 h4 hk ⟨by omega,by omega⟩ (by rw [hx,hy]; omega)
        (refine And.intro (rng64 (by omega) (by omega)) ?_)
        refine Exists.intro [] (Exists.intro (k + 1,1,o.set k (x - y - r + 10000)) (And.intro ⟨nx.1,nx.2.1,by simp,nx.2.2,hk⟩ (And.intro ?_ ?_)))
        · (repeat' (first | exact trivial | exact Or.inl rfl | exact Or.inr (Or.inl ⟨rfl,_,rfl⟩) | exact Or.inr (Or.inr (Or.inr ⟨_,_,_,rfl,rfl⟩)) | refine And.intro ?_ ?_))
        · show a.length - (k + 1) < a.length - k
          omega
      · have hd:¬ x - y - r < 0:=of_decide_eq_false hd
        refine And.intro ⟨by omega,by omega⟩ ?_
        have nx:=minus_next (t:=x - y - r) (r':=0) ha hb h1 h2 h4 hk ⟨by omega,by omega⟩ (by rw [hx,hy]; omega)
        (refine And.intro (rng64 (by omega) (by omega)) ?_)
        refine Exists.intro [] (Exists.intro (k + 1,0,o.set k (x - y - r)) (And.intro ⟨nx.1,nx.2.1,by simp,nx.2.2,hk⟩ (And.intro ?_ ?_)))
        · (repeat' (first | exact trivial | exact Or.inl rfl | exact Or.inr (Or.inl ⟨rfl,_,rfl⟩) | exact Or.inr (Or.inr (Or.inr ⟨_,_,_,rfl,rfl⟩)) | refine And.intro ?_ ?_))
        · show a.length - (k + 1) < a.length - k
          omega
    · have hk : k = a.length := by have : ¬ (k : Int) < (a.length : Int) := of_decide_eq_false hc
                                   omega
      subst hk
      have hv:=minus_end hb h1 h2 h4 hle
      refine Or.inl (Exists.intro _ (And.intro (s_cut o h1) ?_))
      exact congrArg (fun n=>AV.rd .int (dg 10000 n)) hv
theorem s_minus (a b:List Int) (ha:Dg 10000 a) (hb:Dg 10000 b) (hla:a.length≤1000000) (hle:vl 10000 b≤vl 10000 a):PSpec Tryd.prog 36 [.rd .int a,.rd .int b] (.rd .int (dg 10000 (vl 10000 a - vl 10000 b))) :=
  pspec_of_vc Γ_good Tryd.func36 rfl Tryd.call36 Tryd.results36 Tryd.ntmps36 (Nat.le_of_ble_eq_true rfl) (w_minus a b ha hb hla hle)
end
end Go.Proofs.YtgacojkkbjhjoaaDoor
end
section
namespace Go.Proofs.YtgacojkkbjhjoaaDoor
set_option linter.unusedSectionVars false
set_option linter.unusedSimpArgs false
set_option linter.unusedVariables false
open Go Go.SX Go.Bg
set_option maxRecDepth 100000
set_option maxHeartbeats 0
theorem getN {l:List Int} (h:Dg 10000 l) (k:Nat):∃ z:Nat,l.getD k 0 = z∧z < 10000∧(l.getD k 0).toNat = z:=by
  have g:=h.getD (by decide) k
  exact ⟨(l.getD k 0).toNat,by omega,by omega,rfl⟩
theorem by_next {B : Nat} {o : List Int} {p x y z c V : Nat} (hB : 2 ≤ B) (ho : Dg B o) (hp : p < o.length) (hz : (o.getD p 0).toNat = z) (hv : vl B o + B ^ p * c = V) :
    Dg B (o.set p (((c + (z + x * y)) % B:Nat):Int))∧vl B (o.set p (((c + (z + x * y)) % B:Nat):Int)) + B ^ (p + 1) * ((c + (z + x * y)) / B) = V + B ^ p * (x * y):=by
  have hs:=vl_set (B:=B) hp (((c + (z + x * y)) % B:Nat):Int)
  rw [hz,Int.toNat_natCast] at hs
  refine ⟨ho.set p ⟨by omega,by have:=Nat.mod_lt (c + (z + x * y)) (show 0 < B by omega); omega⟩,?_⟩
  rw [Nat.pow_succ,Nat.mul_assoc]
  have e:B ^ p * ((c + (z + x * y)) % B + B * ((c + (z + x * y)) / B)) = B ^ p * (c + (z + x * y)):=by rw [Nat.mod_add_div]
  rw [Nat.mul_add,Nat.mul_add,Nat.mul_add] at e
  omega
theorem by_carry {B z x y c:Nat} (hB:2≤B) (hz:z < B) (hx:x < B) (hy:y < B) (hc:c < B):(c + (z + x * y)) / B < B:=by
  have h1:x * y≤(B - 1) * (B - 1):=Nat.mul_le_mul (by omega) (by omega)
  rw [Nat.div_lt_iff_lt_mul (by omega)]
  obtain ⟨m,rfl⟩:∃ m,B = m + 1:=⟨B - 1,by omega⟩
  rw [Nat.add_sub_cancel] at h1
  have:(m + 1) * (m + 1) = m * m + 2 * m + 1:=by rw [Nat.mul_add,Nat.add_mul]; omega
  omega
theorem by_end {B:Nat} {a b q:List Int} {i x k:Nat} (hx:(a.getD i 0).toNat = x) (hk:b.length≤k) (hv:vl B q + B ^ (i + k) * 0 = vl B (a.take i) * vl B b + B ^ i * (x * vl B (b.take k))):vl B q = vl B (a.take (i + 1)) * vl B b:=by
  rw [List.take_of_length_le hk] at hv
  rw [vl_take_succ,hx,Nat.add_mul,Nat.mul_assoc]
  omega
theorem by_zero {B:Nat} {a b q:List Int} {i x k c:Nat} (hB:2≤B) (ha:Dg B a) (hb:Dg B b) (hi:i < a.length) (hx:(a.getD i 0).toNat = x) (hk:b.length≤k) (hv:vl B q + B ^ (i + (k + 1)) * c = vl B (a.take i) * vl B b + B ^ i * (x * vl B (b.take (k + 1)))):c = 0:=by
  rw [List.take_of_length_le (l:=b) (by omega)] at hv
  have e:vl B (a.take i) * vl B b + B ^ i * (x * vl B b) = vl B (a.take (i + 1)) * vl B b:=by rw [vl_take_succ,hx,Nat.add_mul,Nat.mul_assoc]
  have h1:vl B (a.take (i + 1)) < B ^ (i + 1):=by
    have:=vl_lt (ha.take (i + 1))
    rwa [List.length_take,Nat.min_eq_left (by omega)] at this
  have h2:=vl_lt hb
  have h3:vl B (a.take (i + 1)) * vl B b < B ^ (i + 1) * B ^ b.length:=Nat.mul_lt_mul'' h1 h2
  have h4:B ^ (i + 1) * B ^ b.length≤B ^ (i + (k + 1)):=by
    rw [← Nat.pow_add]
    exact Nat.pow_le_pow_right (by omega) (by omega)
  rcases Nat.eq_zero_or_pos c with h | h
  · exact h
  · have:B ^ (i + (k + 1)) * 1≤B ^ (i + (k + 1)) * c:=Nat.mul_le_mul_left _ h
    omega
theorem by_step {B : Nat} {a b q : List Int} {i x y z k c : Nat} (hB : 2 ≤ B) (hq : Dg B q) (hp : i + k < q.length) (hz : (q.getD (i + k) 0).toNat = z) (hy : (b.getD k 0).toNat = y)
    (hv:vl B q + B ^ (i + k) * c = vl B (a.take i) * vl B b + B ^ i * (x * vl B (b.take k))) :
    Dg B (q.set (i + k) (((c + (z + x * y)) % B:Nat):Int))∧vl B (q.set (i + k) (((c + (z + x * y)) % B:Nat):Int)) + B ^ (i + (k + 1)) * ((c + (z + x * y)) / B) = vl B (a.take i) * vl B b + B ^ i * (x * vl B (b.take (k + 1))):=by
  have h:=by_next (x:=x) (y:=y) hB hq hp hz hv
  refine ⟨h.1,?_⟩
  rw [show i + (k + 1) = i + k + 1 by omega,h.2,vl_take_succ,hy,Nat.mul_add,Nat.mul_add,Nat.pow_add,Nat.mul_assoc]
  have:B ^ k * (x * y) = x * (B ^ k * y):=by rw [← Nat.mul_assoc,Nat.mul_comm _ x,Nat.mul_assoc]
  rw [this]
  omega
section
variable [G:Globs]
theorem w_By (a b:List Int) (ha:Dg 10000 a) (hb:Dg 10000 b) (hla:a.length≤500000) (hlb:b.length≤500000):vc Tryd.prog Γ 60 [0,1,4,5,6,7,8,17,18,19,28] (Tryd.f73.body.getD .skip) (postK Γ [.tmp 4] (fun v=>v = .rd .int (dg 10000 (vl 10000 a * vl 10000 b)))) ⟨argSlots 0 [.rd .int a,.rd .int b],[]⟩:=by
  intro hl0
  intro hl1
  (refine And.intro (rng64 (by omega) (by omega)) ?_)
  (refine And.intro (rng64 (by omega) (by omega)) ?_)
  refine And.intro ⟨by omega,Int.le_refl _,by omega,by show (a.length + b.length + 1) * 8≤_; omega⟩ ?_
  intro _
  refine Exists.intro [] (Exists.intro [] (Exists.intro [] (Exists.intro (Nat × List Int) (Exists.intro (fun x=>Dg 10000 x.2∧x.2.length = a.length + b.length + 1∧vl 10000 x.2 = vl 10000 (a.take x.1) * vl 10000 b∧x.1≤a.length) (Exists.intro (fun ⟨i,o⟩=>⟨[(0,.rd .int a),(1,.rd .int b),(5,.vec 15 .int o),(17,.i .i64 a.length),(18,.i .i64 i)],[]⟩) (Exists.intro (fun x=>a.length - x.1) (Exists.intro (0,List.replicate (a.length + b.length + 1) 0) (And.intro ⟨Dg.replicate (by decide) _,by simp,by rw [vl_replicate]; simp [vl],by simp⟩ (And.intro ?_ ?_)))))))))
  · (repeat' (first | exact trivial | exact Or.inl rfl | exact Or.inr (Or.inl ⟨rfl,_,rfl⟩) | exact Or.inr (Or.inr (Or.inr ⟨_,_,_,rfl,rfl⟩)) | refine And.intro ?_ ?_))
  · rintro ⟨i,o⟩ ⟨h1,h2,h3,h4⟩
    dsimp only at h1 h2 h3 h4
    refine And.intro (fun hc=>?_) (fun hc=>?_)
    · have hi : i < a.length := by have : (i : Int) < (a.length : Int) := of_decide_eq_true hc
                                   omega
      clear hc
      obtain ⟨x,hx,hxl,hxn⟩:=getN ha i
      refine Exists.intro [] (Exists.intro [] (Exists.intro [] (Exists.intro (Nat × Nat × List Int) (Exists.intro (fun q=>Dg 10000 q.2.2∧q.2.2.length = a.length + b.length + 1∧q.2.1 < 10000∧vl 10000 q.2.2 + 10000 ^ (i + q.1) * q.2.1 = vl 10000 (a.take i) * vl 10000 b + 10000 ^ i * (x * vl 10000 (b.take q.1))∧q.1≤b.length + 1∧(q.1≤b.length∨q.2.1 = 0)) (Exists.intro (fun ⟨k,c,o⟩=>⟨[(0,.rd .int a),(1,.rd .int b),(5,.vec 15 .int o),(6,.i .i64 i),(7,.i .i64 c),(8,.i .i64 k),(17,.i .i64 a.length),(18,.i .i64 i)],[]⟩) (Exists.intro (fun q=>b.length + 1 - q.1) (Exists.intro (0,0,o) (And.intro ⟨h1,h2,by simp,by simp [h3,vl],by simp,by simp⟩ (And.intro ?_ ?_)))))))))
      · (repeat' (first | exact trivial | exact Or.inl rfl | exact Or.inr (Or.inl ⟨rfl,_,rfl⟩) | exact Or.inr (Or.inr (Or.inr ⟨_,_,_,rfl,rfl⟩)) | refine And.intro ?_ ?_))
      · rintro ⟨k,c,q⟩ ⟨g1,g2,g3,g4,g5,g6⟩
        dsimp only at g1 g2 g3 g4 g5 g6
        repeat' (first | (refine And.intro (fun h=>?_) (fun h=>?_)<;>(try simp [-List.getD_eq_getElem?_getD,-Int.pred_toNat] at h)) | intro _)
        all_goals first | (exfalso; omega) | skip
        all_goals first
          | (obtain ⟨h9, rfl⟩ : b.length ≤ k ∧ c = 0 := ⟨by omega, by omega⟩
             have hv:=by_end hxn h9 g4
             (refine And.intro (rng64 (by omega) (by omega)) ?_)
             refine Exists.intro [] (Exists.intro (i + 1,q) (And.intro ⟨g1,g2,hv,hi⟩ (And.intro ?_ ?_)))
             · (repeat' (first | exact trivial | exact Or.inl rfl | exact Or.inr (Or.inl ⟨rfl,_,rfl⟩) | exact Or.inr (Or.inr (Or.inr ⟨_,_,_,rfl,rfl⟩)) | refine And.intro ?_ ?_))
             · show a.length - (i + 1) < a.length - i
               omega)
          | skip
        all_goals
          have hkb:k≤b.length:=by omega
          obtain ⟨y,hy,hyl,hyn⟩:=getN hb k
          obtain ⟨z,hz,hzl,hzn⟩:=getN g1 (i + k)
          have hs:=by_step (a:=a) (b:=b) (x:=x) b10 g1 (by omega) hzn hyn g4
          have hcl:(c + (z + x * y)) / 10000 < 10000:=by_carry b10 hzl hxl hyl g3
          have hxy:x * y≤9999 * 9999:=Nat.mul_le_mul (by omega) (by omega)
          have hxyi:(x:Int) * (y:Int) = ((x * y:Nat):Int):=rfl
          have hz0:k + 1≤b.length∨(c + (z + x * y)) / 10000 = 0:=by
            rcases Nat.lt_or_ge k b.length with h | h
            · exact .inl h
            · exact .inr (by_zero b10 ha hb hi hxn h hs.2)
          have e1:q.getD (Int.toNat ((i:Int) + (k:Int))) (dflt .int) = (z:Int):=hz
          have e2:a.getD (Int.toNat (i:Int)) (dflt .int) = (x:Int):=hx
          refine Exists.intro [.blk [0,1,2,3,4,5,6,7,8,9,10,11,12,13,14,15,16,17]] (And.intro (by kernel_rfl) ?_)
          (refine And.intro (rng64 (by omega) (by omega)) ?_)
          refine And.intro ⟨by omega,by omega⟩ ?_
          refine And.intro ⟨by omega,by omega⟩ ?_
          have qb:=s_atN b hb k
          rw [hyn] at qb
          refine Exists.intro _ (And.intro (qb) ?_)
          refine And.intro (rng64 (by rw [e2]; omega) (by rw [e2]; omega)) ?_
          refine And.intro (rng64 (by rw [e1,e2]; omega) (by rw [e1,e2]; omega)) ?_
          refine And.intro (rng64 (by rw [e1,e2]; omega) (by rw [e1,e2]; omega)) ?_
          (refine And.intro (rng64 (by omega) (by omega)) ?_)
          refine And.intro (by decide) ?_
          refine And.intro ⟨by omega,by omega⟩ ?_
          refine And.intro (by decide) ?_
          refine And.intro (rng64 (by rw [e1,e2,show (c:Int) + ((z:Int) + (x:Int) * (y:Int)) = ((c + (z + x * y):Nat):Int) from rfl,tdiv10k]; omega) (by rw [e1,e2,show (c:Int) + ((z:Int) + (x:Int) * (y:Int)) = ((c + (z + x * y):Nat):Int) from rfl,tdiv10k]; omega)) ?_
          (refine And.intro (rng64 (by omega) (by omega)) ?_)
          refine Exists.intro [] (Exists.intro (k + 1,(c + (z + x * y)) / 10000,q.set (i + k) (((c + (z + x * y)) % 10000:Nat):Int)) (And.intro ⟨hs.1,by simp [g2],hcl,hs.2,by omega,hz0⟩ (And.intro ?_ ?_)))
          · (repeat' (first | exact trivial | exact Or.inl rfl | exact Or.inl ((by rw [e1,e2]; rfl)) | refine And.intro ?_ ?_))
          · show b.length + 1 - (k + 1) < b.length + 1 - k
            omega
    · have hi : i = a.length := by have : ¬ (i : Int) < (a.length : Int) := of_decide_eq_false hc
                                   omega
      subst hi
      rw [List.take_length] at h3
      refine Or.inl (Exists.intro _ (And.intro (s_cut o h1) ?_))
      exact congrArg (fun n=>AV.rd .int (dg 10000 n)) h3
theorem s_By (a b:List Int) (ha:Dg 10000 a) (hb:Dg 10000 b) (hla:a.length≤500000) (hlb:b.length≤500000):PSpec Tryd.prog 73 [.rd .int a,.rd .int b] (.rd .int (dg 10000 (vl 10000 a * vl 10000 b))) :=
  pspec_of_vc Γ_good Tryd.func73 rfl Tryd.call73 Tryd.results73 Tryd.ntmps73 (Nat.le_of_ble_eq_true rfl) (w_By a b ha hb hla hlb)
end
end Go.Proofs.YtgacojkkbjhjoaaDoor
end
section
namespace Go.Proofs.YtgacojkkbjhjoaaDoor
set_option linter.unusedSectionVars false
set_option linter.unusedSimpArgs false
set_option linter.unusedVariables false
open Go Go.SX Go.Bg
set_option maxRecDepth 100000
set_option maxHeartbeats 0
theorem rep_get (n t:Nat):(List.replicate n (0:Int)).getD t 0 = 0:=by
  rw [List.getD_eq_getElem?_getD,List.getElem?_replicate]
  split<;>rfl
theorem nn_of {j:Int} (h:decide (0≤j) = true):∃ m:Nat,j = m:=⟨j.toNat,by have:=of_decide_eq_true h; omega⟩
theorem tdiv2 (m:Nat):(m:Int).tdiv 2 = ((m / 2:Nat):Int):=rfl
theorem over_next {B : Nat} {a q : List Int} {vb m x r lo : Nat} (ha : Dg B a) (hq : Dg B q) (hql : q.length = a.length) (hm : m < a.length) (hx : (a.getD m 0).toNat = x) (hb : 0 < vb)
    (hr:r = vl B (a.drop (m + 1)) % vb) (hv:vl B (q.drop (m + 1)) = vl B (a.drop (m + 1)) / vb) (h1:vb * lo≤x + B * r) (h2:x + B * r < vb * (lo + 1)) :
    x + B * r - vb * lo = vl B (a.drop m) % vb∧vl B ((q.set m lo).drop m) = vl B (a.drop m) / vb:=by
  rw [vl_drop B a m,vl_drop B (q.set m lo) m,hx]
  generalize hA:vl B (a.drop (m + 1)) = A at *
  have e:x + B * A = vb * (lo + B * (A / vb)) + (x + B * r - vb * lo):=by
    have h3:=Nat.div_add_mod A vb
    rw [← hr] at h3
    have h4:B * A = vb * (B * (A / vb)) + B * r:=by
      conv=>lhs; rw [← h3]
      rw [Nat.mul_add,← Nat.mul_assoc,← Nat.mul_assoc,Nat.mul_comm B vb]
    rw [Nat.mul_add]
    omega
  have hlt:x + B * r - vb * lo < vb:=by
    rw [Nat.mul_add,Nat.mul_one] at h2
    omega
  refine ⟨?_,?_⟩
  · rw [e,Nat.mul_add_mod,Nat.mod_eq_of_lt hlt]
  · rw [e,Nat.mul_add_div hb,Nat.div_eq_of_lt hlt,List.getD_eq_getElem?_getD,List.getElem?_set_self (by omega),List.drop_set_of_lt (by omega),hv]
    simp
theorem against_start {a b:List Int} {t:Nat} (h:a.length≤t∧b.length≤t):a.getD t 0 = b.getD t 0:=by
  rw [List.getD_eq_getElem?_getD,List.getD_eq_getElem?_getD,List.getElem?_eq_none h.1,List.getElem?_eq_none h.2]
theorem against_next {a b:List Int} {m t:Nat} (h:∀ t,m < t→a.getD t 0 = b.getD t 0) (ht:m≤t) (he:a.getD m 0 = b.getD m 0):a.getD t 0 = b.getD t 0:=by
  rcases Nat.lt_or_ge m t with h1 | h1
  · exact h t h1
  · have:t = m:=by omega
    rw [this,he]
section
variable [G:Globs]
theorem w_against (a b:List Int) (ha:Dg 10000 a) (hb:Dg 10000 b) (hla:a.length≤1000000) (hlb:b.length≤1000000):vc Tryd.prog Γ 32 [0,1,4,5,13,16,24] (Tryd.f30.body.getD .skip) (postK Γ [.tmp 4] (fun v=>v = .i .i64 (cmpN (vl 10000 a) (vl 10000 b)))) ⟨argSlots 0 [.rd .int a,.rd .int b],[]⟩:=by
  intro hl0
  intro hl1
  refine And.intro (rng64 (by split<;>omega) (by split<;>omega)) ?_
  refine Exists.intro [] (Exists.intro [] (Exists.intro [] (Exists.intro Int (Exists.intro (fun j=>-1≤j∧j < 1000000∧∀ t:Nat,j < t→a.getD t 0 = b.getD t 0) (Exists.intro (fun j=>⟨[(0,.rd .int a),(1,.rd .int b),(5,.i .i64 j)],[]⟩) (Exists.intro (fun j=>(j + 1).toNat) (Exists.intro ((if (a.length:Int) < b.length then (b.length:Int) else (a.length:Int)) - 1) (And.intro ⟨by split<;>omega,by split<;>omega,fun t ht=>against_start (by split at ht<;>omega)⟩ (And.intro ?_ ?_)))))))))
  · (repeat' (first | exact trivial | exact Or.inl rfl | exact Or.inr (Or.inl ⟨rfl,_,rfl⟩) | exact Or.inr (Or.inr (Or.inr ⟨_,_,_,rfl,rfl⟩)) | refine And.intro ?_ ?_))
  · rintro j ⟨h1,h2,h3⟩
    refine And.intro (fun hc=>?_) (fun hc=>?_)
    · obtain ⟨m,rfl⟩:=nn_of hc
      have h3:∀ t,m < t→a.getD t 0 = b.getD t 0:=fun t ht=>h3 t (by omega)
      refine Or.inl (Exists.intro _ (And.intro (s_at a m) ?_))
      refine Or.inl (Exists.intro _ (And.intro (s_at b m) ?_))
      refine And.intro (fun hd=>?_) (fun hd=>?_)
      · have hd:a.getD m 0 < b.getD m 0:=of_decide_eq_true hd
        have:=vl_cmp b10 ha hb h3 hd
        exact congrArg (AV.i .i64) (by unfold cmpN; rw [if_pos this])
      · have hd:¬ a.getD m 0 < b.getD m 0:=of_decide_eq_false hd
        refine Or.inl (Exists.intro _ (And.intro (s_at a m) ?_))
        refine Or.inl (Exists.intro _ (And.intro (s_at b m) ?_))
        refine And.intro (fun he=>?_) (fun he=>?_)
        · have he:b.getD m 0 < a.getD m 0:=of_decide_eq_true he
          have:=vl_cmp b10 hb ha (fun t ht=>(h3 t ht).symm) he
          exact congrArg (AV.i .i64) (by unfold cmpN; rw [if_neg (by omega),if_pos this])
        · have he:¬ b.getD m 0 < a.getD m 0:=of_decide_eq_false he
          (refine And.intro (rng64 (by omega) (by omega)) ?_)
          refine Exists.intro [] (Exists.intro ((m:Int) - 1) (And.intro ⟨by omega,by omega,fun t ht=>against_next h3 (by omega) (by omega)⟩ (And.intro ?_ ?_)))
          · (repeat' (first | exact trivial | exact Or.inl rfl | exact Or.inr (Or.inl ⟨rfl,_,rfl⟩) | exact Or.inr (Or.inr (Or.inr ⟨_,_,_,rfl,rfl⟩)) | refine And.intro ?_ ?_))
          · show ((m:Int) - 1 + 1).toNat < ((m:Int) + 1).toNat
            omega
    · have hj : j = -1 := by have : ¬ 0 ≤ j := of_decide_eq_false hc
                             omega
      have:=vl_ext (B:=10000) (l:=a) (m:=b) fun t=>h3 t (by omega)
      exact congrArg (AV.i .i64) (by unfold cmpN; rw [if_neg (by omega),if_neg (by omega)])
theorem s_against (a b:List Int) (ha:Dg 10000 a) (hb:Dg 10000 b) (hla:a.length≤1000000) (hlb:b.length≤1000000):PSpec Tryd.prog 30 [.rd .int a,.rd .int b] (.i .i64 (cmpN (vl 10000 a) (vl 10000 b))) :=
  pspec_of_vc Γ_good Tryd.func30 rfl Tryd.call30 Tryd.results30 Tryd.ntmps30 (Nat.le_of_ble_eq_true rfl) (w_against a b ha hb hla hlb)
end
end Go.Proofs.YtgacojkkbjhjoaaDoor
end
section
namespace Go.Proofs.YtgacojkkbjhjoaaDoor
set_option linter.unusedSectionVars false
set_option linter.unusedSimpArgs false
set_option linter.unusedVariables false
open Go Go.SX Go.Bg
set_option maxRecDepth 100000
set_option maxHeartbeats 0
theorem b32:2≤4294967296:=by decide
theorem tmod2 (m:Nat):(m:Int).tmod 2 = ((m % 2:Nat):Int):=rfl
theorem power_odd {b e f n:Nat} (h:n % 2 = 1):b ^ e * b ^ f = b ^ (e + f)∧(e + f) + (f + f) * (n / 2) = e + f * n:=by
  refine ⟨(Nat.pow_add b e f).symm,?_⟩
  have:f * n = f * (2 * (n / 2) + 1):=by congr 1; omega
  rw [this,Nat.mul_add,← Nat.mul_assoc,Nat.mul_comm f 2,Nat.two_mul]
  omega
theorem power_even {e f n:Nat} (h:n % 2 = 0):e + (f + f) * (n / 2) = e + f * n:=by
  have:f * n = f * (2 * (n / 2)):=by congr 1; omega
  rw [this,← Nat.mul_assoc,Nat.mul_comm f 2,Nat.two_mul]
section
variable [G:Globs]
theorem w_power (b n:Nat) (hb:b < 18446744073709551616) (hn:n < 9223372036854775808) (hs:∀ k≤n,(dg 10000 (b ^ k)).length≤400000):vc Tryd.prog Γ 24 [0,1,4,5,6,11,14] (Tryd.f74.body.getD .skip) (postK Γ [.tmp 4] (fun v=>v = .rd .int (dg 10000 (b ^ n)))) ⟨argSlots 0 [.i .u64 b,.i .i64 n],[]⟩:=by
  refine Or.inl (Exists.intro _ (And.intro (s_small 1 (by decide)) ?_))
  refine Or.inl (Exists.intro _ (And.intro (s_small b hb) ?_))
  refine Exists.intro [] (Exists.intro [] (Exists.intro [] (Exists.intro (Nat × Nat × Nat) (Exists.intro (fun x=>x.2.1 + x.2.2 * x.1 = n∧1≤x.2.2) (Exists.intro (fun ⟨m,e,f⟩=>⟨[(1,.i .i64 m),(5,.rd .int (dg 10000 (b ^ e))),(6,.rd .int (dg 10000 (b ^ f)))],[]⟩) (Exists.intro (fun x=>x.1) (Exists.intro (n,0,1) (And.intro ⟨by simp,by simp⟩ (And.intro ?_ ?_)))))))))
  · (repeat' (first | exact trivial | exact Or.inl rfl | exact Or.inl ((by rw [Nat.pow_one])) | refine And.intro ?_ ?_))
  · rintro ⟨m,e,f⟩ ⟨h1,h2⟩
    dsimp only at h1 h2
    refine And.intro (fun hc=>?_) (fun hc=>?_)
    · have hm : 0 < m := by have : (0 : Int) < (m : Int) := of_decide_eq_true hc
                            omega
      have hfm:f * 1≤f * m:=Nat.mul_le_mul_left _ hm
      have hmn:m < 9223372036854775808:=by
        have:1 * m≤f * m:=Nat.mul_le_mul_right _ h2
        omega
      have le:(dg 10000 (b ^ e)).length≤400000:=hs e (by omega)
      have lf:(dg 10000 (b ^ f)).length≤400000:=hs f (by omega)
      have q1:=s_By (dg 10000 (b ^ e)) (dg 10000 (b ^ f)) (dg_Dg b10 _) (dg_Dg b10 _) (by omega) (by omega)
      have q2:=s_By (dg 10000 (b ^ f)) (dg 10000 (b ^ f)) (dg_Dg b10 _) (dg_Dg b10 _) (by omega) (by omega)
      rw [vl_dg b10,vl_dg b10] at q1
      rw [vl_dg b10,← Nat.pow_add] at q2
      refine And.intro (by decide) ?_
      refine And.intro (fun hd=>?_) (fun hd=>?_)
      · have hd : m % 2 = 1 := by
          rw [show (m:Int).tmod 2 = ((m % 2:Nat):Int) from rfl] at hd
          have:=eq_of_beq hd
          omega
        rw [(power_odd (b:=b) hd).1] at q1
        refine Or.inl (Exists.intro _ (And.intro (q1) ?_))
        refine Or.inl (Exists.intro _ (And.intro (q2) ?_))
        refine And.intro (by decide) ?_
        refine And.intro (rng64 (by rw [tdiv2]; omega) (by rw [tdiv2]; omega)) ?_
        refine Exists.intro [] (Exists.intro (m / 2,e + f,f + f) (And.intro ⟨by have:=(power_odd (b:=b) (e:=e) (f:=f) hd).2; dsimp only; omega,by dsimp only; omega⟩ (And.intro ?_ ?_)))
        · (repeat' (first | exact trivial | exact Or.inl rfl | exact Or.inr (Or.inl ⟨rfl,_,rfl⟩) | exact Or.inr (Or.inr (Or.inr ⟨_,_,_,rfl,rfl⟩)) | refine And.intro ?_ ?_))
        · show m / 2 < m
          omega
      · have hd : m % 2 = 0 := by
          rw [show (m:Int).tmod 2 = ((m % 2:Nat):Int) from rfl] at hd
          have:=ne_of_beq_false hd
          omega
        refine Or.inl (Exists.intro _ (And.intro (q2) ?_))
        refine And.intro (by decide) ?_
        refine And.intro (rng64 (by rw [tdiv2]; omega) (by rw [tdiv2]; omega)) ?_
        refine Exists.intro [] (Exists.intro (m / 2,e,f + f) (And.intro ⟨by have:=power_even (e:=e) (f:=f) hd; dsimp only; omega,by dsimp only; omega⟩ (And.intro ?_ ?_)))
        · (repeat' (first | exact trivial | exact Or.inl rfl | exact Or.inr (Or.inl ⟨rfl,_,rfl⟩) | exact Or.inr (Or.inr (Or.inr ⟨_,_,_,rfl,rfl⟩)) | refine And.intro ?_ ?_))
        · show m / 2 < m
          omega
    · have hm : m = 0 := by have : ¬ (0 : Int) < (m : Int) := of_decide_eq_false hc
                            omega
      subst hm
      rw [Nat.mul_zero,Nat.add_zero] at h1
      rw [h1]
      rfl
theorem s_power (b n:Nat) (hb:b < 18446744073709551616) (hn:n < 9223372036854775808) (hs:∀ k≤n,(dg 10000 (b ^ k)).length≤400000):PSpec Tryd.prog 74 [.i .u64 b,.i .i64 n] (.rd .int (dg 10000 (b ^ n))) :=
  pspec_of_vc Γ_good Tryd.func74 rfl Tryd.call74 Tryd.results74 Tryd.ntmps74 (Nat.le_of_ble_eq_true rfl) (w_power b n hb hn hs)
end
end Go.Proofs.YtgacojkkbjhjoaaDoor
end
section
namespace Go.Proofs.YtgacojkkbjhjoaaDoor
set_option linter.unusedSectionVars false
set_option linter.unusedSimpArgs false
set_option linter.unusedVariables false
open Go Go.SX Go.Bg
set_option maxRecDepth 100000
set_option maxHeartbeats 0
section
variable [G:Globs]
end
end Go.Proofs.YtgacojkkbjhjoaaDoor
end
section
namespace Go.Bg
set_option linter.unusedSectionVars false
set_option linter.unusedSimpArgs false
set_option linter.unusedVariables false
open Go.SX
def dch (d:Int):UInt8:=UInt8.ofNat (48 + d.toNat)
def dstr (l:List Int):Str:=l.reverse.map dch
def decS (n:Nat):Str:=if n = 0 then [48] else dstr (dg 10 n)
theorem dch_nat {d:Int} (h:0≤d∧d < ((10:Nat):Int)):(dch d).toNat = 48 + d.toNat:=by
  unfold dch
  rw [UInt8.toNat_ofNat']
  omega
theorem dstr_snoc (l:List Int) (d:Int):dstr (l++[d]) = dch d::dstr l:=by simp [dstr]
theorem dstr_len (l:List Int):(dstr l).length = l.length:=by simp [dstr]
def isd (c:UInt8):Prop:=48≤c.toNat∧c.toNat≤57
instance (c:UInt8):Decidable (isd c):=by unfold isd; infer_instance
def dv:Str→Nat
  | []=>0
  | c::r=>(c.toNat - 48) * 10 ^ r.length + dv r
theorem dv_append (a b:Str):dv (a++b) = dv a * 10 ^ b.length + dv b:=by
  induction a with
  | nil=>simp [dv]
  | cons c r ih=>simp only [List.cons_append,dv,ih,List.length_append,Nat.pow_add,Nat.add_mul,Nat.mul_assoc]; omega
theorem dv_snoc (a:Str) (c:UInt8):dv (a++[c]) = dv a * 10 + (c.toNat - 48):=by rw [dv_append]; simp [dv]
theorem dv_lt {s:Str} (h:∀ c ∈ s,isd c):dv s < 10 ^ s.length:=by
  induction s with
  | nil=>simp [dv]
  | cons c r ih =>
    have h1:=h c (List.mem_cons_self ..)
    have h2:=ih fun x hx=>h x (List.mem_cons_of_mem _ hx)
    simp only [dv,List.length_cons,Nat.pow_succ]
    have h3:(c.toNat - 48) * 10 ^ r.length≤9 * 10 ^ r.length:=Nat.mul_le_mul_right _ (by have:=h1.2; omega)
    omega
theorem dv_split (s:Str) (n:Nat):dv s = dv (s.take n) * 10 ^ (s.drop n).length + dv (s.drop n):=by
  conv=>lhs; rw [← List.take_append_drop n s]
  exact dv_append _ _
end Go.Bg
end
section
namespace Go.Proofs.YtgacojkkbjhjoaaDoor
set_option linter.unusedSectionVars false
set_option linter.unusedSimpArgs false
set_option linter.unusedVariables false
open Go Go.SX Go.Bg
set_option maxRecDepth 100000
set_option maxHeartbeats 0
theorem pow32 {n:Nat} (hn:n < 32):4294967296 = 2 ^ n * 2 ^ (32 - n):=by
  rw [← Nat.pow_add,show n + (32 - n) = 32 by omega]
theorem left_or {n x c:Nat} (hn:n < 32) (hc:c < 2 ^ n):bits .or .u32 (IntKind.u32.wrap ((x:Int) * 2 ^ (min (IntKind.u64.wrap (n:Int)).toNat 32))) (c:Int) = ((2 ^ n * (x % 2 ^ (32 - n)) + c:Nat):Int):=by
  have h0:IntKind.u64.wrap (n:Int) = n:=by rw [IntKind.wrap_u64]; omega
  have h1:min (IntKind.u64.wrap (n:Int)).toNat 32 = n:=by rw [h0,Int.toNat_natCast]; omega
  have h2:IntKind.u32.wrap ((x:Int) * 2 ^ n) = ((2 ^ n * (x % 2 ^ (32 - n)):Nat):Int):=by
    rw [IntKind.wrap_u32',← Nat.mul_mod_mul_left,← pow32 hn,Nat.mul_comm (2 ^ n) x]
    simp
  have h3:2 ^ n * (x % 2 ^ (32 - n)) < 4294967296:=by
    rw [← Nat.mul_mod_mul_left,← pow32 hn]
    exact Nat.mod_lt _ (by decide)
  have h4:c < 4294967296:=Nat.lt_of_lt_of_le hc (Nat.pow_le_pow_right (i:=n) (j:=32) (by decide) (by omega))
  rw [h1,h2,u32_or_nat _ _ h3 h4,Nat.two_pow_add_eq_or_of_lt hc]
theorem left_low {n x:Nat} (hn:n < 32) (hx:x < 4294967296):IntKind.u32.wrap ((IntKind.u64.wrap (x:Int)).fdiv (2 ^ (min (IntKind.u64.wrap (32 - (n:Int))).toNat 64))) = ((x / 2 ^ (32 - n):Nat):Int):=by
  have h0:IntKind.u64.wrap (32 - (n:Int)) = ((32 - n:Nat):Int):=by rw [IntKind.wrap_u64]; omega
  have h1:min (IntKind.u64.wrap (32 - (n:Int))).toNat 64 = 32 - n:=by rw [h0,Int.toNat_natCast]; omega
  have h2:IntKind.u64.wrap (x:Int) = x:=by rw [IntKind.wrap_u64]; omega
  have h3:x / 2 ^ (32 - n)≤x:=Nat.div_le_self _ _
  rw [h1,h2,Int.fdiv_eq_ediv_of_nonneg _ (by exact_mod_cast Nat.zero_le (2 ^ (32 - n)))]
  rw [show ((x:Int) / 2 ^ (32 - n)) = ((x / 2 ^ (32 - n):Nat):Int) by simp,IntKind.wrap_u32']
  generalize x / 2 ^ (32 - n) = y at h3
  omega
theorem left_next {n k c x : Nat} {l o : List Int} (hn : n < 32) (hx : (l.getD k 0).toNat = x) (hxl : x < 4294967296) (h2 : o.length = k) (h3 : Dg 4294967296 o) (h4 : c < 2 ^ n) (h5 : vl 4294967296 o + 4294967296 ^ k * c = 2 ^ n * vl 4294967296 (l.take k)) :
    (o++[((2 ^ n * (x % 2 ^ (32 - n)) + c:Nat):Int)]).length = k + 1∧Dg 4294967296 (o++[((2 ^ n * (x % 2 ^ (32 - n)) + c:Nat):Int)])∧x / 2 ^ (32 - n) < 2 ^ n ∧
    vl 4294967296 (o++[((2 ^ n * (x % 2 ^ (32 - n)) + c:Nat):Int)]) + 4294967296 ^ (k + 1) * (x / 2 ^ (32 - n)) = 2 ^ n * vl 4294967296 (l.take (k + 1)):=by
  have hp:=pow32 hn
  have hpos:0 < 2 ^ (32 - n):=Nat.pow_pos (by decide)
  have hm:x % 2 ^ (32 - n) + 1≤2 ^ (32 - n):=Nat.mod_lt _ hpos
  have hy:2 ^ n * (x % 2 ^ (32 - n)) + 2 ^ n≤4294967296:=by
    have:=Nat.mul_le_mul_left (2 ^ n) hm
    rw [Nat.mul_add,Nat.mul_one,← hp] at this
    exact this
  refine ⟨by simp [h2],h3.snoc ⟨by omega,by omega⟩,?_,?_⟩
  · rw [Nat.div_lt_iff_lt_mul hpos,← hp]
    exact hxl
  · have e : 2 ^ n * (x % 2 ^ (32 - n)) + 4294967296 * (x / 2 ^ (32 - n)) = 2 ^ n * x := by
      rw [hp,Nat.mul_assoc,← Nat.mul_add,Nat.mod_add_div]
    have e2:4294967296 ^ k * (2 ^ n * (x % 2 ^ (32 - n)) + 4294967296 * (x / 2 ^ (32 - n))) = 4294967296 ^ k * (2 ^ n * x):=by rw [e]
    rw [vl_snoc,vl_take_succ,hx,h2,Int.toNat_natCast,Nat.pow_succ,Nat.mul_assoc,Nat.mul_add (2 ^ n)]
    rw [Nat.mul_add] at e2
    rw [Nat.mul_add]
    have e3:4294967296 ^ k * (2 ^ n * x) = 2 ^ n * (4294967296 ^ k * x):=by rw [← Nat.mul_assoc,Nat.mul_comm _ (2 ^ n),Nat.mul_assoc]
    omega
section
variable [G:Globs]
theorem w_trimmed (l:List Int) (hl:Dg 4294967296 l):vc Tryd.prog Γ 21 [0,2,14] (Tryd.f59.body.getD .skip) (postK Γ [.tmp 2] (fun v=>v = .rd .u32 (dg 4294967296 (vl 4294967296 l)))) ⟨argSlots 0 [.rd .u32 l],[]⟩:=by
  refine Exists.intro [] (Exists.intro [] (Exists.intro [] (Exists.intro Nat (Exists.intro (fun k=>k≤l.length∧∀ i,k≤i→l.getD i 0 = 0) (Exists.intro (fun k=>⟨[(0,.rd .u32 (l.take k))],[]⟩) (Exists.intro (fun k=>k) (Exists.intro l.length (And.intro ⟨Nat.le_refl _,fun i hi=>by rw [List.getD_eq_getElem?_getD,List.getElem?_eq_none hi]; rfl⟩ (And.intro ?_ ?_)))))))))
  · (repeat' (first | exact trivial | exact Or.inl rfl | exact Or.inl ((by rw [List.take_length])) | refine And.intro ?_ ?_))
  · rintro k ⟨hk,hz⟩
    intro hlen; replace hlen:=len_le hlen
    have hlk:(l.take k).length = k:=by rw [List.length_take]; omega
    refine And.intro (fun hg=>?_) (fun hg=>?_)
    · have hg : 0 < k := by have : (0 : Int) < ((l.take k).length : Int) := of_decide_eq_true hg
                            omega
      intro _
      (refine And.intro (rng64 (by omega) (by omega)) ?_)
      refine And.intro ⟨by omega,by omega⟩ ?_
      obtain ⟨j,rfl⟩:∃ j,k = j + 1:=⟨k - 1,by omega⟩
      have hd:(l.take (j + 1)).getD (Int.toNat (((l.take (j + 1)).length:Int) - 1)) (dflt .u32) = l.getD j 0:=by
        rw [hlk,show Int.toNat (((j + 1:Nat):Int) - 1) = j from by omega,List.getD_eq_getElem?_getD,List.getD_eq_getElem?_getD,List.getElem?_take_of_lt (by omega)]
      refine And.intro (fun hq=>?_) (fun hq=>?_)
      · have hq:l.getD j 0 = 0:=by rw [hd] at hq; simpa using hq
        intro _
        (refine And.intro (rng64 (by omega) (by omega)) ?_)
        refine And.intro ⟨by omega,by omega,by omega⟩ ?_
        refine Exists.intro [] (Exists.intro j (And.intro ⟨by omega,zero_below hz hq⟩ (And.intro ?_ ?_)))
        · (repeat' (first | exact trivial | exact Or.inl rfl | exact Or.inl ((congrArg (AV.rd .u32) (take_take_pred l hk))) | refine And.intro ?_ ?_))
        · show j < j + 1
          omega
      · have hq:l.getD j 0≠0:=by rw [hd] at hq; simpa using hq
        exact congrArg (AV.rd .u32) (canonTake b32 hl hk (Or.inr (by simpa using hq)) hz)
    · have hg : k = 0 := by have : ¬ (0 : Int) < ((l.take k).length : Int) := of_decide_eq_false hg
                            omega
      refine And.intro (fun h9=>absurd h9 (by simp)) (fun _=>?_)
      exact congrArg (AV.rd .u32) (canonTake b32 hl hk (Or.inl hg) hz)
theorem s_trimmed (l:List Int) (hl:Dg 4294967296 l):PSpec Tryd.prog 59 [.rd .u32 l] (.rd .u32 (dg 4294967296 (vl 4294967296 l))) :=
  pspec_of_vc Γ_good Tryd.func59 rfl Tryd.call59 Tryd.results59 Tryd.ntmps59 (Nat.le_of_ble_eq_true rfl) (w_trimmed l hl)
theorem w_left (m n:Nat) (hn:n < 32) (hll:(dg 4294967296 m).length≤1000000):vc Tryd.prog Γ 43 [0,1,4,5,6,8,13,14,15,16,37] (Tryd.f60.body.getD .skip) (postK Γ [.tmp 4] (fun v=>v = .rd .u32 (dg 4294967296 (2 ^ n * m)))) ⟨argSlots 0 [.rd .u32 (dg 4294967296 m),.i .i64 n],[]⟩:=by
  have hl:=dg_Dg b32 m
  have hv:=vl_dg b32 m
  have hge:0 < m→4294967296 ^ ((dg 4294967296 m).length - 1)≤m:=dg_ge b32
  have hm0:m = 0→(dg 4294967296 m).length = 0:=fun e=>by rw [e]; rfl
  generalize dg 4294967296 m = l at hl hv hge hll hm0
  intro _
  (refine And.intro (rng64 (by omega) (by omega)) ?_)
  refine And.intro ⟨by omega,by omega,by omega,by show (l.length + 2) * 4≤_; omega⟩ ?_
  intro _
  refine Exists.intro [] (Exists.intro [] (Exists.intro [] (Exists.intro (Nat × Nat × List Int) (Exists.intro (fun x=>x.1≤l.length∧x.2.2.length = x.1∧Dg 4294967296 x.2.2∧x.2.1 < 2 ^ n∧vl 4294967296 x.2.2 + 4294967296 ^ x.1 * x.2.1 = 2 ^ n * vl 4294967296 (l.take x.1)) (Exists.intro (fun ⟨k,c,o⟩=>⟨[(1,.i .i64 n),(5,.vec 12 .u32 o),(6,.i .u32 c),(13,.rd .u32 l),(14,.i .i64 l.length),(15,.i .i64 k)],[]⟩) (Exists.intro (fun x=>l.length - x.1) (Exists.intro (0,0,[]) (And.intro ⟨Nat.zero_le _,rfl,Dg.nil _,Nat.pow_pos (by decide),by simp [vl]⟩ (And.intro ?_ ?_)))))))))
  · (repeat' (first | exact trivial | exact Or.inl rfl | exact Or.inr (Or.inl ⟨rfl,_,rfl⟩) | exact Or.inr (Or.inr (Or.inr ⟨_,_,_,rfl,rfl⟩)) | refine And.intro ?_ ?_))
  · rintro ⟨k,c,o⟩ ⟨h1,h2,h3,h4,h5⟩
    dsimp only at h1 h2 h3 h4 h5
    refine And.intro (fun hc=>?_) (fun hc=>?_)
    · have hk : k < l.length := by have : (k : Int) < (l.length : Int) := of_decide_eq_true hc
                                   omega
      have g:=hl.getD (by decide) k
      obtain ⟨x,hx,hxn,hxl⟩:∃ x:Nat,l.getD k 0 = x∧(l.getD k 0).toNat = x∧x < 4294967296:=⟨(l.getD k 0).toNat,by omega,rfl,by omega⟩
      have nx:=left_next hn hxn hxl h2 h3 h4 h5
      refine And.intro ⟨by omega,by omega⟩ ?_
      refine And.intro (by rw [IntKind.wrap_u64]; omega) ?_
      refine And.intro (by show (o.length + 1) * 4≤_; omega) ?_
      (refine And.intro (rng64 (by omega) (by omega)) ?_)
      refine And.intro (by rw [IntKind.wrap_u64]; omega) ?_
      (refine And.intro (rng64 (by omega) (by omega)) ?_)
      have e1:=left_or (x:=x) hn h4
      have e2:=left_low hn hxl
      rw [← hx] at e1 e2
      refine Exists.intro [(27,12)] (Exists.intro (k + 1,x / 2 ^ (32 - n),o++[((2 ^ n * (x % 2 ^ (32 - n)) + c:Nat):Int)]) (And.intro ⟨hk,nx.1,nx.2.1,nx.2.2.1,nx.2.2.2⟩ (And.intro ?_ ?_)))
      · (repeat' (first | exact trivial | exact Or.inl rfl | exact Or.inl ((by first | exact congrArg (fun x:Int=>AV.vec 12 .u32 (o++[x])) e1 | exact congrArg (AV.i .u32) e2)) | refine And.intro ?_ ?_))
      · show l.length - (k + 1) < l.length - k
        omega
    · have hk : k = l.length := by have : ¬ (k : Int) < (l.length : Int) := of_decide_eq_false hc
                                   omega
      subst hk
      rw [List.take_length,hv] at h5
      refine And.intro (fun hd=>?_) (fun hd=>?_)
      · have hd : 0 < c := by have : (0 : Int) < (c : Int) := of_decide_eq_true hd
                              omega
        refine And.intro (by show (o.length + 1) * 4≤_; omega) ?_
        have hcw:c < 4294967296:=Nat.lt_of_lt_of_le h4 (Nat.pow_le_pow_right (i:=n) (j:=32) (by decide) (by omega))
        have hcan:=canon b32 (l:=o++[(c:Int)]) (h3.snoc ⟨by omega,by omega⟩) (by simp; omega)
        rw [vl_snoc,h2,Int.toNat_natCast,h5] at hcan
        exact congrArg (AV.rd .u32) hcan.symm
      · have hd : c = 0 := by have : ¬ (0 : Int) < (c : Int) := of_decide_eq_false hd
                              omega
        subst hd
        rw [Nat.mul_zero,Nat.add_zero] at h5
        have hcan:=canonLen b32 h3 (by
          rcases Nat.eq_zero_or_pos m with h | h
          · exact .inl (List.eq_nil_of_length_eq_zero (by rw [h2]; exact hm0 h))
          · refine .inr ?_
            rw [h5,h2]
            have h6:=hge h
            have h7:1 * m≤2 ^ n * m:=Nat.mul_le_mul_right _ (Nat.pow_pos (by decide))
            omega)
        rw [h5] at hcan
        exact congrArg (AV.rd .u32) hcan.symm
theorem s_left (m n:Nat) (hn:n < 32) (hll:(dg 4294967296 m).length≤1000000):PSpec Tryd.prog 60 [.rd .u32 (dg 4294967296 m),.i .i64 n] (.rd .u32 (dg 4294967296 (2 ^ n * m))) :=
  pspec_of_vc Γ_good Tryd.func60 rfl Tryd.call60 Tryd.results60 Tryd.ntmps60 (Nat.le_of_ble_eq_true rfl) (w_left m n hn hll)
end
end Go.Proofs.YtgacojkkbjhjoaaDoor
end
section
namespace Go.Proofs.YtgacojkkbjhjoaaDoor
set_option linter.unusedSectionVars false
set_option linter.unusedSimpArgs false
set_option linter.unusedVariables false
open Go Go.SX Go.Bg
set_option maxRecDepth 100000
set_option maxHeartbeats 0
theorem vl_div {B:Nat} (hB:2≤B) {l:List Int} (h:Dg B l) {k:Nat} (hk:k≤l.length):vl B l / B ^ k = vl B (l.drop k):=by
  rw [vl_split B l k hk,Nat.add_mul_div_left _ _ (pow_pos hB k),Nat.div_eq_of_lt,Nat.zero_add]
  have:=vl_lt (h.take k)
  rwa [List.length_take,Nat.min_eq_left hk] at this
theorem right_digit {l : List Int} {n k x y : Nat} (hn : n < 32) (hl : Dg 4294967296 l) (hk : k < l.length) (hx : (l.getD k 0).toNat = x) (hy : (l.getD (k + 1) 0).toNat = y) :
    vl 4294967296 l / 2 ^ n / 4294967296 ^ k % 4294967296 = 2 ^ (32 - n) * (y % 2 ^ n) + x / 2 ^ n:=by
  have hxl:x < 4294967296:=by have:=hl.getD (by decide) k; omega
  have hp:=pow32 hn
  rw [Nat.div_div_eq_div_mul,Nat.mul_comm (2 ^ n),← Nat.div_div_eq_div_mul,vl_div b32 hl (by omega),vl_drop,vl_drop,hx,hy]
  generalize vl 4294967296 (l.drop (k + 1 + 1)) = z
  have e:x + 4294967296 * (y + 4294967296 * z) = x + 2 ^ n * (2 ^ (32 - n) * (y + 4294967296 * z)):=by rw [← Nat.mul_assoc,← hp]
  rw [e,Nat.add_mul_div_left _ _ (Nat.pow_pos (by decide))]
  have h1:x / 2 ^ n < 2 ^ (32 - n):=by
    rw [Nat.div_lt_iff_lt_mul (Nat.pow_pos (by decide)),Nat.mul_comm,← hp]
    exact hxl
  have h2:y % 2 ^ n + 1≤2 ^ n:=Nat.mod_lt _ (Nat.pow_pos (by decide))
  have h3:2 ^ (32 - n) * (y % 2 ^ n) + 2 ^ (32 - n)≤4294967296:=by
    have:=Nat.mul_le_mul_left (2 ^ (32 - n)) h2
    rw [Nat.mul_add,Nat.mul_one,Nat.mul_comm _ (2 ^ n),← hp] at this
    exact this
  have h4:2 ^ (32 - n) * (y + 4294967296 * z) % 4294967296 = 2 ^ (32 - n) * (y % 2 ^ n):=by
    conv=>lhs; rw [hp,Nat.mul_comm (2 ^ n),Nat.mul_mod_mul_left]
    congr 1
    rw [Nat.mul_comm (2 ^ (32 - n)),Nat.mul_assoc,Nat.add_mul_mod_self_left]
  rw [Nat.add_mod,h4,Nat.mod_eq_of_lt (a:=x / 2 ^ n) (by omega),Nat.mod_eq_of_lt (by omega),Nat.add_comm]
theorem right_shr {n x:Nat} (hn:n < 32):(x:Int).fdiv (2 ^ (min (IntKind.u64.wrap (n:Int)).toNat 32)) = ((x / 2 ^ n:Nat):Int):=by
  have h0:IntKind.u64.wrap (n:Int) = n:=by rw [IntKind.wrap_u64]; omega
  have h1:min (IntKind.u64.wrap (n:Int)).toNat 32 = n:=by rw [h0,Int.toNat_natCast]; omega
  rw [h1,Int.fdiv_eq_ediv_of_nonneg _ (by exact_mod_cast Nat.zero_le (2 ^ n))]
  simp
theorem right_or {n x y : Nat} (hn : n < 32) (hx : x < 4294967296) (hy : y < 4294967296) :
    bits .or .u32 ((x / 2 ^ n:Nat):Int) (IntKind.u32.wrap (IntKind.u64.wrap (IntKind.u64.wrap (y:Int) * 2 ^ (min (IntKind.u64.wrap (32 - (n:Int))).toNat 64)))) = ((2 ^ (32 - n) * (y % 2 ^ n) + x / 2 ^ n:Nat):Int):=by
  have hp:=pow32 hn
  have h0:IntKind.u64.wrap (32 - (n:Int)) = ((32 - n:Nat):Int):=by rw [IntKind.wrap_u64]; omega
  have h1:min (IntKind.u64.wrap (32 - (n:Int))).toNat 64 = 32 - n:=by rw [h0,Int.toNat_natCast]; omega
  have h2:IntKind.u64.wrap (y:Int) = y:=by rw [IntKind.wrap_u64]; omega
  have h3:y * 2 ^ (32 - n) < 18446744073709551616:=by
    have:2 ^ (32 - n)≤2 ^ 32:=Nat.pow_le_pow_right (by decide) (by omega)
    exact Nat.lt_of_le_of_lt (Nat.mul_le_mul_left y this) (by omega)
  have h4:IntKind.u32.wrap (IntKind.u64.wrap ((y:Int) * 2 ^ (32 - n))) = ((2 ^ (32 - n) * (y % 2 ^ n):Nat):Int):=by
    rw [show (y:Int) * 2 ^ (32 - n) = ((y * 2 ^ (32 - n):Nat):Int) by simp,IntKind.wrap_u64,IntKind.wrap_u32',← Nat.mul_mod_mul_left,Nat.mul_comm (2 ^ (32 - n)) (2 ^ n),← hp,Nat.mul_comm y]
    rw [Nat.mul_comm y] at h3
    generalize 2 ^ (32 - n) * y = q at h3
    omega
  have h5:x / 2 ^ n < 2 ^ (32 - n):=by
    rw [Nat.div_lt_iff_lt_mul (Nat.pow_pos (by decide)),Nat.mul_comm,← hp]
    exact hx
  have h6:x / 2 ^ n < 4294967296:=Nat.lt_of_le_of_lt (Nat.div_le_self _ _) hx
  have h7:2 ^ (32 - n) * (y % 2 ^ n) < 4294967296:=by
    have:=Nat.mod_lt (2 ^ (32 - n) * y) (show 0 < 4294967296 by decide)
    conv at this=>lhs; rw [hp,Nat.mul_comm (2 ^ n),Nat.mul_mod_mul_left]
    exact this
  rw [h1,h2,h4,u32_or_nat _ _ h6 h7,Nat.or_comm,← Nat.two_pow_add_eq_or_of_lt h5]
theorem right_next {o:List Int} {k V d:Nat} (hk:k < o.length) (h:vl 4294967296 (o.take k) = V % 4294967296 ^ k) (hd:V / 4294967296 ^ k % 4294967296 = d):vl 4294967296 ((o.set k (d:Int)).take (k + 1)) = V % 4294967296 ^ (k + 1):=by
  rw [vl_take_set hk,h,Int.toNat_natCast,Nat.mod_pow_succ,hd]
section
variable [G:Globs]
theorem w_right (l:List Int) (n:Nat) (hl:Dg 4294967296 l) (hn:n < 32) (hll:l.length≤1000000):vc Tryd.prog Γ 50 [0,1,4,5,6,11,12,13,29] (Tryd.f61.body.getD .skip) (postK Γ [.tmp 4] (fun v=>v = .rd .u32 (dg 4294967296 (vl 4294967296 l / 2 ^ n)))) ⟨argSlots 0 [.rd .u32 l,.i .i64 n],[]⟩:=by
  intro _
  refine And.intro ⟨by omega,Int.le_refl _,by omega,by show l.length * 4≤_; omega⟩ ?_
  intro _
  refine Exists.intro [] (Exists.intro [] (Exists.intro [] (Exists.intro (Nat × List Int) (Exists.intro (fun x=>x.1≤l.length∧x.2.length = l.length∧Dg 4294967296 x.2∧vl 4294967296 (x.2.take x.1) = vl 4294967296 l / 2 ^ n % 4294967296 ^ x.1) (Exists.intro (fun ⟨k,o⟩=>⟨[(0,.rd .u32 l),(1,.i .i64 n),(5,.vec 9 .u32 o),(11,.i .i64 l.length),(12,.i .i64 k)],[]⟩) (Exists.intro (fun x=>l.length - x.1) (Exists.intro (0,List.replicate l.length 0) (And.intro ⟨Nat.zero_le _,by simp,Dg.replicate (by decide) _,by simp [vl,Nat.mod_one]⟩ (And.intro ?_ ?_)))))))))
  · (repeat' (first | exact trivial | exact Or.inl rfl | exact Or.inr (Or.inl ⟨rfl,_,rfl⟩) | exact Or.inr (Or.inr (Or.inr ⟨_,_,_,rfl,rfl⟩)) | refine And.intro ?_ ?_))
  · rintro ⟨k,o⟩ ⟨h1,h2,h3,h4⟩
    dsimp only at h1 h2 h3 h4
    refine And.intro (fun hc=>?_) (fun hc=>?_)
    · have hk : k < l.length := by have : (k : Int) < (l.length : Int) := of_decide_eq_true hc
                                   omega
      have g:=hl.getD (by decide) k
      have g':=hl.getD (by decide) (k + 1)
      obtain ⟨x,hx,hxn,hxl⟩:∃ x:Nat,l.getD k 0 = x∧(l.getD k 0).toNat = x∧x < 4294967296:=⟨(l.getD k 0).toNat,by omega,rfl,by omega⟩
      obtain ⟨y,hy,hyn,hyl⟩:∃ y:Nat,l.getD (k + 1) 0 = y∧(l.getD (k + 1) 0).toNat = y∧y < 4294967296:=⟨(l.getD (k + 1) 0).toNat,by omega,rfl,by omega⟩
      have hdig:=right_digit hn hl hk hxn hyn
      have e1':Int.fdiv (l.getD (Int.toNat (k:Int)) (dflt .u32)) (2 ^ (min (IntKind.u64.wrap (n:Int)).toNat IntKind.u32.bits)) = ((x / 2 ^ n:Nat):Int):=by
        rw [show l.getD (Int.toNat (k:Int)) (dflt .u32) = (x:Int) from hx]
        exact right_shr hn
      refine And.intro ⟨by omega,by omega⟩ ?_
      refine And.intro (by rw [IntKind.wrap_u64]; omega) ?_
      refine And.intro ⟨by omega,by omega⟩ ?_
      (refine And.intro (rng64 (by omega) (by omega)) ?_)
      intro _
      refine And.intro (fun hd=>?_) (fun hd=>?_)
      · have hd : k + 1 < l.length := by have : (k : Int) + 1 < (l.length : Int) := of_decide_eq_true hd
                                         omega
        refine Exists.intro [.blk [0,1,2,3,4,5,6,7,8,9,10,11,12,13,14,15,16],.one 17] (And.intro (by kernel_rfl) ?_)
        (conv=>whnf)
        rw [e1']
        refine And.intro ⟨by omega,by rw [List.length_set]; omega⟩ ?_
        (refine And.intro (rng64 (by omega) (by omega)) ?_)
        refine And.intro ⟨by omega,by omega⟩ ?_
        (refine And.intro (rng64 (by omega) (by omega)) ?_)
        refine And.intro (by rw [IntKind.wrap_u64]; omega) ?_
        refine And.intro ⟨by omega,by rw [List.length_set]; omega⟩ ?_
        (refine And.intro (rng64 (by omega) (by omega)) ?_)
        have e2:=right_or (x:=x) (y:=y) hn hxl hyl
        rw [← hy] at e2
        have e3:(o.set (Int.toNat (k:Int)) ((x / 2 ^ n:Nat):Int)).getD (Int.toNat (k:Int)) (dflt .u32) = ((x / 2 ^ n:Nat):Int):=by
          rw [Int.toNat_natCast,List.getD_eq_getElem?_getD,List.getElem?_set_self (by omega)]; rfl
        have nx:=right_next (d:=2 ^ (32 - n) * (y % 2 ^ n) + x / 2 ^ n) (by omega) h4 hdig
        have hdl:2 ^ (32 - n) * (y % 2 ^ n) + x / 2 ^ n < 4294967296:=by rw [← hdig]; exact Nat.mod_lt _ (by decide)
        refine Exists.intro [] (Exists.intro (k + 1,o.set k ((2 ^ (32 - n) * (y % 2 ^ n) + x / 2 ^ n:Nat):Int)) (And.intro ⟨hk,by simp [h2],h3.set k ⟨by omega,by omega⟩,nx⟩ (And.intro ?_ ?_)))
        · (repeat' (first | exact trivial | exact Or.inl rfl | exact Or.inl ((congrArg (AV.vec 9 .u32) (by rw [e3,Int.toNat_natCast,List.set_set]; exact congrArg (o.set k) e2))) | refine And.intro ?_ ?_))
        · show l.length - (k + 1) < l.length - k
          omega
      · have hd : k + 1 = l.length := by have : ¬ (k : Int) + 1 < (l.length : Int) := of_decide_eq_false hd
                                         omega
        (refine And.intro (rng64 (by omega) (by omega)) ?_)
        have hy0:y = 0:=by rw [← hyn,List.getD_eq_getElem?_getD,List.getElem?_eq_none (by omega)]; rfl
        subst hy0
        have hdig:vl 4294967296 l / 2 ^ n / 4294967296 ^ k % 4294967296 = x / 2 ^ n:=by rw [hdig]; simp
        have nx:=right_next (d:=x / 2 ^ n) (by omega) h4 hdig
        have hdl:x / 2 ^ n < 4294967296:=by rw [← hdig]; exact Nat.mod_lt _ (by decide)
        refine Exists.intro [] (Exists.intro (k + 1,o.set k ((x / 2 ^ n:Nat):Int)) (And.intro ⟨hk,by simp [h2],h3.set k ⟨by omega,by omega⟩,nx⟩ (And.intro ?_ ?_)))
        · (repeat' (first | exact trivial | exact Or.inl rfl | exact Or.inl ((congrArg (fun v=>AV.vec 9 .u32 (o.set k v)) e1')) | refine And.intro ?_ ?_))
        · show l.length - (k + 1) < l.length - k
          omega
    · have hk : k = l.length := by have : ¬ (k : Int) < (l.length : Int) := of_decide_eq_false hc
                                   omega
      subst hk
      have hlt:vl 4294967296 l / 2 ^ n < 4294967296 ^ l.length:=Nat.lt_of_le_of_lt (Nat.div_le_self _ _) (vl_lt hl)
      rw [List.take_of_length_le (by omega),Nat.mod_eq_of_lt hlt] at h4
      refine Or.inl (Exists.intro _ (And.intro (s_trimmed o h3) ?_))
      exact congrArg (fun n=>AV.rd .u32 (dg 4294967296 n)) h4
theorem s_right (l:List Int) (n:Nat) (hl:Dg 4294967296 l) (hn:n < 32) (hll:l.length≤1000000):PSpec Tryd.prog 61 [.rd .u32 l,.i .i64 n] (.rd .u32 (dg 4294967296 (vl 4294967296 l / 2 ^ n))) :=
  pspec_of_vc Γ_good Tryd.func61 rfl Tryd.call61 Tryd.results61 Tryd.ntmps61 (Nat.le_of_ble_eq_true rfl) (w_right l n hl hn hll)
end
end Go.Proofs.YtgacojkkbjhjoaaDoor
end
section
namespace Go.Proofs.YtgacojkkbjhjoaaDoor
set_option linter.unusedSectionVars false
set_option linter.unusedSimpArgs false
set_option linter.unusedVariables false
open Go Go.SX Go.Bg
set_option maxRecDepth 100000
set_option maxHeartbeats 0
theorem wrap32 {n:Nat} (h:n < 4294967296):IntKind.u32.wrap (n:Int) = (n:Int):=by rw [IntKind.wrap_u32']; omega
theorem div32_or {hi lo:Nat} (h1:hi < 4294967296) (h2:lo < 4294967296):bits .or .u64 (IntKind.u64.wrap (IntKind.u64.wrap (hi:Int) * 2 ^ (min (Int.toNat 32) IntKind.u64.bits))) (IntKind.u64.wrap (lo:Int)) = ((hi * 4294967296 + lo:Nat):Int):=by
  have e1:IntKind.u64.wrap (IntKind.u64.wrap (hi:Int) * 2 ^ (min (Int.toNat 32) IntKind.u64.bits)) = ((2 ^ 32 * hi:Nat):Int):=by
    rw [show min (Int.toNat 32) IntKind.u64.bits = 32 from rfl,IntKind.wrap_u64,IntKind.wrap_u64]
    omega
  have e2:IntKind.u64.wrap (lo:Int) = lo:=by rw [IntKind.wrap_u64]; omega
  rw [e1,e2,bits_or_u64_nat _ _ (by omega) (by omega),← Nat.two_pow_add_eq_or_of_lt (by omega)]
  omega
section
variable [G:Globs]
theorem w_div32 (hi lo y:Nat) (h1:hi < y) (h2:lo < 4294967296) (h3:y < 4294967296):vc Tryd.prog Γ 33 [0,1,2,6,7,8,15] (Tryd.f143.body.getD .skip) (postK Γ [.tmp 6,.tmp 7] (fun v=>v = .tup [.i .u32 (((hi * 4294967296 + lo) / y:Nat):Int),.i .u32 (((hi * 4294967296 + lo) % y:Nat):Int)])) ⟨argSlots 0 [.i .u32 hi,.i .u32 lo,.i .u32 y],[]⟩:=by
  have e:=div32_or (hi:=hi) (lo:=lo) (by omega) h2
  have hq:(hi * 4294967296 + lo) / y < 4294967296:=by
    rw [Nat.div_lt_iff_lt_mul (by omega)]
    have:=Nat.mul_le_mul_right 4294967296 (show hi + 1≤y from h1)
    rw [Nat.mul_comm 4294967296 y]
    omega
  have hr:(hi * 4294967296 + lo) % y < y:=Nat.mod_lt _ (by omega)
  generalize hV:hi * 4294967296 + lo = V at e hq hr
  have hVl:V < 18446744073709551616:=by omega
  have ey:IntKind.u64.wrap (y:Int) = y:=by rw [IntKind.wrap_u64]; omega
  refine And.intro (fun hg=>?_) (fun hg=>?_)
  · refine And.intro (fun h9=>?_) (fun _=>?_)
    · have:(y:Int)≤hi:=by simpa using h9
      omega
    · refine And.intro (by decide) ?_
      refine Exists.intro [.blk [0,1,2,3,4,5,6,7,8,9,10,11]] (And.intro (by kernel_rfl) ?_)
      (conv=>whnf)
      rw [e,ey]
      refine And.intro (by omega) ?_
      refine And.intro ⟨by rw [tdivN]; exact Int.natCast_nonneg _,by rw [tdivN]; exact Int.ofNat_le.2 (show V / y≤18446744073709551615 by have:=Nat.div_le_self V y; omega)⟩ ?_
      refine And.intro (by rw [ey]; omega) ?_
      (conv=>whnf)
      rw [ey,tdivN,tmodN,wrap32 hq,wrap32 (show V % y < 4294967296 by omega)]
      rfl
  · have:(y:Int) = 0:=by simpa using hg
    omega
theorem s_div32 (hi lo y:Nat) (h1:hi < y) (h2:lo < 4294967296) (h3:y < 4294967296):PSpec Tryd.prog 143 [.i .u32 hi,.i .u32 lo,.i .u32 y] (.tup [.i .u32 (((hi * 4294967296 + lo) / y:Nat):Int),.i .u32 (((hi * 4294967296 + lo) % y:Nat):Int)]) :=
  pspec_of_vc Γ_good Tryd.func143 rfl Tryd.call143 Tryd.results143 Tryd.ntmps143 (Nat.le_of_ble_eq_true rfl) (w_div32 hi lo y h1 h2 h3)
theorem w_byWord (a:List Int) (w:Nat) (ha:Dg 4294967296 a) (hla:a.length≤1000000) (h0:0 < w) (hw:w < 4294967296):vc Tryd.prog Γ 35 [0,1,4,5,6,7,8,16] (Tryd.f106.body.getD .skip) (postK Γ [.tmp 4,.tmp 5] (fun v=>v = .tup [.rd .u32 (dg 4294967296 (vl 4294967296 a / w)),.i .u32 ((vl 4294967296 a % w:Nat):Int)])) ⟨argSlots 0 [.rd .u32 a,.i .u32 w],[]⟩:=by
  intro _
  refine And.intro ⟨by omega,Int.le_refl _,by omega,by show a.length * 4≤_; omega⟩ ?_
  intro _
  (refine And.intro (rng64 (by omega) (by omega)) ?_)
  refine Exists.intro [] (Exists.intro [] (Exists.intro [] (Exists.intro (Int × List Int × Nat) (Exists.intro (fun x=>-1≤x.1∧x.1 < a.length∧Dg 4294967296 x.2.1∧x.2.1.length = a.length∧x.2.2 = vl 4294967296 (a.drop (x.1 + 1).toNat) % w∧vl 4294967296 (x.2.1.drop (x.1 + 1).toNat) = vl 4294967296 (a.drop (x.1 + 1).toNat) / w) (Exists.intro (fun ⟨j,q,r⟩=>⟨[(0,.rd .u32 a),(1,.i .u32 w),(6,.vec 11 .u32 q),(7,.i .u32 r),(8,.i .i64 j)],[]⟩) (Exists.intro (fun x=>(x.1 + 1).toNat) (Exists.intro ((a.length:Int) - 1,List.replicate a.length 0,0) (And.intro ⟨by omega,by omega,Dg.replicate (by decide) _,by simp,by simp [vl],by simp [vl]⟩ (And.intro ?_ ?_)))))))))
  · (repeat' (first | exact trivial | exact Or.inl rfl | exact Or.inr (Or.inl ⟨rfl,_,rfl⟩) | exact Or.inr (Or.inr (Or.inr ⟨_,_,_,rfl,rfl⟩)) | refine And.intro ?_ ?_))
  · rintro ⟨j,q,r⟩ ⟨h1,h2,h3,h4,h5,h6⟩
    dsimp only at h1 h2 h3 h4 h5 h6
    refine And.intro (fun hc=>?_) (fun hc=>?_)
    · obtain ⟨m,rfl⟩:=nn_of hc
      clear hc
      rw [show ((m:Int) + 1).toNat = m + 1 by omega] at h5 h6
      have g:=ha.getD (by decide) m
      obtain ⟨x,hx,hxn,hxl⟩:∃ x:Nat,a.getD m 0 = x∧(a.getD m 0).toNat = x∧x < 4294967296:=⟨(a.getD m 0).toNat,by omega,rfl,by omega⟩
      have hrl:r < w:=by rw [h5]; exact Nat.mod_lt _ h0
      have qd:=s_div32 r x w hrl hxl hw
      rw [show r * 4294967296 + x = x + 4294967296 * r by omega] at qd
      rw [← hx] at qd
      generalize hV:x + 4294967296 * r = V at qd
      have hdm:=Nat.div_add_mod V w
      have hml:V % w < w:=Nat.mod_lt _ h0
      have hdl:V / w < 4294967296:=by
        rw [Nat.div_lt_iff_lt_mul h0]
        have:=Nat.mul_le_mul_right 4294967296 (show r + 1≤w from hrl)
        rw [Nat.mul_comm 4294967296 w]
        omega
      refine And.intro ⟨by omega,by omega⟩ ?_
      refine Or.inl (Exists.intro _ (And.intro (qd) ?_))
      refine And.intro ⟨by omega,by omega⟩ ?_
      (refine And.intro (rng64 (by omega) (by omega)) ?_)
      have nx:=over_next ha h3 h4 (by omega) hxn h0 h5 h6 (lo:=V / w) (by rw [hV]; omega) (by rw [hV,Nat.mul_add,Nat.mul_one]; omega)
      rw [hV] at nx
      refine Exists.intro [] (Exists.intro ((m:Int) - 1,q.set m ((V / w:Nat):Int),V % w) (And.intro ⟨by dsimp only; omega,by dsimp only; omega,h3.set m ⟨Int.natCast_nonneg _,Int.ofNat_lt.2 hdl⟩,by simp [h4],by rw [show ((m:Int) - 1 + 1).toNat = m by omega]; dsimp only; rw [← nx.1]; omega,by rw [show ((m:Int) - 1 + 1).toNat = m by omega]; exact nx.2⟩ (And.intro ?_ ?_)))
      · (repeat' (first | exact trivial | exact Or.inl rfl | exact Or.inr (Or.inl ⟨rfl,_,rfl⟩) | exact Or.inr (Or.inr (Or.inr ⟨_,_,_,rfl,rfl⟩)) | refine And.intro ?_ ?_))
      · show ((m:Int) - 1 + 1).toNat < ((m:Int) + 1).toNat
        omega
    · have hj : j = -1 := by have : ¬ 0 ≤ j := of_decide_eq_false hc
                             omega
      subst hj
      rw [show ((-1:Int) + 1).toNat = 0 from rfl,List.drop_zero] at h5 h6
      rw [List.drop_zero] at h6
      have qc:=s_trimmed q h3
      rw [h6] at qc
      refine Or.inl (Exists.intro _ (And.intro (qc) ?_))
      rw [h5]
      rfl
theorem s_byWord (a:List Int) (w:Nat) (ha:Dg 4294967296 a) (hla:a.length≤1000000) (h0:0 < w) (hw:w < 4294967296):PSpec Tryd.prog 106 [.rd .u32 a,.i .u32 w] (.tup [.rd .u32 (dg 4294967296 (vl 4294967296 a / w)),.i .u32 ((vl 4294967296 a % w:Nat):Int)]) :=
  pspec_of_vc Γ_good Tryd.func106 rfl Tryd.call106 Tryd.results106 Tryd.ntmps106 (Nat.le_of_ble_eq_true rfl) (w_byWord a w ha hla h0 hw)
end
end Go.Proofs.YtgacojkkbjhjoaaDoor
end
section
namespace Go.Proofs.YtgacojkkbjhjoaaDoor
set_option linter.unusedSectionVars false
set_option linter.unusedSimpArgs false
set_option linter.unusedVariables false
open Go Go.SX Go.Bg
set_option maxRecDepth 100000
set_option maxHeartbeats 0
theorem get32 {l:List Int} (h:Dg 4294967296 l) (k:Nat):∃ z:Nat,l.getD k 0 = z∧z < 4294967296∧(l.getD k 0).toNat = z:=by
  have g:=h.getD (by decide) k
  exact ⟨(l.getD k 0).toNat,by omega,by omega,rfl⟩
theorem getD_set_ne {l:List Int} {p t:Nat} {v:Int} (h:p≠t):(l.set p v).getD t 0 = l.getD t 0:=by
  rw [List.getD_eq_getElem?_getD,List.getD_eq_getElem?_getD,List.getElem?_set_ne h]
theorem mul_val {x y z c : Nat} (hx : x < 4294967296) (hy : y < 4294967296) (hz : z < 4294967296) (hc : c < 4294967296) :
    IntKind.u64.wrap ((c:Int) + IntKind.u64.wrap (IntKind.u64.wrap (IntKind.u64.wrap (x:Int) * IntKind.u64.wrap (y:Int)) + IntKind.u64.wrap (z:Int))) = ((c + (z + x * y):Nat):Int):=by
  have hxy:x * y≤4294967295 * 4294967295:=Nat.mul_le_mul (by omega) (by omega)
  have e1:IntKind.u64.wrap (x:Int) = x:=by rw [IntKind.wrap_u64]; omega
  have e2:IntKind.u64.wrap (y:Int) = y:=by rw [IntKind.wrap_u64]; omega
  have e3:IntKind.u64.wrap (z:Int) = z:=by rw [IntKind.wrap_u64]; omega
  rw [e1,e2,e3,show (x:Int) * (y:Int) = ((x * y:Nat):Int) from rfl]
  generalize x * y = p at hxy
  rw [IntKind.wrap_u64,IntKind.wrap_u64,IntKind.wrap_u64]
  omega
theorem shr32 (t:Nat):((t:Nat):Int).fdiv (2 ^ (min (Int.toNat 32) IntKind.u64.bits)) = ((t / 4294967296:Nat):Int):=by
  rw [show min (Int.toNat 32) IntKind.u64.bits = 32 from rfl,Int.fdiv_eq_ediv_of_nonneg _ (by decide)]
  rfl
section
variable [G:Globs]
theorem w_mul (a b:List Int) (ha:Dg 4294967296 a) (hb:Dg 4294967296 b) (hla:a.length≤500000) (hlb:b.length≤500000):vc Tryd.prog Γ 67 [0,1,4,5,6,7,8,9,10,17,18,19,20,24,25,26,27] (Tryd.f65.body.getD .skip) (postK Γ [.tmp 4] (fun v=>v = .rd .u32 (dg 4294967296 (vl 4294967296 a * vl 4294967296 b)))) ⟨argSlots 0 [.rd .u32 a,.rd .u32 b],[]⟩:=by
  intro hl0
  intro hl1
  (refine And.intro (rng64 (by omega) (by omega)) ?_)
  refine And.intro ⟨by omega,Int.le_refl _,by omega,by show (a.length + b.length) * 4≤_; omega⟩ ?_
  intro _
  refine Exists.intro [] (Exists.intro [] (Exists.intro [] (Exists.intro (Nat × List Int) (Exists.intro (fun x=>Dg 4294967296 x.2∧x.2.length = a.length + b.length∧vl 4294967296 x.2 = vl 4294967296 (a.take x.1) * vl 4294967296 b∧x.1≤a.length∧∀ t,x.1 + b.length≤t→x.2.getD t 0 = 0) (Exists.intro (fun ⟨i,o⟩=>⟨[(1,.rd .u32 b),(5,.vec 16 .u32 o),(17,.rd .u32 a),(18,.i .i64 a.length),(19,.i .i64 i)],[]⟩) (Exists.intro (fun x=>a.length - x.1) (Exists.intro (0,List.replicate (a.length + b.length) 0) (And.intro ⟨Dg.replicate (by decide) _,by simp,by rw [vl_replicate]; simp [vl],by simp,fun t _=>rep_get _ _⟩ (And.intro ?_ ?_)))))))))
  · (repeat' (first | exact trivial | exact Or.inl rfl | exact Or.inr (Or.inl ⟨rfl,_,rfl⟩) | exact Or.inr (Or.inr (Or.inr ⟨_,_,_,rfl,rfl⟩)) | refine And.intro ?_ ?_))
  · rintro ⟨i,o⟩ ⟨h1,h2,h3,h4,h5⟩
    dsimp only at h1 h2 h3 h4 h5
    refine And.intro (fun hc=>?_) (fun hc=>?_)
    · have hi : i < a.length := by have : (i : Int) < (a.length : Int) := of_decide_eq_true hc
                                   omega
      clear hc
      obtain ⟨x,hx,hxl,hxn⟩:=get32 ha i
      refine And.intro ⟨by omega,by omega⟩ ?_
      intro _
      refine Exists.intro [] (Exists.intro [] (Exists.intro [] (Exists.intro (Nat × Nat × List Int) (Exists.intro (fun q=>Dg 4294967296 q.2.2∧q.2.2.length = a.length + b.length∧q.2.1 < 4294967296∧vl 4294967296 q.2.2 + 4294967296 ^ (i + q.1) * q.2.1 = vl 4294967296 (a.take i) * vl 4294967296 b + 4294967296 ^ i * (x * vl 4294967296 (b.take q.1))∧q.1≤b.length∧∀ t,i + b.length≤t→q.2.2.getD t 0 = 0) (Exists.intro (fun ⟨k,c,o⟩=>⟨[(1,.rd .u32 b),(5,.vec 16 .u32 o),(6,.i .i64 i),(7,.i .u32 x),(8,.i .u64 c),(17,.rd .u32 a),(18,.i .i64 a.length),(19,.i .i64 i),(24,.rd .u32 b),(25,.i .i64 b.length),(26,.i .i64 k)],[]⟩) (Exists.intro (fun q=>b.length - q.1) (Exists.intro (0,0,o) (And.intro ⟨h1,h2,by simp,by simp [h3,vl],by simp,h5⟩ (And.intro ?_ ?_)))))))))
      · (repeat' (first | exact trivial | exact Or.inl rfl | exact Or.inl ((congrArg (AV.i .u32) hx)) | refine And.intro ?_ ?_))
      · rintro ⟨k,c,q⟩ ⟨g1,g2,g3,g4,g5,g6⟩
        dsimp only at g1 g2 g3 g4 g5 g6
        refine And.intro (fun hd=>?_) (fun hd=>?_)
        · have hk : k < b.length := by have : (k : Int) < (b.length : Int) := of_decide_eq_true hd
                                       omega
          clear hd
          obtain ⟨y,hy,hyl,hyn⟩:=get32 hb k
          obtain ⟨z,hz,hzl,hzn⟩:=get32 g1 (i + k)
          have hs:=by_step (a:=a) (b:=b) (x:=x) b32 g1 (by omega) hzn hyn g4
          have hcl:(c + (z + x * y)) / 4294967296 < 4294967296:=by_carry b32 hzl hxl hyl g3
          have em:=mul_val hxl hyl hzl g3
          rw [← hy,← hz] at em
          have em:IntKind.u64.wrap ((c:Int) + IntKind.u64.wrap (IntKind.u64.wrap (IntKind.u64.wrap (x:Int) * IntKind.u64.wrap (b.getD (Int.toNat (k:Int)) (dflt .u32))) + IntKind.u64.wrap (q.getD (Int.toNat ((i:Int) + (k:Int))) (dflt .u32)))) = ((c + (z + x * y):Nat):Int):=em
          refine And.intro ⟨by omega,by omega⟩ ?_
          (refine And.intro (rng64 (by omega) (by omega)) ?_)
          refine And.intro ⟨by omega,by omega⟩ ?_
          (refine And.intro (rng64 (by omega) (by omega)) ?_)
          (conv=>whnf)
          rw [em]
          generalize hT:c + (z + x * y) = T at hs hcl
          have e7:IntKind.u32.wrap (T:Int) = ((T % 4294967296:Nat):Int):=by rw [IntKind.wrap_u32']; rfl
          refine And.intro ⟨by omega,by omega⟩ ?_
          refine And.intro (by decide) ?_
          (refine And.intro (rng64 (by omega) (by omega)) ?_)
          refine Exists.intro [] (Exists.intro (k + 1,T / 4294967296,q.set (i + k) ((T % 4294967296:Nat):Int)) (And.intro ⟨hs.1,by simp [g2],hcl,hs.2,hk,fun t ht=>by rw [getD_set_ne (by omega)]; exact g6 t ht⟩ (And.intro ?_ ?_)))
          · (repeat' (first | exact trivial | exact Or.inl rfl | exact Or.inl ((by first | exact congrArg (fun v=>AV.vec 16 .u32 (q.set (i + k) v)) e7 | exact congrArg (AV.i .u64) (shr32 T))) | refine And.intro ?_ ?_))
          · show b.length - (k + 1) < b.length - k
            omega
        · have hk : k = b.length := by have : ¬ (k : Int) < (b.length : Int) := of_decide_eq_false hd
                                       omega
          subst hk
          clear hd
          have hset:=vl_set (B:=4294967296) (l:=q) (k:=i + b.length) (by omega) (c:Int)
          rw [g6 _ (Nat.le_refl _),Int.toNat_natCast,g4,List.take_length] at hset
          have hv:=by_end (B:=4294967296) (q:=q.set (i + b.length) c) hxn (Nat.le_refl b.length) (by rw [List.take_length]; simpa using hset)
          intro _
          (refine And.intro (rng64 (by omega) (by omega)) ?_)
          refine And.intro ⟨by omega,by omega⟩ ?_
          (refine And.intro (rng64 (by omega) (by omega)) ?_)
          refine Exists.intro [] (Exists.intro (i + 1,q.set (i + b.length) (c:Int)) (And.intro ⟨g1.set _ ⟨by omega,by omega⟩,by simp [g2],hv,hi,fun t ht=>by rw [getD_set_ne (by omega)]; exact g6 t (by omega)⟩ (And.intro ?_ ?_)))
          · (repeat' (first | exact trivial | exact Or.inl rfl | exact Or.inl ((congrArg (fun v=>AV.vec 16 .u32 (q.set (i + b.length) v)) (wrap32 g3))) | refine And.intro ?_ ?_))
          · show a.length - (i + 1) < a.length - i
            omega
    · have hi : i = a.length := by have : ¬ (i : Int) < (a.length : Int) := of_decide_eq_false hc
                                   omega
      subst hi
      rw [List.take_length] at h3
      refine Or.inl (Exists.intro _ (And.intro (s_trimmed o h1) ?_))
      exact congrArg (fun n=>AV.rd .u32 (dg 4294967296 n)) h3
theorem s_mul (a b:List Int) (ha:Dg 4294967296 a) (hb:Dg 4294967296 b) (hla:a.length≤500000) (hlb:b.length≤500000):PSpec Tryd.prog 65 [.rd .u32 a,.rd .u32 b] (.rd .u32 (dg 4294967296 (vl 4294967296 a * vl 4294967296 b))) :=
  pspec_of_vc Γ_good Tryd.func65 rfl Tryd.call65 Tryd.results65 Tryd.ntmps65 (Nat.le_of_ble_eq_true rfl) (w_mul a b ha hb hla hlb)
end
end Go.Proofs.YtgacojkkbjhjoaaDoor
end
section
namespace Go.Proofs
set_option linter.unusedSectionVars false
set_option linter.unusedSimpArgs false
set_option linter.unusedVariables false
open Go.Shelf
def Tryd.lays162_ren:Go.Shelf.Ren:=⟨fun | 162=>72 | 232=>110 | 227=>111 | 234=>112 | 236=>113 | 228=>147 | 271=>148 | 151=>149 | 120=>169 | 197=>170 | 152=>171 | 260=>191 | 137=>192 | 119=>193 | 224=>194 | 225=>195 | 217=>207 | 266=>212 | n=>n,fun | 9=>9 | 4=>4 | 3=>3 | 5=>5 | 117=>157 | 116=>156 | 0=>0 | 124=>160 | 21=>21 | 105=>191 | 46=>76 | 119=>239 | 139=>242 | 138=>241 | n=>n,fun | 3=>3 | 4=>4 | n=>n⟩
theorem Tryd.lays162:Go.Proofs.Lays.n162 Tryd.prog Tryd.lays162_ren:={
  mixed:=by kernel_rfl
  f119:=Tryd.func193.trans (congrArg some (by kernel_rfl))
  f120:=Tryd.func169.trans (congrArg some (by kernel_rfl))
  f137:=Tryd.func192.trans (congrArg some (by kernel_rfl))
  f151:=Tryd.func149.trans (congrArg some (by kernel_rfl))
  f152:=Tryd.func171.trans (congrArg some (by kernel_rfl))
  f162:=Tryd.func72.trans (congrArg some (by kernel_rfl))
  f197:=Tryd.func170.trans (congrArg some (by kernel_rfl))
  f217:=Tryd.func207.trans (congrArg some (by kernel_rfl))
  f224:=Tryd.func194.trans (congrArg some (by kernel_rfl))
  f225:=Tryd.func195.trans (congrArg some (by kernel_rfl))
  f227:=Tryd.func111.trans (congrArg some (by kernel_rfl))
  f228:=Tryd.func147.trans (congrArg some (by kernel_rfl))
  f232:=Tryd.func110.trans (congrArg some (by kernel_rfl))
  f234:=Tryd.func112.trans (congrArg some (by kernel_rfl))
  f236:=Tryd.func113.trans (congrArg some (by kernel_rfl))
  f260:=Tryd.func191.trans (congrArg some (by kernel_rfl))
  f266:=Tryd.func212.trans (congrArg some (by kernel_rfl))
  f271:=Tryd.func148.trans (congrArg some (by kernel_rfl))
  t0:=Tryd.underlying0
  a0:=Tryd.isAgg0
  z0:=Tryd.sizeOf0
  v0:=Tryd.zeroValue0
  t3:=Tryd.underlying3
  a3:=Tryd.isAgg3
  z3:=Tryd.sizeOf3
  v3:=Tryd.zeroValue3
  t4:=Tryd.underlying4
  a4:=Tryd.isAgg4
  z4:=Tryd.sizeOf4
  v4:=Tryd.zeroValue4
  t5:=Tryd.underlying5
  a5:=Tryd.isAgg5
  z5:=Tryd.sizeOf5
  v5:=Tryd.zeroValue5
  t9:=Tryd.underlying9
  a9:=Tryd.isAgg9
  z9:=Tryd.sizeOf9
  v9:=Tryd.zeroValue9
  t21:=Tryd.underlying21
  a21:=Tryd.isAgg21
  z21:=Tryd.sizeOf21
  v21:=Tryd.zeroValue21
  t46:=Tryd.underlying76
  a46:=Tryd.isAgg76
  z46:=Tryd.sizeOf76
  v46:=Tryd.zeroValue76
  t105:=Tryd.underlying191
  a105:=Tryd.isAgg191
  z105:=Tryd.sizeOf191
  v105:=Tryd.zeroValue191
  t116:=Tryd.underlying156
  a116:=Tryd.isAgg156
  z116:=Tryd.sizeOf156
  t117:=Tryd.underlying157
  a117:=Tryd.isAgg157
  z117:=Tryd.sizeOf157
  v117:=Tryd.zeroValue157
  t119:=Tryd.underlying239
  a119:=Tryd.isAgg239
  z119:=Tryd.sizeOf239
  t124:=Tryd.underlying160
  a124:=Tryd.isAgg160
  z124:=Tryd.sizeOf160
  v124:=Tryd.zeroValue160
  t138:=Tryd.underlying241
  a138:=Tryd.isAgg241
  z138:=Tryd.sizeOf241
  v138:=Tryd.zeroValue241
  t139:=Tryd.underlying242
  a139:=Tryd.isAgg242
  z139:=Tryd.sizeOf242
  v139:=Tryd.zeroValue242
  g3:=by kernel_rfl
  g4:=by kernel_rfl }
open Go.RowKit in
theorem Tryd.strings_TrimRight_one (s : ByteArray) (c : UInt8) (hc : c.toNat < 128) (w : World) (hs : s.size ≤ 9223372036854775807) :
    Calls Tryd.prog 72 #[.string s,.string ⟨#[c]⟩] w fun e w'=>e = .returned (.string ⟨(Lib.trimRightB s.data.toList c).toArray⟩)∧w' = w:=Any.strings_TrimRight_one Tryd.lays162 s c hc w hs
def Tryd.lays128_ren:Go.Shelf.Ren:=⟨fun | 128=>104 | n=>n,fun | 51=>60 | 3=>3 | 4=>4 | 46=>76 | 5=>5 | 9=>9 | n=>n,fun | n=>n⟩
theorem Tryd.lays128:Go.Proofs.Lays.n128 Tryd.prog Tryd.lays128_ren:={
  mixed:=by kernel_rfl
  f128:=Tryd.func104.trans (congrArg some (by kernel_rfl))
  t3:=Tryd.underlying3
  a3:=Tryd.isAgg3
  z3:=Tryd.sizeOf3
  v3:=Tryd.zeroValue3
  t4:=Tryd.underlying4
  a4:=Tryd.isAgg4
  z4:=Tryd.sizeOf4
  v4:=Tryd.zeroValue4
  t5:=Tryd.underlying5
  a5:=Tryd.isAgg5
  z5:=Tryd.sizeOf5
  v5:=Tryd.zeroValue5
  t9:=Tryd.underlying9
  a9:=Tryd.isAgg9
  z9:=Tryd.sizeOf9
  v9:=Tryd.zeroValue9
  t46:=Tryd.underlying76
  a46:=Tryd.isAgg76
  z46:=Tryd.sizeOf76
  v46:=Tryd.zeroValue76
  t51:=Tryd.underlying60
  a51:=Tryd.isAgg60
  z51:=Tryd.sizeOf60
  v51:=Tryd.zeroValue60 }
theorem Tryd.bits_Len32 (x : Int) (w : World) (h0 : 0 ≤ x) (h1 : x ≤ 4294967295) :
    Calls Tryd.prog 104 #[.int .u32 x] w fun e w'=>e = .returned (.int .i64 (Lib.bitLen x.toNat))∧w' = w:=Any.bits_Len32 Tryd.lays128 x w h0 h1
def Tryd.lays133_ren:Go.Shelf.Ren:=⟨fun | 133=>144 | 128=>104 | n=>n,fun | 51=>60 | 3=>3 | 4=>4 | 46=>76 | 5=>5 | 9=>9 | n=>n,fun | n=>n⟩
theorem Tryd.lays133:Go.Proofs.Lays.n133 Tryd.prog Tryd.lays133_ren:={
  mixed:=by kernel_rfl
  f128:=Tryd.func104.trans (congrArg some (by kernel_rfl))
  f133:=Tryd.func144.trans (congrArg some (by kernel_rfl))
  t3:=Tryd.underlying3
  a3:=Tryd.isAgg3
  z3:=Tryd.sizeOf3
  v3:=Tryd.zeroValue3
  t4:=Tryd.underlying4
  a4:=Tryd.isAgg4
  z4:=Tryd.sizeOf4
  v4:=Tryd.zeroValue4
  t5:=Tryd.underlying5
  a5:=Tryd.isAgg5
  z5:=Tryd.sizeOf5
  v5:=Tryd.zeroValue5
  t9:=Tryd.underlying9
  a9:=Tryd.isAgg9
  z9:=Tryd.sizeOf9
  v9:=Tryd.zeroValue9
  t46:=Tryd.underlying76
  a46:=Tryd.isAgg76
  z46:=Tryd.sizeOf76
  v46:=Tryd.zeroValue76
  t51:=Tryd.underlying60
  a51:=Tryd.isAgg60
  z51:=Tryd.sizeOf60
  v51:=Tryd.zeroValue60 }
theorem Tryd.bits_LeadingZeros32 (x : Int) (w : World) (h0 : 0 ≤ x) (h1 : x ≤ 4294967295) :
    Calls Tryd.prog 144 #[.int .u32 x] w fun e w'=>e = .returned (.int .i64 (32 - (Lib.bitLen x.toNat:Int)))∧w' = w:=Any.bits_LeadingZeros32 Tryd.lays133 x w h0 h1
def Tryd.laysM171_ren:Go.Shelf.Ren:=⟨fun | 171=>78 | 243=>120 | 246=>155 | 283=>174 | 284=>175 | 285=>176 | 286=>177 | 129=>190 | 317=>196 | 318=>197 | 319=>198 | 320=>199 | 337=>208 | 338=>209 | n=>n,fun | 3=>3 | 9=>9 | 2=>2 | 4=>4 | 171=>214 | 0=>0 | 53=>22 | 37=>121 | 5=>5 | 173=>217 | 212=>231 | 51=>60 | 20=>20 | 213=>232 | 46=>76 | 232=>246 | 233=>247 | n=>n,fun | 17=>2 | 18=>5 | 19=>6 | n=>n⟩
theorem Tryd.laysM171:Go.Proofs.LaysM.n171 Tryd.prog Tryd.laysM171_ren:={
  mixed:=by kernel_rfl
  f129:=Tryd.func190.trans (congrArg some (by kernel_rfl))
  f171:=Tryd.func78.trans (congrArg some (by kernel_rfl))
  f243:=Tryd.func120.trans (congrArg some (by kernel_rfl))
  f246:=Tryd.func155.trans (congrArg some (by kernel_rfl))
  f283:=Tryd.func174.trans (congrArg some (by kernel_rfl))
  f284:=Tryd.func175.trans (congrArg some (by kernel_rfl))
  f285:=Tryd.func176.trans (congrArg some (by kernel_rfl))
  f286:=Tryd.func177.trans (congrArg some (by kernel_rfl))
  f317:=Tryd.func196.trans (congrArg some (by kernel_rfl))
  f318:=Tryd.func197.trans (congrArg some (by kernel_rfl))
  f319:=Tryd.func198.trans (congrArg some (by kernel_rfl))
  f320:=Tryd.func199.trans (congrArg some (by kernel_rfl))
  f337:=Tryd.func208.trans (congrArg some (by kernel_rfl))
  f338:=Tryd.func209.trans (congrArg some (by kernel_rfl))
  t0:=Tryd.underlying0
  a0:=Tryd.isAgg0
  z0:=Tryd.sizeOf0
  v0:=Tryd.zeroValue0
  t2:=Tryd.underlying2
  a2:=Tryd.isAgg2
  z2:=Tryd.sizeOf2
  v2:=Tryd.zeroValue2
  t3:=Tryd.underlying3
  a3:=Tryd.isAgg3
  z3:=Tryd.sizeOf3
  v3:=Tryd.zeroValue3
  t4:=Tryd.underlying4
  a4:=Tryd.isAgg4
  z4:=Tryd.sizeOf4
  v4:=Tryd.zeroValue4
  t5:=Tryd.underlying5
  a5:=Tryd.isAgg5
  z5:=Tryd.sizeOf5
  v5:=Tryd.zeroValue5
  t9:=Tryd.underlying9
  a9:=Tryd.isAgg9
  z9:=Tryd.sizeOf9
  v9:=Tryd.zeroValue9
  t20:=Tryd.underlying20
  a20:=Tryd.isAgg20
  z20:=Tryd.sizeOf20
  v20:=Tryd.zeroValue20
  t37:=Tryd.underlying121
  a37:=Tryd.isAgg121
  z37:=Tryd.sizeOf121
  v37:=Tryd.zeroValue121
  t46:=Tryd.underlying76
  a46:=Tryd.isAgg76
  z46:=Tryd.sizeOf76
  v46:=Tryd.zeroValue76
  t51:=Tryd.underlying60
  a51:=Tryd.isAgg60
  z51:=Tryd.sizeOf60
  v51:=Tryd.zeroValue60
  t53:=Tryd.underlying22
  a53:=Tryd.isAgg22
  z53:=Tryd.sizeOf22
  v53:=Tryd.zeroValue22
  t171:=Tryd.underlying214
  a171:=Tryd.isAgg214
  z171:=Tryd.sizeOf214
  v171:=Tryd.zeroValue214
  t173:=Tryd.underlying217
  a173:=Tryd.isAgg217
  z173:=Tryd.sizeOf217
  v173:=Tryd.zeroValue217
  t212:=Tryd.underlying231
  a212:=Tryd.isAgg231
  z212:=Tryd.sizeOf231
  v212:=Tryd.zeroValue231
  t213:=Tryd.underlying232
  a213:=Tryd.isAgg232
  z213:=Tryd.sizeOf232
  t232:=Tryd.underlying246
  a232:=Tryd.isAgg246
  z232:=Tryd.sizeOf246
  v232:=Tryd.zeroValue246
  t233:=Tryd.underlying247
  a233:=Tryd.isAgg247
  z233:=Tryd.sizeOf247
  v233:=Tryd.zeroValue247
  g17:=by kernel_rfl
  g18:=by kernel_rfl
  g19:=by kernel_rfl
  i0:=by kernel_rfl
  i2:=by kernel_rfl
  i3:=by kernel_rfl
  i4:=by kernel_rfl
  i5:=by kernel_rfl
  i9:=by kernel_rfl
  i20:=by kernel_rfl
  i37:=by kernel_rfl
  i46:=by kernel_rfl
  i51:=by kernel_rfl
  i53:=by kernel_rfl
  i171:=by kernel_rfl
  i173:=by kernel_rfl
  i212:=by kernel_rfl
  i232:=by kernel_rfl
  i233:=by kernel_rfl
  m17:=by kernel_rfl
  m18:=by kernel_rfl
  m19:=by kernel_rfl }
open Go.RowKit Go.Sort Go.Lib in
theorem Tryd.strconv_Itoa (n : Int) (h0 : -9223372036854775808 ≤ n) (h1 : n ≤ 9223372036854775807) (w : World) (htab : Lib.TabIs Tryd.prog w "internal/strconv.uint64pow10" .u64 Lib.pow10Tab) :
    Calls Tryd.prog 78 #[.int .i64 n] w fun e w'=>e = .returned (.string ⟨(Lib.itoa n).toArray⟩)∧∃ k os,w' = grow (w.drewN k) os:=Any.strconv_Itoa Tryd.laysM171 n h0 h1 w htab
def Tryd.lays105_ren:Go.Shelf.Ren:=⟨fun | 105=>77 | 212=>114 | 99=>115 | 165=>116 | 166=>117 | 170=>118 | 169=>119 | 263=>150 | 264=>151 | 206=>152 | 240=>153 | 241=>154 | 276=>172 | 277=>173 | n=>n,fun | 9=>9 | 3=>3 | 4=>4 | 20=>20 | 0=>0 | 46=>76 | 109=>161 | 5=>5 | 72=>166 | 76=>170 | 51=>60 | 146=>151 | 53=>22 | 148=>198 | 70=>164 | 37=>121 | 75=>169 | 127=>200 | 164=>211 | 80=>71 | n=>n,fun | n=>n⟩
theorem Tryd.lays105:Go.Proofs.Lays.n105 Tryd.prog Tryd.lays105_ren:={
  mixed:=by kernel_rfl
  f99:=Tryd.func115.trans (congrArg some (by kernel_rfl))
  f105:=Tryd.func77.trans (congrArg some (by kernel_rfl))
  f165:=Tryd.func116.trans (congrArg some (by kernel_rfl))
  f166:=Tryd.func117.trans (congrArg some (by kernel_rfl))
  f169:=Tryd.func119.trans (congrArg some (by kernel_rfl))
  f170:=Tryd.func118.trans (congrArg some (by kernel_rfl))
  f206:=Tryd.func152.trans (congrArg some (by kernel_rfl))
  f212:=Tryd.func114.trans (congrArg some (by kernel_rfl))
  f240:=Tryd.func153.trans (congrArg some (by kernel_rfl))
  f241:=Tryd.func154.trans (congrArg some (by kernel_rfl))
  f263:=Tryd.func150.trans (congrArg some (by kernel_rfl))
  f264:=Tryd.func151.trans (congrArg some (by kernel_rfl))
  f276:=Tryd.func172.trans (congrArg some (by kernel_rfl))
  f277:=Tryd.func173.trans (congrArg some (by kernel_rfl))
  t0:=Tryd.underlying0
  a0:=Tryd.isAgg0
  z0:=Tryd.sizeOf0
  v0:=Tryd.zeroValue0
  t3:=Tryd.underlying3
  a3:=Tryd.isAgg3
  z3:=Tryd.sizeOf3
  v3:=Tryd.zeroValue3
  t4:=Tryd.underlying4
  a4:=Tryd.isAgg4
  z4:=Tryd.sizeOf4
  v4:=Tryd.zeroValue4
  t5:=Tryd.underlying5
  a5:=Tryd.isAgg5
  z5:=Tryd.sizeOf5
  v5:=Tryd.zeroValue5
  t9:=Tryd.underlying9
  a9:=Tryd.isAgg9
  z9:=Tryd.sizeOf9
  v9:=Tryd.zeroValue9
  t20:=Tryd.underlying20
  a20:=Tryd.isAgg20
  z20:=Tryd.sizeOf20
  v20:=Tryd.zeroValue20
  t37:=Tryd.underlying121
  a37:=Tryd.isAgg121
  z37:=Tryd.sizeOf121
  v37:=Tryd.zeroValue121
  t46:=Tryd.underlying76
  a46:=Tryd.isAgg76
  z46:=Tryd.sizeOf76
  v46:=Tryd.zeroValue76
  t51:=Tryd.underlying60
  a51:=Tryd.isAgg60
  z51:=Tryd.sizeOf60
  v51:=Tryd.zeroValue60
  t53:=Tryd.underlying22
  a53:=Tryd.isAgg22
  z53:=Tryd.sizeOf22
  v53:=Tryd.zeroValue22
  t70:=Tryd.underlying164
  a70:=Tryd.isAgg164
  z70:=Tryd.sizeOf164
  v70:=Tryd.zeroValue164
  t72:=Tryd.underlying166
  a72:=Tryd.isAgg166
  z72:=Tryd.sizeOf166
  v72:=Tryd.zeroValue166
  t75:=Tryd.underlying169
  a75:=Tryd.isAgg169
  z75:=Tryd.sizeOf169
  v75:=Tryd.zeroValue169
  t76:=Tryd.underlying170
  a76:=Tryd.isAgg170
  z76:=Tryd.sizeOf170
  v76:=Tryd.zeroValue170
  t109:=Tryd.underlying161
  a109:=Tryd.isAgg161
  z109:=Tryd.sizeOf161
  v109:=Tryd.zeroValue161
  t127:=Tryd.underlying200
  a127:=Tryd.isAgg200
  z127:=Tryd.sizeOf200
  v127:=Tryd.zeroValue200
  t146:=Tryd.underlying151
  a146:=Tryd.isAgg151
  z146:=Tryd.sizeOf151
  v146:=Tryd.zeroValue151
  t148:=Tryd.underlying198
  a148:=Tryd.isAgg198
  z148:=Tryd.sizeOf198
  v148:=Tryd.zeroValue198
  t164:=Tryd.underlying211
  a164:=Tryd.isAgg211
  z164:=Tryd.sizeOf211
  v164:=Tryd.zeroValue211 }
theorem Tryd.Builder_Extra_105:Builder.Extra Tryd.prog Tryd.lays105_ren:={
  sizeBuilder:=by kernel_rfl
  liesBuilder:=by kernel_rfl
  t5:=Tryd.underlying5
  a5:=Tryd.isAgg5
  z5:=Tryd.sizeOf5
  v5:=Tryd.zeroValue5
  infoByte:=by kernel_rfl
  cellsByte:=by kernel_rfl
  sizeByte:=by kernel_rfl
  neB5:=by decide }
open Go.RowKit Go.Lib in
theorem Tryd.strings_Repeat (s : ByteArray) (c : Nat) (w : World) (hc : c ≤ 9223372036854775807) (hlen : s.size * c ≤ 140737488355328) :
    Calls Tryd.prog 77 #[.string s,.int .i64 c] w fun e w'=>e = .returned (.string ⟨(Lib.repeatL s.data.toList c).toArray⟩)∧Below w.heap.size w w':=Any.strings_Repeat Tryd.lays105 Tryd.Builder_Extra_105 s c w hc hlen
def Tryd.lays260_ren:Go.Shelf.Ren:=⟨fun | 260=>191 | n=>n,fun | 9=>9 | 21=>21 | 3=>3 | 4=>4 | 5=>5 | 119=>239 | 0=>0 | 46=>76 | 139=>242 | 138=>241 | n=>n,fun | 3=>3 | 4=>4 | n=>n⟩
theorem Tryd.lays260:Go.Proofs.Lays.n260 Tryd.prog Tryd.lays260_ren:={
  mixed:=by kernel_rfl
  f260:=Tryd.func191.trans (congrArg some (by kernel_rfl))
  t0:=Tryd.underlying0
  a0:=Tryd.isAgg0
  z0:=Tryd.sizeOf0
  v0:=Tryd.zeroValue0
  t3:=Tryd.underlying3
  a3:=Tryd.isAgg3
  z3:=Tryd.sizeOf3
  v3:=Tryd.zeroValue3
  t4:=Tryd.underlying4
  a4:=Tryd.isAgg4
  z4:=Tryd.sizeOf4
  v4:=Tryd.zeroValue4
  t5:=Tryd.underlying5
  a5:=Tryd.isAgg5
  z5:=Tryd.sizeOf5
  v5:=Tryd.zeroValue5
  t9:=Tryd.underlying9
  a9:=Tryd.isAgg9
  z9:=Tryd.sizeOf9
  v9:=Tryd.zeroValue9
  t21:=Tryd.underlying21
  a21:=Tryd.isAgg21
  z21:=Tryd.sizeOf21
  v21:=Tryd.zeroValue21
  t46:=Tryd.underlying76
  a46:=Tryd.isAgg76
  z46:=Tryd.sizeOf76
  v46:=Tryd.zeroValue76
  t119:=Tryd.underlying239
  a119:=Tryd.isAgg239
  z119:=Tryd.sizeOf239
  t138:=Tryd.underlying241
  a138:=Tryd.isAgg241
  z138:=Tryd.sizeOf241
  v138:=Tryd.zeroValue241
  t139:=Tryd.underlying242
  a139:=Tryd.isAgg242
  z139:=Tryd.sizeOf242
  v139:=Tryd.zeroValue242
  g3:=by kernel_rfl
  g4:=by kernel_rfl }
end Go.Proofs
end
section
namespace Go.Proofs.YtgacojkkbjhjoaaDoor
set_option linter.unusedSectionVars false
set_option linter.unusedSimpArgs false
set_option linter.unusedVariables false
open Go Go.SX Go.Bg
set_option maxRecDepth 100000
set_option maxHeartbeats 2000000
theorem tb31 {a:Nat} (h:a < 4294967296):a.testBit 31 = decide (2147483648≤a):=by
  rw [Nat.testBit_eq_decide_div_mod_eq]
  by_cases c:2147483648≤a
  · rw [decide_eq_true c]; exact decide_eq_true (by rw [show 2 ^ 31 = 2147483648 from rfl]; omega)
  · rw [decide_eq_false c]; exact decide_eq_false (by rw [show 2 ^ 31 = 2147483648 from rfl]; omega)
theorem shr31 {a:Nat} (h:a < 4294967296):a / 2147483648 = (a.testBit 31).toNat:=by
  rw [tb31 h]
  by_cases c:2147483648≤a
  · rw [decide_eq_true c]; show _ = 1; omega
  · rw [decide_eq_false c]; show _ = 0; omega
theorem borrow32 {x y b d : Nat} (hx : x < 4294967296) (hy : y < 4294967296) (hb : b ≤ 1) (hd : d = (x + 8589934592 - y - b) % 4294967296) :
    (((4294967295 ^^^ x) &&& y) ||| ((4294967295 ^^^ (x ^^^ y)) &&& d)) / 2147483648 = if x < y + b then 1 else 0:=by
  have hdl:d < 4294967296:=by omega
  have h1:(4294967295 ^^^ x) &&& y < 4294967296:=Nat.lt_of_le_of_lt Nat.and_le_right hy
  have h2:(4294967295 ^^^ (x ^^^ y)) &&& d < 4294967296:=Nat.lt_of_le_of_lt Nat.and_le_right hdl
  have h3:=Nat.or_lt_two_pow (n:=32) h1 h2
  rw [shr31 h3]
  simp only [Nat.testBit_or,Nat.testBit_and,Nat.testBit_xor,tb31 hx,tb31 hy,tb31 hdl,tb31 (show (4294967295:Nat) < 4294967296 by decide)]
  by_cases c1:2147483648≤x<;>by_cases c2:2147483648≤y<;>by_cases c3:2147483648≤d<;>simp only [c1,c2,c3,decide_true,decide_false]<;>(split<;>first | rfl | (exfalso; omega))
theorem w32 (t:Nat):IntKind.u32.wrap (t:Int) = ((t % 4294967296:Nat):Int):=by rw [IntKind.wrap_u32]; omega
theorem shr31' (t:Nat):((t:Nat):Int).fdiv (2 ^ (min (Int.toNat 31) IntKind.u32.bits)) = ((t / 2147483648:Nat):Int):=by
  rw [show min (Int.toNat 31) IntKind.u32.bits = 31 from rfl,Int.fdiv_eq_ediv_of_nonneg _ (by decide)]
  exact_mod_cast rfl
section
variable [G:Globs]
theorem w_add32 (x y c:Nat) (hx:x < 4294967296) (hy:y < 4294967296) (hc:c≤1):vc Tryd.prog Γ 22 [0,1,2,6,7,8] (Tryd.f108.body.getD .skip) (postK Γ [.tmp 6,.tmp 7] (fun v=>v = .tup [.i .u32 (((x + y + c) % 4294967296:Nat):Int),.i .u32 (((x + y + c) / 4294967296:Nat):Int)])) ⟨argSlots 0 [.i .u32 x,.i .u32 y,.i .u32 c],[]⟩:=by
  have e:IntKind.u64.wrap (IntKind.u64.wrap (IntKind.u64.wrap (x:Int) + IntKind.u64.wrap (y:Int)) + IntKind.u64.wrap (c:Int)) = ((x + y + c:Nat):Int):=by simp only [IntKind.wrap_u64]; omega
  refine And.intro (by decide) ?_
  (conv=>whnf)
  rw [e,shr32,w32,wrap32 (show (x + y + c) / 4294967296 < 4294967296 by omega)]
  rfl
theorem s_add32 (x y c:Nat) (hx:x < 4294967296) (hy:y < 4294967296) (hc:c≤1):PSpec Tryd.prog 108 [.i .u32 x,.i .u32 y,.i .u32 c] (.tup [.i .u32 (((x + y + c) % 4294967296:Nat):Int),.i .u32 (((x + y + c) / 4294967296:Nat):Int)]) :=
  pspec_of_vc Γ_good Tryd.func108 rfl Tryd.call108 Tryd.results108 Tryd.ntmps108 (Nat.le_of_ble_eq_true rfl) (w_add32 x y c hx hy hc)
theorem w_sub32 (x y b:Nat) (hx:x < 4294967296) (hy:y < 4294967296) (hb:b≤1):vc Tryd.prog Γ 25 [0,1,2,6,7] (Tryd.f168.body.getD .skip) (postK Γ [.tmp 6,.tmp 7] (fun v=>v = .tup [.i .u32 (((x + 8589934592 - y - b) % 4294967296:Nat):Int),.i .u32 ((if x < y + b then 1 else 0:Nat):Int)])) ⟨argSlots 0 [.i .u32 x,.i .u32 y,.i .u32 b],[]⟩:=by
  have e:IntKind.u32.wrap (IntKind.u32.wrap ((x:Int) - y) - b) = (((x + 8589934592 - y - b) % 4294967296:Nat):Int):=by simp only [IntKind.wrap_u32]; omega
  have hm:(if IntKind.u32.signed = true then (-1:Int) else IntKind.u32.max) = ((4294967295:Nat):Int):=rfl
  have hd:(x + 8589934592 - y - b) % 4294967296 < 4294967296:=Nat.mod_lt _ (by decide)
  have hb32:=borrow32 hx hy hb rfl
  have hxy:x ^^^ y < 4294967296:=Nat.xor_lt_two_pow (n:=32) hx hy
  have hnx:4294967295 ^^^ x < 4294967296:=Nat.xor_lt_two_pow (n:=32) (by decide) hx
  have hnxy:4294967295 ^^^ (x ^^^ y) < 4294967296:=Nat.xor_lt_two_pow (n:=32) (by decide) hxy
  have h1:(4294967295 ^^^ x) &&& y < 4294967296:=Nat.lt_of_le_of_lt Nat.and_le_right hy
  refine And.intro (by decide) ?_
  (conv=>whnf)
  rw [e,hm]
  generalize (x + 8589934592 - y - b) % 4294967296 = d at hd hb32
  have h2:(4294967295 ^^^ (x ^^^ y)) &&& d < 4294967296:=Nat.lt_of_le_of_lt Nat.and_le_right hd
  rw [u32_xor_nat _ _ (by decide) hx,u32_and_nat _ _ hnx hy,u32_xor_nat _ _ hx hy,u32_xor_nat _ _ (by decide) hxy,u32_and_nat _ _ hnxy hd,u32_or_nat _ _ h1 h2,shr31',hb32]
  rfl
theorem s_sub32 (x y b:Nat) (hx:x < 4294967296) (hy:y < 4294967296) (hb:b≤1):PSpec Tryd.prog 168 [.i .u32 x,.i .u32 y,.i .u32 b] (.tup [.i .u32 (((x + 8589934592 - y - b) % 4294967296:Nat):Int),.i .u32 ((if x < y + b then 1 else 0:Nat):Int)]) :=
  pspec_of_vc Γ_good Tryd.func168 rfl Tryd.call168 Tryd.results168 Tryd.ntmps168 (Nat.le_of_ble_eq_true rfl) (w_sub32 x y b hx hy hb)
theorem s_len32 (x:Nat) (hx:x < 4294967296):PSpec Tryd.prog 104 [.i .u32 x] (.i .i64 ((Lib.bitLen x:Nat):Int)):=by
  refine ⟨Tryd.call104,fun O w vs hO hG hargs=>?_⟩
  obtain ⟨v0,vs0,rfl,h0,h⟩:=hargs.cons_inv
  obtain rfl:=h.nil_inv
  cases h0
  refine (Tryd.bits_Len32 x w (by omega) (by omega)).mono fun e w' ⟨he,hw⟩=>?_
  subst he hw
  exact ⟨_,rfl,Stp.refl _ _,by rw [Int.toNat_natCast]; exact .i _ _⟩
theorem s_lead32 (x:Nat) (hx:x < 4294967296):PSpec Tryd.prog 144 [.i .u32 x] (.i .i64 (32 - (Lib.bitLen x:Int))):=by
  refine ⟨Tryd.call144,fun O w vs hO hG hargs=>?_⟩
  obtain ⟨v0,vs0,rfl,h0,h⟩:=hargs.cons_inv
  obtain rfl:=h.nil_inv
  cases h0
  refine (Tryd.bits_LeadingZeros32 x w (by omega) (by omega)).mono fun e w' ⟨he,hw⟩=>?_
  subst he hw
  exact ⟨_,rfl,Stp.refl _ _,by rw [Int.toNat_natCast]; exact .i _ _⟩
end
end Go.Proofs.YtgacojkkbjhjoaaDoor
end
section
namespace Go.Proofs.YtgacojkkbjhjoaaDoor
set_option linter.unusedSectionVars false
set_option linter.unusedSimpArgs false
set_option linter.unusedVariables false
open Go Go.SX Go.Bg
set_option maxRecDepth 100000
set_option maxHeartbeats 2000000
theorem dig_sub {W P A R S c x t y c':Nat} (h:A + P * c = R + S) (hx:x + W * c' = t + y + c):(A + P * x) + P * W * c' = (R + P * t) + (S + P * y):=by
  have e:P * (x + W * c') = P * (t + y + c):=by rw [hx]
  simp only [Nat.mul_add,← Nat.mul_assoc] at e
  omega
theorem dig_add {W P A R S c x t y c':Nat} (h:R + P * c = A + S) (ht:t + W * c' = x + y + c):(R + P * t) + P * W * c' = (A + P * x) + (S + P * y):=by
  have e:P * (t + W * c') = P * (x + y + c):=by rw [ht]
  simp only [Nat.mul_add,← Nat.mul_assoc] at e
  omega
theorem get32' {l:List Int} (h:Dg 4294967296 l) (k:Nat) (hk:l.length≤k):∃ z:Nat,l.getD k 0 = z∧z = 0:=⟨0,by rw [List.getD_eq_getElem?_getD,List.getElem?_eq_none hk]; rfl,rfl⟩
theorem dg_len32 {l:List Int} (h:Dg 4294967296 l):(dg 4294967296 (vl 4294967296 l)).length≤l.length:=dg_len_le b32 _ _ (vl_lt h)
theorem less_len {m n:Nat} (h:(dg 4294967296 m).length < (dg 4294967296 n).length):m < n:=by
  have hn:0 < n:=by
    rcases Nat.eq_zero_or_pos n with h0 | h0
    · subst h0; simp at h
    · exact h0
  have h1:=dg_ge b32 hn
  have h2:=vl_lt (dg_Dg b32 m)
  rw [vl_dg b32] at h2
  exact Nat.lt_of_lt_of_le (Nat.lt_of_lt_of_le h2 (Nat.pow_le_pow_right (by decide) (by omega))) h1
section
variable [G:Globs]
theorem w_trim (a:List Int) (ha:Dg 4294967296 a) (hla:a.length≤1000000):vc Tryd.prog Γ 6 [0,2] (Tryd.f58.body.getD .skip) (postK Γ [.tmp 2] (fun v=>v = .rd .u32 (dg 4294967296 (vl 4294967296 a)))) ⟨argSlots 0 [.rd .u32 a],[]⟩:=by
  have:=dg_len32 ha
  refine Or.inl (Exists.intro _ (And.intro (s_trimmed a ha) ?_))
  refine And.intro (by show _ * 4≤_; omega) ?_
  rfl
theorem s_trim (a:List Int) (ha:Dg 4294967296 a) (hla:a.length≤1000000):PSpec Tryd.prog 58 [.rd .u32 a] (.rd .u32 (dg 4294967296 (vl 4294967296 a))) :=
  pspec_of_vc Γ_good Tryd.func58 rfl Tryd.call58 Tryd.results58 Tryd.ntmps58 (Nat.le_of_ble_eq_true rfl) (w_trim a ha hla)
theorem w_cmp (a b:List Int) (ha:Dg 4294967296 a) (hb:Dg 4294967296 b) (hla:a.length≤1000000) (hlb:b.length≤1000000):vc Tryd.prog Γ 47 [0,1,4,5,10,16,26,37,46] (Tryd.f69.body.getD .skip) (postK Γ [.tmp 4] (fun v=>v = .i .i64 (cmpN (vl 4294967296 a) (vl 4294967296 b)))) ⟨argSlots 0 [.rd .u32 a,.rd .u32 b],[]⟩:=by
  have ea:=vl_dg b32 (vl 4294967296 a)
  have eb:=vl_dg b32 (vl 4294967296 b)
  have hx:=dg_len32 ha
  have hy:=dg_len32 hb
  have hxy:=less_len (m:=vl 4294967296 a) (n:=vl 4294967296 b)
  have hyx:=less_len (m:=vl 4294967296 b) (n:=vl 4294967296 a)
  have gx:=dg_Dg b32 (vl 4294967296 a)
  have gy:=dg_Dg b32 (vl 4294967296 b)
  refine Or.inl (Exists.intro _ (And.intro (s_trimmed a ha) ?_))
  refine Or.inl (Exists.intro _ (And.intro (s_trimmed b hb) ?_))
  generalize vl 4294967296 a = m at ea hxy hyx hx gx
  generalize vl 4294967296 b = n at eb hxy hyx hy gy
  generalize dg 4294967296 m = x at ea hxy hyx hx gx
  generalize dg 4294967296 n = y at eb hxy hyx hy gy
  intro _
  intro _
  refine And.intro (fun hc=>?_) (fun hc=>?_)
  · have hc:x.length < y.length:=by simpa using hc
    exact congrArg (AV.i .i64) (by unfold cmpN; rw [if_pos (hxy hc)])
  have hc:¬ x.length < y.length:=by simpa using hc
  intro _
  intro _
  refine And.intro (fun hd=>?_) (fun hd=>?_)
  · have hd:y.length < x.length:=by simpa using hd
    exact congrArg (AV.i .i64) (by unfold cmpN; have:=hyx hd; rw [if_neg (by omega),if_pos this])
  have hd:¬ y.length < x.length:=by simpa using hd
  have hl:x.length = y.length:=by omega
  intro _
  (refine And.intro (rng64 (by omega) (by omega)) ?_)
  refine Exists.intro [] (Exists.intro [] (Exists.intro [] (Exists.intro Int (Exists.intro (fun j=>-1≤j∧j < x.length∧∀ t:Nat,j < t→x.getD t 0 = y.getD t 0) (Exists.intro (fun j=>⟨[(0,.rd .u32 x),(1,.rd .u32 y),(5,.i .i64 j)],[]⟩) (Exists.intro (fun j=>(j + 1).toNat) (Exists.intro ((x.length:Int) - 1) (And.intro ⟨by omega,by omega,fun t ht=>against_start ⟨by omega,by omega⟩⟩ (And.intro ?_ ?_)))))))))
  · (repeat' (first | exact trivial | exact Or.inl rfl | exact Or.inr (Or.inl ⟨rfl,_,rfl⟩) | exact Or.inr (Or.inr (Or.inr ⟨_,_,_,rfl,rfl⟩)) | refine And.intro ?_ ?_))
  · rintro j ⟨h1,h2,h3⟩
    refine And.intro (fun hc=>?_) (fun hc=>?_)
    · obtain ⟨k,rfl⟩:=nn_of hc
      have h3:∀ t,k < t→x.getD t 0 = y.getD t 0:=fun t ht=>h3 t (by omega)
      refine Exists.intro [.blk [0,1,2,3,4,5,6,7,8]] (And.intro (by kernel_rfl) ?_)
      refine And.intro ⟨by omega,by omega⟩ ?_
      refine And.intro ⟨by omega,by omega⟩ ?_
      refine And.intro (fun hd=>?_) (fun hd=>?_)
      · have hd:x.getD k 0 < y.getD k 0:=of_decide_eq_true hd
        have:=vl_cmp b32 gx gy h3 hd
        exact congrArg (AV.i .i64) (by rw [← ea,← eb]; unfold cmpN; rw [if_pos this])
      have hd:¬ x.getD k 0 < y.getD k 0:=of_decide_eq_false hd
      refine Exists.intro [.blk [0,1,2,3,4,5,6,7,8]] (And.intro (by kernel_rfl) ?_)
      refine And.intro ⟨by omega,by omega⟩ ?_
      refine And.intro ⟨by omega,by omega⟩ ?_
      refine And.intro (fun he=>?_) (fun he=>?_)
      · have he:y.getD k 0 < x.getD k 0:=of_decide_eq_true he
        have:=vl_cmp b32 gy gx (fun t ht=>(h3 t ht).symm) he
        exact congrArg (AV.i .i64) (by rw [← ea,← eb]; unfold cmpN; rw [if_neg (by omega),if_pos this])
      have he:¬ y.getD k 0 < x.getD k 0:=of_decide_eq_false he
      (refine And.intro (rng64 (by omega) (by omega)) ?_)
      refine Exists.intro [] (Exists.intro ((k:Int) - 1) (And.intro ⟨by omega,by omega,fun t ht=>against_next h3 (by omega) (by omega)⟩ (And.intro ?_ ?_)))
      · (repeat' (first | exact trivial | exact Or.inl rfl | exact Or.inr (Or.inl ⟨rfl,_,rfl⟩) | exact Or.inr (Or.inr (Or.inr ⟨_,_,_,rfl,rfl⟩)) | refine And.intro ?_ ?_))
      · show ((k:Int) - 1 + 1).toNat < ((k:Int) + 1).toNat
        omega
    · have hj : j = -1 := by have : ¬ 0 ≤ j := of_decide_eq_false hc
                             omega
      have:=vl_ext (B:=4294967296) (l:=x) (m:=y) fun t=>h3 t (by omega)
      exact congrArg (AV.i .i64) (by rw [← ea,← eb]; unfold cmpN; rw [if_neg (by omega),if_neg (by omega)])
theorem s_cmp (a b:List Int) (ha:Dg 4294967296 a) (hb:Dg 4294967296 b) (hla:a.length≤1000000) (hlb:b.length≤1000000):PSpec Tryd.prog 69 [.rd .u32 a,.rd .u32 b] (.i .i64 (cmpN (vl 4294967296 a) (vl 4294967296 b))) :=
  pspec_of_vc Γ_good Tryd.func69 rfl Tryd.call69 Tryd.results69 Tryd.ntmps69 (Nat.le_of_ble_eq_true rfl) (w_cmp a b ha hb hla hlb)
theorem w_len (a:List Int) (ha:Dg 4294967296 a) (hla:a.length≤1000000):vc Tryd.prog Γ 20 [0,2,7] (Tryd.f62.body.getD .skip) (postK Γ [.tmp 2] (fun v=>v = .i .i64 ((bl (vl 4294967296 a):Nat):Int))) ⟨argSlots 0 [.rd .u32 a],[]⟩:=by
  have ea:=vl_dg b32 (vl 4294967296 a)
  have hx:=dg_len32 ha
  have gx:=dg_Dg b32 (vl 4294967296 a)
  have hge:0 < vl 4294967296 a→4294967296 ^ ((dg 4294967296 (vl 4294967296 a)).length - 1)≤vl 4294967296 a:=dg_ge b32
  have hz:vl 4294967296 a = 0→dg 4294967296 (vl 4294967296 a) = []:=fun e=>by rw [e]; rfl
  refine Or.inl (Exists.intro _ (And.intro (s_trimmed a ha) ?_))
  generalize vl 4294967296 a = m at ea hx gx hge hz
  generalize dg 4294967296 m = x at ea hx gx hge hz
  intro _
  refine And.intro (fun hc=>?_) (fun hc=>?_)
  · have hc:x.length = 0:=by simpa using hc
    have:m = 0:=by rw [← ea,List.eq_nil_of_length_eq_zero hc]; rfl
    subst this
    rfl
  have hc:x.length≠0:=by simpa using hc
  obtain ⟨k,hk⟩:∃ k,x.length = k + 1:=⟨x.length - 1,by omega⟩
  have g:=gx.getD (by decide) k
  obtain ⟨t,ht,htn,htl⟩:∃ t:Nat,x.getD k 0 = t∧(x.getD k 0).toNat = t∧t < 4294967296:=⟨(x.getD k 0).toNat,by omega,rfl,by omega⟩
  have hv:=vl_take_succ 4294967296 x k
  rw [← hk,List.take_length,ea,htn] at hv
  have hlo:=vl_lt (gx.take k)
  rw [List.length_take,show min k x.length = k by omega] at hlo
  have hp:(4294967296:Nat) ^ k = 2 ^ (32 * k):=by rw [Nat.pow_mul]
  have ht0:0 < t:=by
    rcases Nat.eq_zero_or_pos t with h0 | h0
    · subst h0
      rw [hk,Nat.add_sub_cancel] at hge
      rw [Nat.mul_zero,Nat.add_zero] at hv
      have hm:0 < m:=by
        rcases Nat.eq_zero_or_pos m with h1 | h1
        · have:=hz h1
          subst this
          simp at hk
        · exact h1
      have:=hge hm
      omega
    · exact h0
  have hb:bl m = 32 * k + bl t:=by rw [hv,hp]; rw [hp] at hlo; exact bl_top ht0 hlo
  have q:=s_len32 t htl
  rw [bitLen_bl (by omega),← ht,← show ((x.length:Int) - 1).toNat = k by omega] at q
  intro _
  (refine And.intro (rng64 (by omega) (by omega)) ?_)
  (refine And.intro (rng64 (by omega) (by omega)) ?_)
  intro _
  (refine And.intro (rng64 (by omega) (by omega)) ?_)
  refine And.intro ⟨by omega,by omega⟩ ?_
  refine Or.inl (Exists.intro _ (And.intro (q) ?_))
  have hbt:bl t≤32:=by
    rcases Nat.lt_or_ge 32 (bl t) with h | h
    · obtain ⟨j,j1,j2,_⟩:=bl_bounds ht0
      have:2 ^ 32≤2 ^ j:=Nat.pow_le_pow_right (by decide) (by omega)
      omega
    · exact h
  (refine And.intro (rng64 (by omega) (by omega)) ?_)
  exact congrArg (AV.i .i64) (by rw [hb]; omega)
theorem s_len (a:List Int) (ha:Dg 4294967296 a) (hla:a.length≤1000000):PSpec Tryd.prog 62 [.rd .u32 a] (.i .i64 ((bl (vl 4294967296 a):Nat):Int)) :=
  pspec_of_vc Γ_good Tryd.func62 rfl Tryd.call62 Tryd.results62 Tryd.ntmps62 (Nat.le_of_ble_eq_true rfl) (w_len a ha hla)
end
end Go.Proofs.YtgacojkkbjhjoaaDoor
end
section
namespace Go.SX
set_option linter.unusedSectionVars false
variable [Globs]
structure VCs (P:Program) (Γ:Ctx) (N:Nat) (L:List Nat) (c:Code) (Q:Exit→St→Prop) (s:St):Prop where
  ok:∀ (W0:World) (F:Fr) (X:Nat→Prop) (Q':Exit→Act→World→Prop) (a:Act) (w:World),(∀ e s a w,Q e s→Inv W0 F X N s a w→Q' e a w)→Inv W0 F X N s a w→c.wp P Q' a w
section
variable {P:Program} {N:Nat} {Γ:Ctx} {L:List Nat} {s:St}
theorem VCs.of_vc (hΓ:Γ.good P) {c:Code} {Q:Exit→St→Prop} (h:vc P Γ N L c Q s):VCs P Γ N L c Q s:=⟨fun _ _ _ Q' a w hQ hI=>vc_ok hΓ c Q Q' s a w hQ h hI⟩
theorem VCs.seq (hΓ : Γ.good P) {x y : Code} {Q : Exit → St → Prop} (h : vc P Γ N L x (fun e s' => match e with
    | .normal=>VCs P Γ N L y Q s'
    | e=>Q e s') s):VCs P Γ N L (.seq x y) Q s:=⟨fun W0 F X Q' a w hQ hI =>
  wp_seq (vc_ok hΓ x _ _ s a w (fun e s' a' w' hq hI'=>by
    cases e with
    | normal=>exact hq.ok W0 F X Q' a' w' hQ hI'
    | _=>exact hQ _ _ _ _ hq hI') h hI)⟩
theorem VCs.cut (hΓ : Γ.good P) {x y : Code} {Q : Exit → St → Prop} (σ : Type) (I : σ → Prop) (S : σ → St) (h : vc P Γ N L x (fun e s' => match e with
    | .normal=>∃ v,I v∧Wk s' (S v)
    | e=>Q e s') s) (h2:∀ v,I v→VCs P Γ N L y Q (S v)):VCs P Γ N L (.seq x y) Q s:=⟨fun W0 F X Q' a w hQ hI =>
  wp_seq (vc_ok hΓ x _ _ s a w (fun e s' a' w' hq hI'=>by
    cases e with
    | normal =>
      obtain ⟨v,hv,hw⟩:=hq
      obtain ⟨β,hI'⟩:=hI'
      exact (h2 v hv).ok W0 F X Q' a' w' hQ ⟨β,hI'.wk hw⟩
    | _=>exact hQ _ _ _ _ hq hI') h hI)⟩
theorem VCs.block {id : Nat} {c : Code} {Q : Exit → St → Prop} (h : VCs P Γ N L c (fun e s' => match e with
    | .exit id'=>bif Nat.beq id' id then Q .normal s' else Q (.exit id') s'
    | e=>Q e s') s):VCs P Γ N L (.block id c) Q s:=⟨fun W0 F X Q' a w hQ hI=>by
  refine wp_block (h.ok W0 F X _ a w (fun e s' a' w' hq hI'=>?_) hI)
  cases e with
  | exit id' =>
    have hq:bif Nat.beq id' id then Q .normal s' else Q (.exit id') s':=hq
    cases hb:Nat.beq id' id with
    | true =>
      rw [hb] at hq
      have hq1:Q .normal s':=hq
      have e:=Nat.eq_of_beq_eq_true hb
      subst e
      simp only [Exit.inBlock,if_true]
      exact hQ _ _ _ _ hq1 hI'
    | false =>
      rw [hb] at hq
      have hne:id'≠id:=fun e=>by subst e; rw [Nat.beq_refl] at hb; cases hb
      simp only [Exit.inBlock,hne,if_false]; exact hQ _ _ _ _ hq hI'
  | _=>exact hQ _ _ _ _ hq hI'⟩
theorem VCs.cond {c:Operand} {x y:Code} {Q:Exit→St→Prop} {t:Bool} (hc:ev s c = .b t) (h1:t = true→VCs P Γ N L x Q s) (h2:t = false→VCs P Γ N L y Q s):VCs P Γ N L (.cond c x y) Q s:=⟨fun W0 F X Q' a w hQ hI=>by
  obtain ⟨β,hI⟩:=hI
  have hr:=(ev_rel hI c).1
  rw [hc] at hr
  exact wp_cond_split hr.inv_b (fun ht=>(h1 ht).ok W0 F X Q' a w hQ ⟨β,hI⟩) (fun ht=>(h2 ht).ok W0 F X Q' a w hQ ⟨β,hI⟩)⟩
theorem VCs.seqS {x y : Code} {Q : Exit → St → Prop} (h : VCs P Γ N L x (fun e s' => match e with
    | .normal=>VCs P Γ N L y Q s'
    | e=>Q e s') s):VCs P Γ N L (.seq x y) Q s:=⟨fun W0 F X Q' a w hQ hI =>
  wp_seq (h.ok W0 F X _ a w (fun e s' a' w' hq hI'=>by
    cases e with
    | normal=>exact hq.ok W0 F X Q' a' w' hQ hI'
    | _=>exact hQ _ _ _ _ hq hI') hI)⟩
theorem VCs.cutS {x y : Code} {Q : Exit → St → Prop} (σ : Type) (I : σ → Prop) (S : σ → St) (h : VCs P Γ N L x (fun e s' => match e with
    | .normal=>∃ v,I v∧Wk s' (S v)
    | e=>Q e s') s) (h2:∀ v,I v→VCs P Γ N L y Q (S v)):VCs P Γ N L (.seq x y) Q s:=⟨fun W0 F X Q' a w hQ hI =>
  wp_seq (h.ok W0 F X _ a w (fun e s' a' w' hq hI'=>by
    cases e with
    | normal =>
      obtain ⟨v,hv,hw⟩:=hq
      obtain ⟨β,hI'⟩:=hI'
      exact (h2 v hv).ok W0 F X Q' a' w' hQ ⟨β,hI'.wk hw⟩
    | _=>exact hQ _ _ _ _ hq hI') hI)⟩
theorem pspec_of_VCs (_hΓ : Γ.good P) {f : FuncId} {fn : Func} {c : Code} (hf : P.funcs[f]? = some fn) (hb : fn.body = some c) (hcall : ∀ (vs : Array Value) (w : World), (callFunc f vs).run P w = .ok (.enter f vs) w)
    {rs:Array ResultVar} (hrs:fn.results = rs) (hN:fn.ntmps = N) {args:List AV} {r:AV} (hlen:args.length≤N)
    (hvc:VCs P Γ N L c (postK Γ rs.toList (fun v=>v = r)) ⟨argSlots 0 args,[]⟩) (hΓ:Γ.good P):PSpec P f args r:=by
  refine ⟨hcall,fun O w vs hO hG hargs=>?_⟩
  refine calls_of_wp hf hb ?_
  have hsz:vs.length = args.length:=hargs.1.symm
  have hI:InvB w Fr.none O N ⟨argSlots 0 args,[]⟩ (fun _=>none) { tmps:=vs.toArray++Array.replicate (fn.ntmps - vs.toArray.size) undef,defers:=[] } w:=by
    have hNm:∀ n,¬ Nm ⟨argSlots 0 args,[]⟩ n:=by
      rintro n (⟨cs,h⟩ | ⟨m,h⟩ | ⟨b,cs,h,_⟩)
      · cases h
      · have:=look_args args 0 m
        rw [Nat.zero_add] at this
        simp only [this] at h
        by_cases hm:m < args.length
        · rw [List.getD_eq_getElem?_getD,List.getElem?_eq_getElem hm] at h
          have:=(hargs.2 m _ _ (List.getElem?_eq_getElem hm) (List.getElem?_eq_getElem (by rw [hsz]; exact hm))).ids_nil
          rw [show (some args[m]).getD AV.x = args[m] from rfl,this] at h
          cases h
        · rw [List.getD_eq_getElem?_getD,List.getElem?_eq_none (by omega)] at h
          simp [ids,ids0] at h
      · cases h
    refine ⟨Stp.refl _ _,fun n=>?_,?_,fun n cs h=>(by cases h),fun n m g hn=>absurd hn (hNm n),fun n g hn=>absurd hn (hNm n),rfl,fun k hk=>⟨hO k hk,id⟩,fun n cs g h=>(by cases h),fun _ _=>rfl,hG.step (Stp.refl (fun _=>False) w) (fun _ _ h=>h.elim) fun k _ hk=>hk.elim id fun h=>h.elim⟩
    · have h1:=look_args args 0 n
      rw [Nat.zero_add] at h1
      show Rel _ _ _ (look (argSlots 0 args) n) _
      rw [h1]
      by_cases hm:n < args.length
      · have hmv:n < vs.length:=by rw [hsz]; exact hm
        have h2:=hargs.2 n _ _ (List.getElem?_eq_getElem hm) (List.getElem?_eq_getElem hmv)
        rw [List.getD_eq_getElem?_getD,List.getElem?_eq_getElem hm]
        have h3:(vs.toArray++Array.replicate (fn.ntmps - vs.toArray.size) undef).getD n undef = vs[n]:=by
          rw [Array.getD_eq_getD_getElem?,Array.getElem?_append_left (by simpa using hmv)]
          simp [hmv]
        rw [h3]
        refine Rel.im (h2.mono fun k hk=>?_)
        rcases hk with hk | ⟨m,hm',_⟩
        · exact hk
        · exact absurd hm' (hNm m)
      · rw [List.getD_eq_getElem?_getD,List.getElem?_eq_none (by omega)]
        exact Rel.x
    · show (vs.toArray++Array.replicate (fn.ntmps - vs.toArray.size) undef).size = N
      simp only [Array.size_append,List.size_toArray,Array.size_replicate,hN,hsz]
      omega
  refine hvc.ok w Fr.none O _ _ _ (fun e s a w' hq ⟨β,hI'⟩=>?_) ⟨_,hI⟩
  have key:retK Γ s rs.toList (fun v=>v = r)→a.defers = []∧∃ v,(results fn a.tmps).run P w' = .ok v w'∧∃ v',Ending.returned v = .returned v'∧Stp (fun _=>False) w w'∧Im O w' r v':=by
    intro h
    rw [← hrs] at h
    obtain ⟨v,u,rfl,h1,h2⟩:=ret_ok hΓ hI' h
    exact ⟨hI'.defers,u,h2,u,rfl,hI'.ext,h1⟩
  cases e with
  | normal=>exact key hq
  | ret=>exact key hq
  | _=>exact hq.elim
end
end Go.SX
end
section
namespace Go.Proofs.YtgacojkkbjhjoaaDoor
set_option linter.unusedSectionVars false
set_option linter.unusedSimpArgs false
set_option linter.unusedVariables false
open Go Go.SX Go.Bg
set_option maxRecDepth 100000
set_option maxHeartbeats 2000000
section
variable [G:Globs]
theorem w_add (a b:List Int) (ha:Dg 4294967296 a) (hb:Dg 4294967296 b) (hla:a.length≤1000000) (hlb:b.length≤1000000):VCs Tryd.prog Γ 53 [0,1,4,5,6,7,8,9,14,21,22,23,24,31] (Tryd.f67.body.getD .skip) (postK Γ [.tmp 4] (fun v=>v = .rd .u32 (dg 4294967296 (vl 4294967296 a + vl 4294967296 b)))) ⟨argSlots 0 [.rd .u32 a,.rd .u32 b],[]⟩:=by
  refine VCs.seq (by first | exact Γ_good | exact Ctx.good_kp Γ_good _) ?_
  refine VCs.cut (by first | exact Γ_good | exact Ctx.good_kp Γ_good _) (List Int × List Int) (fun x=>Dg 4294967296 x.1∧Dg 4294967296 x.2∧x.1.length≤1000000∧x.2.length≤x.1.length∧vl 4294967296 x.1 + vl 4294967296 x.2 = vl 4294967296 a + vl 4294967296 b) (fun ⟨x,y⟩=>⟨[(0,.rd .u32 x),(1,.rd .u32 y)],[]⟩) ?_ ?_
  · intro _
    intro _
    refine And.intro (fun hc=>?_) (fun hc=>?_)
    · have hc:a.length < b.length:=by simpa using hc
      refine Exists.intro (b,a) (And.intro ⟨hb,ha,hlb,by dsimp only; omega,Nat.add_comm _ _⟩ ?_)
      (repeat' (first | exact trivial | exact Or.inl rfl | exact Or.inr (Or.inl ⟨rfl,_,rfl⟩) | exact Or.inr (Or.inr (Or.inr ⟨_,_,_,rfl,rfl⟩)) | refine And.intro ?_ ?_))
    · have hc:b.length≤a.length:=by simpa using hc
      refine Exists.intro (a,b) (And.intro ⟨ha,hb,hla,hc,rfl⟩ ?_)
      (repeat' (first | exact trivial | exact Or.inl rfl | exact Or.inr (Or.inl ⟨rfl,_,rfl⟩) | exact Or.inr (Or.inr (Or.inr ⟨_,_,_,rfl,rfl⟩)) | refine And.intro ?_ ?_))
  rintro ⟨x,y⟩ ⟨hx,hy,hl,hyl,hv⟩
  dsimp only at hx hy hl hyl hv
  refine VCs.of_vc (by first | exact Γ_good | exact Ctx.good_kp Γ_good _) ?_
  intro _
  (refine And.intro (rng64 (by omega) (by omega)) ?_)
  refine And.intro ⟨by omega,by omega,by omega,by show (x.length + 1) * 4≤_; omega⟩ ?_
  intro _
  refine Exists.intro [] (Exists.intro [] (Exists.intro [] (Exists.intro (List Int × Nat) (Exists.intro (fun s=>Dg 4294967296 s.1∧s.1.length≤x.length∧s.2≤1∧vl 4294967296 s.1 + 4294967296 ^ s.1.length * s.2 = vl 4294967296 (x.take s.1.length) + vl 4294967296 (y.take s.1.length)) (Exists.intro (fun ⟨o,c⟩=>⟨[(1,.rd .u32 y),(5,.vec 20 .u32 o),(6,.i .u32 c),(21,.rd .u32 x),(22,.i .i64 x.length),(23,.i .i64 o.length)],[]⟩) (Exists.intro (fun s=>x.length - s.1.length) (Exists.intro ([],0) (And.intro ⟨Dg.nil _,Nat.zero_le _,Nat.zero_le _,by simp [vl]⟩ (And.intro ?_ ?_)))))))))
  · (repeat' (first | exact trivial | exact Or.inl rfl | exact Or.inr (Or.inl ⟨rfl,_,rfl⟩) | exact Or.inr (Or.inr (Or.inr ⟨_,_,_,rfl,rfl⟩)) | refine And.intro ?_ ?_))
  · rintro ⟨o,c⟩ ⟨h1,h2,h3,h4⟩
    dsimp only at h1 h2 h3 h4
    refine And.intro (fun hc=>?_) (fun hc=>?_)
    · have hk:o.length < x.length:=by simpa using hc
      obtain ⟨u,hu,hul,hun⟩:=get32 hx o.length
      have e13:∀ t:Int,(o.length:Int) + 1 = ((o++[t]).length:Int):=fun t=>by simp
      have nx:∀ w:Nat,w < 4294967296→y.getD o.length 0 = w→Dg 4294967296 (o++[(((u + w + c) % 4294967296:Nat):Int)])∧(u + w + c) / 4294967296≤1∧vl 4294967296 (o++[(((u + w + c) % 4294967296:Nat):Int)]) + 4294967296 ^ (o++[(((u + w + c) % 4294967296:Nat):Int)]).length * ((u + w + c) / 4294967296) = vl 4294967296 (x.take (o++[(((u + w + c) % 4294967296:Nat):Int)]).length) + vl 4294967296 (y.take (o++[(((u + w + c) % 4294967296:Nat):Int)]).length):=fun w hwl hw=>by
        refine ⟨h1.snoc ⟨by omega,by omega⟩,by omega,?_⟩
        rw [List.length_append,List.length_singleton,vl_take_succ,vl_take_succ,vl_snoc,hun,hw,Int.toNat_natCast,Int.toNat_natCast,Nat.pow_succ]
        exact dig_add h4 (by omega)
      refine And.intro ⟨by omega,by omega⟩ ?_
      intro _
      refine And.intro (fun hd=>?_) (fun hd=>?_)
      · have hd:o.length < y.length:=by simpa using hd
        obtain ⟨w,hw,hwl,_⟩:=get32 hy o.length
        have nx:=nx w hwl hw
        have q:=s_add32 u w c hul hwl h3
        rw [← hu,← hw] at q
        refine And.intro ⟨by omega,by omega⟩ ?_
        refine Or.inl (Exists.intro _ (And.intro (q) ?_))
        refine And.intro (by show (o.length + 1) * 4≤_; omega) ?_
        (refine And.intro (rng64 (by omega) (by omega)) ?_)
        refine Exists.intro [(46,20)] (Exists.intro (o++[(((u + w + c) % 4294967296:Nat):Int)],(u + w + c) / 4294967296) (And.intro ⟨nx.1,by simp; omega,nx.2.1,nx.2.2⟩ (And.intro ?_ ?_)))
        · (repeat' (first | exact trivial | exact Or.inl rfl | exact Or.inl ((by first | exact congrArg (AV.i .i64) (e13 _))) | refine And.intro ?_ ?_))
        · show x.length - (o++[_]).length < x.length - o.length
          simp; omega
      · have hd:y.length≤o.length:=by simpa using hd
        obtain ⟨w,hw,hwl⟩:=get32' hy o.length hd
        subst hwl
        have nx:=nx 0 (by decide) hw
        have q:=s_add32 u 0 c hul (by decide) h3
        rw [← hu] at q
        refine Or.inl (Exists.intro _ (And.intro (q) ?_))
        refine And.intro (by show (o.length + 1) * 4≤_; omega) ?_
        (refine And.intro (rng64 (by omega) (by omega)) ?_)
        refine Exists.intro [(46,20)] (Exists.intro (o++[(((u + 0 + c) % 4294967296:Nat):Int)],(u + 0 + c) / 4294967296) (And.intro ⟨nx.1,by simp; omega,nx.2.1,nx.2.2⟩ (And.intro ?_ ?_)))
        · (repeat' (first | exact trivial | exact Or.inl rfl | exact Or.inl ((by first | exact congrArg (AV.i .i64) (e13 _))) | refine And.intro ?_ ?_))
        · show x.length - (o++[_]).length < x.length - o.length
          simp; omega
    · have hk : o.length = x.length := by have : ¬ (o.length : Int) < (x.length : Int) := of_decide_eq_false hc
                                          omega
      rw [hk,List.take_length,List.take_of_length_le hyl,hv] at h4
      refine And.intro (by show (o.length + 1) * 4≤_; omega) ?_
      have h5:Dg 4294967296 (o++[(c:Int)]):=h1.snoc ⟨by omega,by omega⟩
      have h6:vl 4294967296 (o++[(c:Int)]) = vl 4294967296 a + vl 4294967296 b:=by rw [vl_snoc,Int.toNat_natCast,hk,h4]
      refine Or.inl (Exists.intro _ (And.intro (s_trimmed _ h5) ?_))
      exact congrArg (fun n=>AV.rd .u32 (dg 4294967296 n)) h6
theorem s_add (a b:List Int) (ha:Dg 4294967296 a) (hb:Dg 4294967296 b) (hla:a.length≤1000000) (hlb:b.length≤1000000):PSpec Tryd.prog 67 [.rd .u32 a,.rd .u32 b] (.rd .u32 (dg 4294967296 (vl 4294967296 a + vl 4294967296 b))) :=
  pspec_of_VCs Γ_good Tryd.func67 rfl Tryd.call67 Tryd.results67 Tryd.ntmps67 (Nat.le_of_ble_eq_true rfl) (w_add a b ha hb hla hlb) Γ_good
end
end Go.Proofs.YtgacojkkbjhjoaaDoor
end
section
namespace Go.SX
set_option linter.unusedSectionVars false
variable [Globs]
def Kept (A:Nat) (a a':Act):Prop:=∀ j,j < A→a'.tmps.getD j undef = a.tmps.getD j undef
theorem Kept.refl (A:Nat) (a:Act):Kept A a a:=fun _ _=>rfl
theorem Kept.trans {A:Nat} {a b c:Act} (h:Kept A a b) (h2:Kept A b c):Kept A a c:=fun j hj=>(h2 j hj).trans (h j hj)
def dstOK (A:Nat) (o:Oper):Bool:=match o.dst with
  | none=>true
  | some d=>Nat.ble A d
theorem kept_put {A:Nat} {o:Oper} (h:dstOK A o = true) (a:Act) (v:Value):Kept A a (a.put o.dst v):=by
  intro j hj
  unfold dstOK at h
  cases hd:o.dst with
  | none=>rfl
  | some d =>
    rw [hd] at h
    have h2:A≤d:=Nat.le_of_ble_eq_true (show Nat.ble A d = true from h)
    have hne:¬ d = j:=fun e=>absurd (e ▸ h2:A≤j) (Nat.not_le_of_lt hj)
    simp only [Act.put,Array.getD_eq_getD_getElem?,Array.getElem?_setIfInBounds]
    rw [if_neg hne]
def keepsB (A:Nat):Code→Bool
  | .skip=>true
  | .region _ ops _=>ops.toList.all (dstOK A)
  | .seq x y=>keepsB A x && keepsB A y
  | .cond _ x y=>keepsB A x && keepsB A y
  | .block _ c=>keepsB A c
  | .loop c=>keepsB A c
  | .exit _=>true
  | .ret=>true
  | .label _=>true
  | _=>false
section
variable {P:Program} {N:Nat} {Γ:Ctx} {W0:World} {F:Fr} {X:Nat→Prop} {s:St} {β:Nat→Option Nat} {a:Act} {w:World} {A:Nat} {a0:Act}
def QK (A:Nat) (a0:Act) (Q:Exit→Act→World→Prop) (e:Exit) (a':Act) (w':World):Prop:=Q e a' w'∧(e = .normal→Kept A a0 a')
theorem letsOut_qk {Q:Exit→Act→World→Prop} (h:LetsOut Q):LetsOut (QK A a0 Q):=by
  obtain ⟨a,w,h⟩:=h
  exact ⟨a,w,h,fun h=>by cases h⟩
theorem wp_keep {o:Oper} {K:Act→World→Prop} {Q:Exit→Act→World→Prop} (hk:Kept A a0 a) (hd:dstOK A o = true) (hh:o.wp P a w K Q):o.wp P a w (fun a' w'=>K a' w'∧Kept A a0 a') (QK A a0 Q):=by
  unfold Oper.wp at *
  generalize (execOp a.eval o).run P w = r at *
  have hp:∀ v,Kept A a0 (a.put o.dst v):=fun v=>hk.trans (kept_put hd a v)
  cases r with
  | ok n w' =>
    cases n<;>simp only [Oper.upon] at hh ⊢
    all_goals first
      | exact ⟨hh,hp _⟩
      | exact ⟨hh,hk.trans (fun j hj=>(kept_put hd { a with defers:=_ } _ j hj))⟩
      | exact Calls.mono hh (fun e w'' he=>by cases e<;>first | exact ⟨he,hp _⟩ | exact ⟨he,fun h=>by cases h⟩ | exact letsOut_qk he)
      | exact Rows.mono hh (fun _ _ he=>⟨he,hp _⟩)
  | halt x w'=>cases x<;>simp only [Oper.upon] at hh ⊢ <;> first | exact ⟨hh,fun h=>by cases h⟩ | exact hh
theorem wpList_keep {ops:Array Oper} {Q:Exit→Act→World→Prop}:∀ (l:List Oper),(∀ o ∈ l,dstOK A o = true)→∀ (a:Act) (w:World),Kept A a0 a→wpList P ops Q l a w→wpList P ops (QK A a0 Q) l a w
  | [],_,a,w,hk,h=>⟨h,fun _=>hk⟩
  | o::r,hl,a,w,hk,h=>by
    have hd:=hl o (List.mem_cons_self ..)
    have ih:=wpList_keep (ops:=ops) (Q:=Q) r (fun o ho=>hl o (List.mem_cons_of_mem _ ho))
    unfold wpList at h ⊢
    split
    · rename_i hw
      rw [if_pos hw] at h
      rcases h with h | ⟨h1,h2⟩
      · exact .inl (Oper.wp_mono (fun a' w' h=>ih a' w' h.2 h.1) (wp_keep hk hd h))
      · exact .inr ⟨h1,letsOut_qk h2⟩
    · rename_i hw
      rw [if_neg hw] at h
      exact ih _ _ (hk.trans (kept_put hd a undef)) h
theorem wpAny_keep {ops:Array Oper} {md:Region.Mode} {Q:Exit→Act→World→Prop} (hl:∀ (i:Nat) o,ops[i]? = some o→dstOK A o = true):∀ (fuel:Nat) (listed:Array Bool) (a:Act) (w:World),Kept A a0 a→wpAny P md ops Q fuel listed a w→wpAny P md ops (QK A a0 Q) fuel listed a w
  | 0,listed,a,w,hk,h=>⟨h.1,h.2,fun _=>hk⟩
  | fuel + 1,listed,a,w,hk,h=>by
    refine ⟨fun hr=>⟨h.1 hr,fun _=>hk⟩,fun i hi=>?_⟩
    have h:=h.2 i hi
    unfold wpOp at h ⊢
    cases ho:ops[i]? with
    | none =>
      rw [ho] at h
      exact wpAny_keep hl fuel _ a w hk h
    | some o =>
      rw [ho] at h
      have hd:=hl i o ho
      simp only at h ⊢
      split
      · rename_i hw
        rw [if_pos hw] at h
        rcases h with h | ⟨h1,h2⟩
        · exact .inl (Oper.wp_mono (fun a' w' h=>wpAny_keep hl fuel _ a' w' h.2 h.1) (wp_keep hk hd h))
        · exact .inr ⟨h1,letsOut_qk h2⟩
      · rename_i hw
        rw [if_neg hw] at h
        exact wpAny_keep hl fuel _ _ w (hk.trans (kept_put hd a undef)) h
theorem vc_ok_keep (hΓ:Γ.good P) {L:List Nat} (c:Code):∀ (Q:Exit→St→Prop) (Q':Exit→Act→World→Prop) (s:St) (a:Act) (w:World),keepsB A c = true→(∀ e s a w,Q e s→Inv W0 F X N s a w→Kept A a0 a→Q' e a w)→vc P Γ N L c Q s→Inv W0 F X N s a w→Kept A a0 a→c.wp P Q' a w:=by
  induction c with
  | skip=>intro Q Q' s a w hc hQ h hI hk; exact wp_skip (hQ _ _ _ _ h hI hk)
  | region id ops draw =>
    intro Q Q' s a w hc hQ h hI hk
    have hl:∀ o ∈ ops.toList,dstOK A o = true:=List.all_eq_true.1 hc
    let Q2:Exit→Act→World→Prop:=fun e a w=>e = .normal∧∃ s',Q .normal s'∧Inv W0 F X N s' a w
    have hend:∀ e a' w',QK A a0 Q2 e a' w'→Q' e a' w':=fun e a' w' ⟨⟨he,s',h1,h2⟩,h3⟩=>by
      subst he
      exact hQ _ _ _ _ h1 h2 (h3 rfl)
    cases draw with
    | true =>
      obtain ⟨pl,hpl,h⟩:=(show ∃ pl,planOK ops pl = true∧vcPlan P Γ N ops.toList pl [] s fun s=>stKeepK L s (Q .normal) from h)
      simp only [planOK,Bool.and_eq_true,decide_eq_true_eq] at hpl
      obtain ⟨⟨h1,h2⟩,h3⟩:=hpl
      obtain ⟨β,hI⟩:=hI
      have hdr:Inv W0 F X N s a { w with drawn:=w.drawn + 1 }:=⟨β,hI.grow ⟨rfl,rfl,rfl,Nat.le_refl _,fun _ _ _=>rfl⟩⟩
      refine wp_mono (Q:=QK A a0 Q2) (wp_region_any hΓ.mixed (wpAny_keep (fun i o ho=>hl o (by rw [← Array.getElem?_toList] at ho; exact List.mem_of_getElem? ho)) _ _ _ _ hk (plan_ok hΓ (fun s a w hk ⟨β,hI⟩=>by
        obtain ⟨s',h1,h2⟩:=keep_ok hI hk
        exact ⟨rfl,s',h1,β,h2⟩) (fun c a a' w h=>by cases h.1) h1 pl _ [] s ops.size a _ (by simp) h2 h3 h hdr))) hend
    | false =>
      refine wp_mono (Q:=QK A a0 Q2) (wp_region_list (wpList_keep ops.toList hl a w hk ?_)) hend
      have:=vcOps_ok hΓ (Q':=Q2) (fun s a w hk ⟨β,hI⟩=>by
        obtain ⟨s',h1,h2⟩:=keep_ok hI hk
        exact ⟨rfl,s',h1,β,h2⟩) ops.toList [] s a w h hI
      simpa using this
  | seq x y ihx ihy =>
    intro Q Q' s a w hc hQ h hI hk
    simp only [keepsB,Bool.and_eq_true] at hc
    refine wp_seq (ihx _ _ s a w hc.1 (fun e s' a' w' hq hI' hk'=>?_) h hI hk)
    cases e with
    | normal=>exact ihy Q Q' s' a' w' hc.2 hQ hq hI' hk'
    | _=>exact hQ _ _ _ _ hq hI' hk'
  | cond c x y ihx ihy =>
    intro Q Q' s a w hc hQ h hI hk
    simp only [keepsB,Bool.and_eq_true] at hc
    have h:evK s c fun v=>match v with
      | .b t=>(t = true→vc P Γ N L x Q s)∧(t = false→vc P Γ N L y Q s)
      | _=>False:=h
    rw [evK_eq] at h
    obtain ⟨β,hI⟩:=hI
    have hr:=(ev_rel hI c).1
    cases hv:ev s c with
    | b t =>
      rw [hv] at h hr
      exact wp_cond_split hr.inv_b (fun ht=>ihx Q Q' s a w hc.1 hQ (h.1 ht) ⟨β,hI⟩ hk) (fun ht=>ihy Q Q' s a w hc.2 hQ (h.2 ht) ⟨β,hI⟩ hk)
    | _=>rw [hv] at h; exact h.elim
  | block id c ih =>
    intro Q Q' s a w hc hQ h hI hk
    refine wp_block (ih _ _ s a w hc (fun e s' a' w' hq hI' hk'=>?_) h hI hk)
    cases e with
    | exit id' =>
      have hq:bif Nat.beq id' id then Q .normal s' else Q (.exit id') s':=hq
      cases hb:Nat.beq id' id with
      | true =>
        rw [hb] at hq
        have hq1:Q .normal s':=hq
        have e:=Nat.eq_of_beq_eq_true hb
        subst e
        simp only [Exit.inBlock,if_true]
        exact hQ _ _ _ _ hq1 hI' hk'
      | false =>
        rw [hb] at hq
        have hne:id'≠id:=fun e=>by subst e; rw [Nat.beq_refl] at hb; cases hb
        simp only [Exit.inBlock,hne,if_false]; exact hQ _ _ _ _ hq hI' hk'
    | _=>exact hQ _ _ _ _ hq hI' hk'
  | loop c ih =>
    intro Q Q' s a w hc hQ h ⟨β,hI⟩ hk
    obtain ⟨cv,cb,rn,h⟩:=(show LoopVC N (vc P Γ N L c) Q s from h)
    obtain ⟨s00,β00,h,hI00⟩:=nlVec_ok cv hI h
    obtain ⟨s0,β0,h,hI0⟩:=nlBox_ok cb hI00 h
    obtain ⟨s1,β1,⟨σ,I,S,μ,x,hix,hwk,hround⟩,hI1⟩:=renSt_ok rn hI0 h
    refine wp_loop' (fun x a w=>(I x∧Inv W0 F X N (S x) a w)∧Kept A a0 a) μ (fun x a w hIx=>?_) (x:=x) ⟨⟨hix,β1,hI1.wk hwk⟩,hk⟩
    refine ih _ _ (S x) a w hc (fun e s' a' w' hq hI' hk'=>?_) (hround x hIx.1.1) hIx.1.2 hIx.2
    cases e with
    | normal =>
      obtain ⟨rn,hq⟩:=hq
      obtain ⟨β',hI'⟩:=hI'
      obtain ⟨s2,β2,⟨x',h0,h1,h2⟩,hI2⟩:=renSt_ok rn hI' hq
      exact ⟨x',⟨⟨h0,β2,hI2.wk h1⟩,hk'⟩,h2⟩
    | _=>exact hQ _ _ _ _ hq hI' hk'
  | exit id=>intro Q Q' s a w _ hQ h hI hk; exact wp_exit (hQ _ _ _ _ h hI hk)
  | ret=>intro Q Q' s a w _ hQ h hI hk; exact wp_ret (hQ _ _ _ _ h hI hk)
  | label l=>intro Q Q' s a w _ hQ h hI hk; exact wp_label (hQ _ _ _ _ h hI hk)
  | _=>intro Q Q' s a w hc; exact absurd hc (by simp [keepsB])
def endMK (Γ:Ctx) (rs:List ResultVar) (r:AV) (j:Nat) (g:AV) (boxes':List (Nat × List AV)) (s:St):Prop :=
  retK Γ s rs (fun v=>chkK (grB v) (v = r))∧∃ rn,renStK rn s fun s=>lookK s.slots j (fun v=>v = g)∧wkB s boxes'
def postMK (Γ:Ctx) (rs:List ResultVar) (r:AV) (j:Nat) (g:AV) (boxes':List (Nat × List AV)) (e:Exit) (s:St):Prop :=
  match e with
  | .normal=>endMK Γ rs r j g boxes' s
  | .ret=>endMK Γ rs r j g boxes' s
  | _=>False
def postE (E:St→Prop) (e:Exit) (s:St):Prop :=
  match e with
  | .normal=>E s
  | .ret=>E s
  | _=>False
theorem cspecM_of_vcE (hΓ : Γ.good P) {f : FuncId} {fn : Func} {c : Code} (hf : P.funcs[f]? = some fn) (hb : fn.body = some c) (hcall : ∀ (vs : Array Value) (w : World), (callFunc f vs).run P w = .ok (.enter f vs) w)
    {rs:Array ResultVar} (hrs:fn.results = rs) (hN:fn.ntmps = N) {args:List AV} {boxes:List (Nat × List AV)} {r:AV} {j:Nat} {g:AV} {boxes':List (Nat × List AV)} {L:List Nat} (hlen:args.length≤N) (hN1:1≤N)
    (hlow:(boxNames boxes).all (fun n=>Nat.ble N n) = true) (hj:j < args.length) (hkeep:keepsB args.length c = true) {E:St→Prop} (hE:∀ (F:Fr) (X:Nat→Prop) (W0 w:World) (s:St) (β:Nat→Option Nat) (a:Act),InvB W0 F X N s β a w→E s→∃ u s1 β1,(results fn a.tmps).run P w = .ok u w∧Im (Own X s1 β1) w r u∧InvB W0 F X N s1 β1 a w∧look s1.slots j = g∧wkB s1 boxes')
    (hvc:vc P Γ N L c (postE E) ⟨argSlots 0 args,boxes⟩):CSpecM P f args boxes r j g boxes':=by
  refine ⟨hcall,fun F X β w vs hvs hpin hI0=>?_⟩
  refine calls_of_wp hf hb ?_
  have hget:∀ n,n < vs.length→(vs.toArray++Array.replicate (fn.ntmps - vs.toArray.size) undef).getD n undef = vs.toArray.getD n undef:=fun n hm=>by
    simp only [Array.getD_eq_getD_getElem?]
    rw [Array.getElem?_append_left (by simpa using hm)]
  have hpad:∀ n,(vs.toArray++Array.replicate (fn.ntmps - vs.toArray.size) undef).getD n undef = vs.toArray.getD n undef∨look (argSlots 0 args) n = .x:=fun n=>by
    by_cases hm:n < vs.length
    · exact .inl (hget n hm)
    · right
      have h1:=look_args args 0 n
      rw [Nat.zero_add] at h1
      rw [h1,List.getD_eq_getElem?_getD,List.getElem?_eq_none (by omega)]
      rfl
  have hI:InvB w F X N ⟨argSlots 0 args,boxes⟩ β { tmps:=vs.toArray++Array.replicate (fn.ntmps - vs.toArray.size) undef,defers:=[] } w:=by
    refine ⟨hI0.ext,fun n=>?_,?_,hI0.boxes,hI0.inj,hI0.own,hI0.defers,hI0.ext2,hI0.pin,fun n hn=>?_,hI0.gl⟩
    · rcases hpad n with h1 | h1
      · show Rel _ _ _ _ ((vs.toArray++Array.replicate (fn.ntmps - vs.toArray.size) undef).getD n undef)
        rw [h1]; exact hI0.slots n
      · show Rel _ _ _ (look (argSlots 0 args) n) _
        rw [h1]; exact Rel.x
    · simp only [Array.size_append,List.size_toArray,Array.size_replicate,hN,hvs]
      omega
    · cases hp:F.pin n with
      | none=>rfl
      | some g =>
        have h1:=boxNames_mem.2 (hpin n g hp)
        have:=Nat.le_of_ble_eq_true (List.all_eq_true.1 hlow n h1)
        omega
  refine vc_ok_keep (W0:=w) (F:=F) (X:=X) (A:=args.length) (a0:={ tmps:=vs.toArray++Array.replicate (fn.ntmps - vs.toArray.size) undef,defers:=[] }) hΓ c _ _ _ _ _ hkeep (fun e s a w' hq ⟨β',hI'⟩ hk=>?_) hvc ⟨_,hI⟩ (Kept.refl _ _)
  have key:E s→a.defers = []∧∃ v,(results fn a.tmps).run P w' = .ok v w'∧∃ v' u β'',Ending.returned v = .returned v'∧vs[j]? = some u∧Im (Own X ⟨[(0,g)],boxes'⟩ β'') w' r v'∧InvB w F X 1 ⟨[(0,g)],boxes'⟩ β'' ⟨#[u],[]⟩ w':=by
    intro h
    obtain ⟨u,s1,β1,k2,k1,hI1,h3,hwk⟩:=hE F X w w' s β' a hI' h
    have hju:a.tmps.getD j undef = vs[j]'(by omega):=by
      rw [hk j hj]
      show (vs.toArray++Array.replicate (fn.ntmps - vs.toArray.size) undef).getD j undef = _
      rw [hget j (by omega)]
      have hm:j < vs.length:=by omega
      simp [hm]
    have hd:F.dfr = []:=hI0.defers.symm
    have hr:=hI1.slots j
    rw [h3,hju] at hr
    have hrn:∀ n ∈ ids g,Nm s1 n:=fun n hn=>.inr (.inl ⟨j,by rw [h3]; exact hn⟩)
    have hNm:∀ n,Nm ⟨[(0,g)],boxes'⟩ n→Nm s1 n:=by
      rintro n (⟨cs,hc⟩ | ⟨q,hq⟩ | ⟨b,cs,hb,c,hc,hn⟩)
      · obtain ⟨us',hu',_⟩:=wkB_look hwk n cs hc
        exact .inl ⟨us',hu'⟩
      · simp only [look] at hq
        cases hb:Nat.beq 0 q with
        | true=>rw [hb] at hq; exact hrn n hq
        | false=>rw [hb] at hq; cases hq
      · obtain ⟨us',hu',hw⟩:=wkB_look hwk b cs hb
        obtain ⟨g,us2,e,k1,k2,k3⟩:=hI1.boxes b us' hu'
        obtain ⟨u',hu2,hn'⟩:=(wkC_rel hw k3).2 c hc n hn
        exact .inr (.inr ⟨b,us',hu',u',hu2,hn'⟩)
    have hO:∀ k,Own X ⟨[(0,g)],boxes'⟩ β1 k→Own X s1 β1 k:=fun k hk=>hk.imp id fun ⟨n,hn,hb⟩=>⟨n,hNm n hn,hb⟩
    refine ⟨hI'.defers.trans hd,u,k2,u,_,β1,rfl,List.getElem?_eq_getElem (by omega),k1.mono hO,?_⟩
    refine ⟨hI1.ext,fun n=>?_,rfl,fun n cs hc=>?_,fun n m g hn hm=>hI1.inj n m g (hNm n hn) (hNm m hm),fun n g hn hg=>hI1.own n g (hNm n hn) hg,hd.symm,hI1.ext2,fun n cs g hc hp=>?_,fun n hn=>hI1.pinN n (by omega),hI1.gl⟩
    · simp only [look]
      cases hb:Nat.beq 0 n with
      | true=>have:=Nat.eq_of_beq_eq_true hb; subst this; exact hr.mono hO
      | false=>exact Rel.x
    · obtain ⟨us',hu',hw⟩:=wkB_look hwk n cs hc
      obtain ⟨g,us2,e,k1,k2,k3⟩:=hI1.boxes n us' hu'
      exact ⟨g,us2,e,k1,k2,(wkC_rel hw k3).1.mono fun _ _ _ _ hr=>⟨hr.1.mono hO,hr.2⟩⟩
    · obtain ⟨us',hu',_⟩:=wkB_look hwk n cs hc
      exact hI1.pin n us' g hu' hp
  cases e with
  | normal=>exact key hq
  | ret=>exact key hq
  | _=>exact hq.elim
theorem cspecM_of_vc (hΓ : Γ.good P) {f : FuncId} {fn : Func} {c : Code} (hf : P.funcs[f]? = some fn) (hb : fn.body = some c) (hcall : ∀ (vs : Array Value) (w : World), (callFunc f vs).run P w = .ok (.enter f vs) w)
    {rs:Array ResultVar} (hrs:fn.results = rs) (hN:fn.ntmps = N) {args:List AV} {boxes:List (Nat × List AV)} {r:AV} {j:Nat} {g:AV} {boxes':List (Nat × List AV)} {L:List Nat} (hlen:args.length≤N) (hN1:1≤N)
    (hlow:(boxNames boxes).all (fun n=>Nat.ble N n) = true) (hj:j < args.length) (hkeep:keepsB args.length c = true) (hvc:vc P Γ N L c (postMK Γ rs.toList r j g boxes') ⟨argSlots 0 args,boxes⟩):CSpecM P f args boxes r j g boxes':=by
  have e:postMK Γ rs.toList r j g boxes' = postE (endMK Γ rs.toList r j g boxes'):=by funext e s; cases e<;>rfl
  rw [e] at hvc
  refine cspecM_of_vcE hΓ hf hb hcall hrs hN hlen hN1 hlow hj hkeep (fun F X W0 w s β a hI h=>?_) hvc
  obtain ⟨h,rn,h2⟩:=h
  rw [← hrs] at h
  obtain ⟨v,u,hv,k1,k2⟩:=ret_ok hΓ hI h
  obtain ⟨hg,rfl⟩:=(chkK_iff _ _).1 hv
  obtain ⟨s1,β1,⟨h3,hwk⟩,hI1⟩:=renSt_ok rn hI h2
  rw [lookK_eq] at h3
  exact ⟨u,s1,β1,k2,gr_im hg k1,hI1,h3,hwk⟩
end
end Go.SX
end
section
namespace Go.Proofs.YtgacojkkbjhjoaaDoor
set_option linter.unusedSectionVars false
set_option linter.unusedSimpArgs false
set_option linter.unusedVariables false
open Go Go.SX Go.Bg
set_option maxRecDepth 100000
set_option maxHeartbeats 2000000
def win (l:List Int) (a n:Nat):List Int:=(l.drop a).take n
theorem take_val {q y c : Nat} (hq : q < 4294967296) (hy : y < 4294967296) (hc : c < 4294967296) :
    IntKind.u64.wrap ((c:Int) + IntKind.u64.wrap ((q:Int) * IntKind.u64.wrap (y:Int))) = ((c + q * y:Nat):Int)∧(c + q * y) / 4294967296 < 4294967296:=by
  have hqy:q * y≤4294967295 * 4294967295:=Nat.mul_le_mul (by omega) (by omega)
  have e1:IntKind.u64.wrap (y:Int) = y:=by rw [IntKind.wrap_u64]; omega
  rw [e1,show (q:Int) * (y:Int) = ((q * y:Nat):Int) from rfl]
  generalize q * y = p at hqy
  constructor
  · simp only [IntKind.wrap_u64]; omega
  · omega
theorem win_get (l:List Int) (a k:Nat):(l.drop a).getD k 0 = l.getD (a + k) 0:=by
  rw [List.getD_eq_getElem?_getD,List.getElem?_drop,← List.getD_eq_getElem?_getD]
section
variable [G:Globs]
theorem w_takes (l v:List Int) (a b q:Nat) (hl:Dg 4294967296 l) (hv:Dg 4294967296 v) (hab:a + (v.length + 1) = b) (hb:b≤l.length) (hll:l.length≤1000000) (hq:q < 4294967296):vc Tryd.prog Γ 47 [0,1,2,6,7,8,9,11,12,13,18,1000] (Tryd.f145.body.getD .skip) (postMK Γ [.tmp 6] (.b (decide (vl 4294967296 (win l a (v.length + 1)) < q * vl 4294967296 v))) 0 (.ob 1000 1000 (.vw .u32 (wn l a (fx 4294967296 (v.length + 1) (vl 4294967296 (win l a (v.length + 1)) + 4294967296 ^ (v.length + 1) - q * vl 4294967296 v))) a b)) []) ⟨argSlots 0 [.ob 1000 1000 (.vw .u32 l a b),.rd .u32 v,.i .u64 q],[]⟩:=by
  intro _
  refine Exists.intro [] (Exists.intro [] (Exists.intro [] (Exists.intro (List Int × Nat × Nat) (Exists.intro (fun s=>Dg 4294967296 s.1∧s.1.length≤v.length + 1∧s.2.1≤1∧s.2.2 < 4294967296∧(v.length < s.1.length→s.2.2 = 0)∧vl 4294967296 ((l.drop a).take s.1.length) + 4294967296 ^ s.1.length * (s.2.1 + s.2.2) = vl 4294967296 s.1 + q * vl 4294967296 (v.take s.1.length)) (Exists.intro (fun ⟨d,r,c⟩=>⟨[(0,.ob 1000 1000 (.vw .u32 (wn l a d) a b)),(1,.rd .u32 v),(2,.i .u64 q),(7,.i .u64 c),(8,.i .u32 r),(11,.i .i64 ((b - a:Nat):Int)),(12,.i .i64 d.length)],[]⟩) (Exists.intro (fun s=>v.length + 1 - s.1.length) (Exists.intro ([],0,0) (And.intro ⟨Dg.nil _,Nat.zero_le _,Nat.zero_le _,by decide,by simp,by simp [vl]⟩ (And.intro ?_ ?_)))))))))
  · (repeat' (first | exact trivial | exact Or.inl rfl | exact Or.inl ((by rw [wn_nil])) | refine And.intro ?_ ?_))
  · rintro ⟨d,r,c⟩ ⟨h1,h2,h3,h4,h5,h6⟩
    dsimp only at h1 h2 h3 h4 h5 h6
    refine And.intro (fun hc=>?_) (fun hc=>?_)
    · have hk : d.length < v.length + 1 := by have : (d.length : Int) < ((b - a : Nat) : Int) := of_decide_eq_true hc
                                              omega
      have hwl:(wn l a d).length = l.length:=wn_len (by omega)
      have e5:∀ t:Int,(wn l a d).set (a + d.length) t = wn l a (d++[t]):=wn_set (by omega)
      have e13:∀ t:Int,(d.length:Int) + 1 = ((d++[t]).length:Int):=fun t=>by simp
      obtain ⟨x,hx,hxl,hxn⟩:=get32 hl (a + d.length)
      have hwg:(wn l a d).getD (a + d.length) 0 = x:=by rw [wn_get (by omega),hx]
      have nx:∀ p y:Nat,q * (v.getD d.length 0).toNat = y→p = c + y→p / 4294967296 < 4294967296→(v.length≤d.length→p / 4294967296 = 0)→Dg 4294967296 (d++[(((x + 8589934592 - p % 4294967296 - r) % 4294967296:Nat):Int)])∧(if x < p % 4294967296 + r then 1 else 0)≤1∧(v.length < (d++[(((x + 8589934592 - p % 4294967296 - r) % 4294967296:Nat):Int)]).length→p / 4294967296 = 0)∧vl 4294967296 ((l.drop a).take (d++[(((x + 8589934592 - p % 4294967296 - r) % 4294967296:Nat):Int)]).length) + 4294967296 ^ (d++[(((x + 8589934592 - p % 4294967296 - r) % 4294967296:Nat):Int)]).length * ((if x < p % 4294967296 + r then 1 else 0) + p / 4294967296) = vl 4294967296 (d++[(((x + 8589934592 - p % 4294967296 - r) % 4294967296:Nat):Int)]) + q * vl 4294967296 (v.take (d++[(((x + 8589934592 - p % 4294967296 - r) % 4294967296:Nat):Int)]).length):=fun p y hy hp hpl hpz=>by
        refine ⟨h1.snoc ⟨by omega,by omega⟩,by split<;>omega,fun h=>hpz (by simpa using Nat.le_of_lt_succ (by simpa using h)),?_⟩
        rw [List.length_append,List.length_singleton,vl_take_succ,vl_take_succ,vl_snoc,win_get,hxn,Int.toNat_natCast,Nat.pow_succ,Nat.mul_add q,Nat.mul_left_comm q,hy]
        exact dig_sub h6 (by split<;>omega)
      intro _
      refine And.intro (fun hd=>?_) (fun hd=>?_)
      · have hd:d.length < v.length:=by simpa using hd
        obtain ⟨y,hy,hyl,hyn⟩:=get32 hv d.length
        obtain ⟨tv,tl⟩:=take_val hq hyl h4
        obtain ⟨p,hp⟩:∃ p,p = c + q * y:=⟨_,rfl⟩
        rw [← hp] at tv tl
        have nx:=nx p (q * y) (by rw [hyn]) hp tl (fun h=>by omega)
        have qs:=s_sub32 x (p % 4294967296) r hxl (Nat.mod_lt _ (by decide)) h3
        rw [← hy] at tv
        rw [← w32 p,← tv,← hwg] at qs
        refine And.intro ⟨by omega,by omega⟩ ?_
        refine And.intro ⟨by omega,by omega⟩ ?_
        refine Or.inl (Exists.intro _ (And.intro (qs) ?_))
        refine And.intro ⟨by omega,by omega⟩ ?_
        refine And.intro (by decide) ?_
        (refine And.intro (rng64 (by omega) (by omega)) ?_)
        refine Exists.intro [] (Exists.intro (d++[(((x + 8589934592 - p % 4294967296 - r) % 4294967296:Nat):Int)],(if x < p % 4294967296 + r then 1 else 0),p / 4294967296) (And.intro ⟨nx.1,by simp; omega,nx.2.1,tl,nx.2.2.1,nx.2.2.2⟩ (And.intro ?_ ?_)))
        · (repeat' (first | exact trivial | exact Or.inl rfl | exact Or.inl ((by first | exact congrArg (fun z=>AV.ob 1000 1000 (.vw .u32 z a b)) (e5 _) | exact congrArg (AV.i .i64) (e13 _) | exact congrArg (AV.i .u64) (by rw [← shr32,← tv]; rfl))) | refine And.intro ?_ ?_))
        · show v.length + 1 - (d++[_]).length < v.length + 1 - d.length
          simp; omega
      · have hd:v.length≤d.length:=by simpa using hd
        have nx:=nx c 0 (by obtain ⟨y,hy,hyl⟩:=get32' hv d.length hd; rw [hy,hyl]; rfl) rfl (by omega) (fun h=>by omega)
        have qs:=s_sub32 x (c % 4294967296) r hxl (Nat.mod_lt _ (by decide)) h3
        rw [← w32 c,← hwg] at qs
        refine And.intro ⟨by omega,by omega⟩ ?_
        refine Or.inl (Exists.intro _ (And.intro (qs) ?_))
        refine And.intro ⟨by omega,by omega⟩ ?_
        refine And.intro (by decide) ?_
        (refine And.intro (rng64 (by omega) (by omega)) ?_)
        refine Exists.intro [] (Exists.intro (d++[(((x + 8589934592 - c % 4294967296 - r) % 4294967296:Nat):Int)],(if x < c % 4294967296 + r then 1 else 0),c / 4294967296) (And.intro ⟨nx.1,by simp; omega,nx.2.1,by dsimp only; omega,nx.2.2.1,nx.2.2.2⟩ (And.intro ?_ ?_)))
        · (repeat' (first | exact trivial | exact Or.inl rfl | exact Or.inl ((by first | exact congrArg (fun z=>AV.ob 1000 1000 (.vw .u32 z a b)) (e5 _) | exact congrArg (AV.i .i64) (e13 _) | exact congrArg (AV.i .u64) (shr32 c))) | refine And.intro ?_ ?_))
        · show v.length + 1 - (d++[_]).length < v.length + 1 - d.length
          simp; omega
    · have hk : d.length = v.length + 1 := by have : ¬ (d.length : Int) < ((b - a : Nat) : Int) := of_decide_eq_false hc
                                              omega
      obtain rfl:=h5 (by omega)
      rw [hk,List.take_of_length_le (show v.length≤v.length + 1 by omega),Nat.add_zero] at h6
      have hdl:=vl_lt h1
      rw [hk] at hdl
      have hw:=vl_lt ((hl.drop a).take (v.length + 1))
      rw [List.length_take,List.length_drop,show min (v.length + 1) (l.length - a) = v.length + 1 by omega] at hw
      rw [show (l.drop a).take (v.length + 1) = win l a (v.length + 1) from rfl] at h6 hw
      generalize vl 4294967296 (win l a (v.length + 1)) = U at h6 hw
      generalize q * vl 4294967296 v = M at h6
      have hd:d = fx 4294967296 (v.length + 1) (U + 4294967296 ^ (v.length + 1) - M):=by
        rw [← fx_mod (by decide)]
        refine fx_eq (by decide) h1 hk ?_
        generalize 4294967296 ^ (v.length + 1) = P at h6 hw hdl
        rcases (show r = 0∨r = 1 by omega) with rfl | rfl
        · rw [show U + P - M = vl 4294967296 d + P by omega,Nat.add_mod_right,Nat.mod_eq_of_lt hdl]
        · rw [show U + P - M = vl 4294967296 d by omega,Nat.mod_eq_of_lt hdl]
      have hb:((r:Int) == 1) = decide (U < M):=by
        generalize 4294967296 ^ (v.length + 1) = P at h6 hw hdl
        rcases (show r = 0∨r = 1 by omega) with rfl | rfl
        · rw [decide_eq_false (by omega)]; rfl
        · rw [decide_eq_true (by omega)]; rfl
      exact And.intro (congrArg AV.b hb) (Exists.intro [] (And.intro (congrArg (fun z=>AV.ob 1000 1000 (.vw .u32 (wn l a z) a b)) hd) (by (repeat' (first | exact trivial | exact Or.inl rfl | exact Or.inr (Or.inl ⟨rfl,_,rfl⟩) | exact Or.inr (Or.inr (Or.inr ⟨_,_,_,rfl,rfl⟩)) | refine And.intro ?_ ?_)))))
theorem s_takes (l v:List Int) (a b q:Nat) (hl:Dg 4294967296 l) (hv:Dg 4294967296 v) (hab:a + (v.length + 1) = b) (hb:b≤l.length) (hll:l.length≤1000000) (hq:q < 4294967296):CSpecM Tryd.prog 145 [.ob 1000 1000 (.vw .u32 l a b),.rd .u32 v,.i .u64 q] [] (.b (decide (vl 4294967296 (win l a (v.length + 1)) < q * vl 4294967296 v))) 0 (.ob 1000 1000 (.vw .u32 (wn l a (fx 4294967296 (v.length + 1) (vl 4294967296 (win l a (v.length + 1)) + 4294967296 ^ (v.length + 1) - q * vl 4294967296 v))) a b)) [] :=
  cspecM_of_vc Γ_good Tryd.func145 rfl Tryd.call145 Tryd.results145 Tryd.ntmps145 (Nat.le_of_ble_eq_true rfl) (Nat.le_of_ble_eq_true rfl) (by rfl) (Nat.lt_of_lt_of_le (Nat.lt_succ_self _) (Nat.le_of_ble_eq_true rfl)) (by kernel_rfl) (w_takes l v a b q hl hv hab hb hll hq)
theorem w_gives (l v:List Int) (a b:Nat) (hl:Dg 4294967296 l) (hv:Dg 4294967296 v) (hab:a + (v.length + 1) = b) (hb:b≤l.length) (hll:l.length≤1000000):vc Tryd.prog Γ 34 [0,1,4,5,6,8,9,10,15,1000] (Tryd.f146.body.getD .skip) (postMK Γ [] (.tup []) 0 (.ob 1000 1000 (.vw .u32 (wn l a (fx 4294967296 (v.length + 1) (vl 4294967296 (win l a (v.length + 1)) + vl 4294967296 v))) a b)) []) ⟨argSlots 0 [.ob 1000 1000 (.vw .u32 l a b),.rd .u32 v],[]⟩:=by
  intro _
  refine Exists.intro [] (Exists.intro [] (Exists.intro [] (Exists.intro (List Int × Nat) (Exists.intro (fun s=>Dg 4294967296 s.1∧s.1.length≤v.length + 1∧s.2≤1∧vl 4294967296 s.1 + 4294967296 ^ s.1.length * s.2 = vl 4294967296 ((l.drop a).take s.1.length) + vl 4294967296 (v.take s.1.length)) (Exists.intro (fun ⟨d,c⟩=>⟨[(0,.ob 1000 1000 (.vw .u32 (wn l a d) a b)),(1,.rd .u32 v),(4,.i .u32 c),(8,.i .i64 ((b - a:Nat):Int)),(9,.i .i64 d.length)],[]⟩) (Exists.intro (fun s=>v.length + 1 - s.1.length) (Exists.intro ([],0) (And.intro ⟨Dg.nil _,Nat.zero_le _,Nat.zero_le _,by simp [vl]⟩ (And.intro ?_ ?_)))))))))
  · (repeat' (first | exact trivial | exact Or.inl rfl | exact Or.inl ((by rw [wn_nil])) | refine And.intro ?_ ?_))
  · rintro ⟨d,c⟩ ⟨h1,h2,h3,h4⟩
    dsimp only at h1 h2 h3 h4
    refine And.intro (fun hc=>?_) (fun hc=>?_)
    · have hk : d.length < v.length + 1 := by have : (d.length : Int) < ((b - a : Nat) : Int) := of_decide_eq_true hc
                                              omega
      have hwl:(wn l a d).length = l.length:=wn_len (by omega)
      have e5:∀ t:Int,(wn l a d).set (a + d.length) t = wn l a (d++[t]):=wn_set (by omega)
      have e13:∀ t:Int,(d.length:Int) + 1 = ((d++[t]).length:Int):=fun t=>by simp
      obtain ⟨x,hx,hxl,hxn⟩:=get32 hl (a + d.length)
      have hwg:(wn l a d).getD (a + d.length) 0 = x:=by rw [wn_get (by omega),hx]
      have nx:∀ y:Nat,y < 4294967296→v.getD d.length 0 = y→Dg 4294967296 (d++[(((x + y + c) % 4294967296:Nat):Int)])∧(x + y + c) / 4294967296≤1∧vl 4294967296 (d++[(((x + y + c) % 4294967296:Nat):Int)]) + 4294967296 ^ (d++[(((x + y + c) % 4294967296:Nat):Int)]).length * ((x + y + c) / 4294967296) = vl 4294967296 ((l.drop a).take (d++[(((x + y + c) % 4294967296:Nat):Int)]).length) + vl 4294967296 (v.take (d++[(((x + y + c) % 4294967296:Nat):Int)]).length):=fun y hyl hy=>by
        refine ⟨h1.snoc ⟨by omega,by omega⟩,by omega,?_⟩
        rw [List.length_append,List.length_singleton,vl_take_succ,vl_take_succ,vl_snoc,win_get,hxn,hy,Int.toNat_natCast,Int.toNat_natCast,Nat.pow_succ]
        exact dig_add h4 (by omega)
      intro _
      refine And.intro (fun hd=>?_) (fun hd=>?_)
      · have hd:d.length < v.length:=by simpa using hd
        obtain ⟨y,hy,hyl,_⟩:=get32 hv d.length
        have nx:=nx y hyl hy
        have qs:=s_add32 x y c hxl hyl h3
        rw [← hy,← hwg] at qs
        refine And.intro ⟨by omega,by omega⟩ ?_
        refine And.intro ⟨by omega,by omega⟩ ?_
        refine Or.inl (Exists.intro _ (And.intro (qs) ?_))
        refine And.intro ⟨by omega,by omega⟩ ?_
        (refine And.intro (rng64 (by omega) (by omega)) ?_)
        refine Exists.intro [] (Exists.intro (d++[(((x + y + c) % 4294967296:Nat):Int)],(x + y + c) / 4294967296) (And.intro ⟨nx.1,by simp; omega,nx.2.1,nx.2.2⟩ (And.intro ?_ ?_)))
        · (repeat' (first | exact trivial | exact Or.inl rfl | exact Or.inl ((by first | exact congrArg (fun z=>AV.ob 1000 1000 (.vw .u32 z a b)) (e5 _) | exact congrArg (AV.i .i64) (e13 _))) | refine And.intro ?_ ?_))
        · show v.length + 1 - (d++[_]).length < v.length + 1 - d.length
          simp; omega
      · have hd:v.length≤d.length:=by simpa using hd
        obtain ⟨y,hy,hyl⟩:=get32' hv d.length hd
        subst hyl
        have nx:=nx 0 (by decide) hy
        have qs:=s_add32 x 0 c hxl (by decide) h3
        rw [← hwg] at qs
        refine And.intro ⟨by omega,by omega⟩ ?_
        refine Or.inl (Exists.intro _ (And.intro (qs) ?_))
        refine And.intro ⟨by omega,by omega⟩ ?_
        (refine And.intro (rng64 (by omega) (by omega)) ?_)
        refine Exists.intro [] (Exists.intro (d++[(((x + 0 + c) % 4294967296:Nat):Int)],(x + 0 + c) / 4294967296) (And.intro ⟨nx.1,by simp; omega,nx.2.1,nx.2.2⟩ (And.intro ?_ ?_)))
        · (repeat' (first | exact trivial | exact Or.inl rfl | exact Or.inl ((by first | exact congrArg (fun z=>AV.ob 1000 1000 (.vw .u32 z a b)) (e5 _) | exact congrArg (AV.i .i64) (e13 _))) | refine And.intro ?_ ?_))
        · show v.length + 1 - (d++[_]).length < v.length + 1 - d.length
          simp; omega
    · have hk : d.length = v.length + 1 := by have : ¬ (d.length : Int) < ((b - a : Nat) : Int) := of_decide_eq_false hc
                                              omega
      rw [hk,List.take_of_length_le (show v.length≤v.length + 1 by omega)] at h4
      have hdl:=vl_lt h1
      rw [hk] at hdl
      have hd:d = fx 4294967296 (v.length + 1) (vl 4294967296 (win l a (v.length + 1)) + vl 4294967296 v):=by
        rw [← fx_mod (by decide)]
        refine fx_eq (by decide) h1 hk ?_
        rw [show win l a (v.length + 1) = (l.drop a).take (v.length + 1) from rfl,← h4,Nat.add_mul_mod_self_left,Nat.mod_eq_of_lt hdl]
      exact And.intro rfl (Exists.intro [] (And.intro (congrArg (fun z=>AV.ob 1000 1000 (.vw .u32 (wn l a z) a b)) hd) (by (repeat' (first | exact trivial | exact Or.inl rfl | exact Or.inr (Or.inl ⟨rfl,_,rfl⟩) | exact Or.inr (Or.inr (Or.inr ⟨_,_,_,rfl,rfl⟩)) | refine And.intro ?_ ?_)))))
theorem s_gives (l v:List Int) (a b:Nat) (hl:Dg 4294967296 l) (hv:Dg 4294967296 v) (hab:a + (v.length + 1) = b) (hb:b≤l.length) (hll:l.length≤1000000):CSpecM Tryd.prog 146 [.ob 1000 1000 (.vw .u32 l a b),.rd .u32 v] [] (.tup []) 0 (.ob 1000 1000 (.vw .u32 (wn l a (fx 4294967296 (v.length + 1) (vl 4294967296 (win l a (v.length + 1)) + vl 4294967296 v))) a b)) [] :=
  cspecM_of_vc Γ_good Tryd.func146 rfl Tryd.call146 Tryd.results146 Tryd.ntmps146 (Nat.le_of_ble_eq_true rfl) (Nat.le_of_ble_eq_true rfl) (by rfl) (Nat.lt_of_lt_of_le (Nat.lt_succ_self _) (Nat.le_of_ble_eq_true rfl)) (by kernel_rfl) (w_gives l v a b hl hv hab hb hll)
end
end Go.Proofs.YtgacojkkbjhjoaaDoor
end
section
namespace Go.Proofs.YtgacojkkbjhjoaaDoor
set_option linter.unusedSectionVars false
set_option linter.unusedSimpArgs false
set_option linter.unusedVariables false
open Go Go.SX Go.Bg
set_option maxRecDepth 100000
set_option maxHeartbeats 4000000
section
variable [G:Globs]
theorem w_leftO (m n:Nat) (hn:n < 32) (hll:(dg 4294967296 m).length≤1000000):vc Tryd.prog Γ 43 [0,1,4,5,6,8,13,14,15,16,37,1000] (Tryd.f60.body.getD .skip) (postBK Γ [.tmp 4] (.vec 1000 .u32 (dg 4294967296 (2 ^ n * m))) []) ⟨argSlots 0 [.rd .u32 (dg 4294967296 m),.i .i64 n],[]⟩:=by
  have hl:=dg_Dg b32 m
  have hv:=vl_dg b32 m
  have hge:0 < m→4294967296 ^ ((dg 4294967296 m).length - 1)≤m:=dg_ge b32
  have hm0:m = 0→(dg 4294967296 m).length = 0:=fun e=>by rw [e]; rfl
  generalize dg 4294967296 m = l at hl hv hge hll hm0
  intro _
  (refine And.intro (rng64 (by omega) (by omega)) ?_)
  refine And.intro ⟨by omega,by omega,by omega,by show (l.length + 2) * 4≤_; omega⟩ ?_
  intro _
  refine Exists.intro [] (Exists.intro [] (Exists.intro [] (Exists.intro (Nat × Nat × List Int) (Exists.intro (fun x=>x.1≤l.length∧x.2.2.length = x.1∧Dg 4294967296 x.2.2∧x.2.1 < 2 ^ n∧vl 4294967296 x.2.2 + 4294967296 ^ x.1 * x.2.1 = 2 ^ n * vl 4294967296 (l.take x.1)) (Exists.intro (fun ⟨k,c,o⟩=>⟨[(1,.i .i64 n),(5,.vec 12 .u32 o),(6,.i .u32 c),(13,.rd .u32 l),(14,.i .i64 l.length),(15,.i .i64 k)],[]⟩) (Exists.intro (fun x=>l.length - x.1) (Exists.intro (0,0,[]) (And.intro ⟨Nat.zero_le _,rfl,Dg.nil _,Nat.pow_pos (by decide),by simp [vl]⟩ (And.intro ?_ ?_)))))))))
  · (repeat' (first | exact trivial | exact Or.inl rfl | exact Or.inr (Or.inl ⟨rfl,_,rfl⟩) | exact Or.inr (Or.inr (Or.inr ⟨_,_,_,rfl,rfl⟩)) | refine And.intro ?_ ?_))
  · rintro ⟨k,c,o⟩ ⟨h1,h2,h3,h4,h5⟩
    dsimp only at h1 h2 h3 h4 h5
    refine And.intro (fun hc=>?_) (fun hc=>?_)
    · have hk : k < l.length := by have : (k : Int) < (l.length : Int) := of_decide_eq_true hc
                                   omega
      have g:=hl.getD (by decide) k
      obtain ⟨x,hx,hxn,hxl⟩:∃ x:Nat,l.getD k 0 = x∧(l.getD k 0).toNat = x∧x < 4294967296:=⟨(l.getD k 0).toNat,by omega,rfl,by omega⟩
      have nx:=left_next hn hxn hxl h2 h3 h4 h5
      refine And.intro ⟨by omega,by omega⟩ ?_
      refine And.intro (by rw [IntKind.wrap_u64]; omega) ?_
      refine And.intro (by show (o.length + 1) * 4≤_; omega) ?_
      (refine And.intro (rng64 (by omega) (by omega)) ?_)
      refine And.intro (by rw [IntKind.wrap_u64]; omega) ?_
      (refine And.intro (rng64 (by omega) (by omega)) ?_)
      have e1:=left_or (x:=x) hn h4
      have e2:=left_low hn hxl
      rw [← hx] at e1 e2
      refine Exists.intro [(27,12)] (Exists.intro (k + 1,x / 2 ^ (32 - n),o++[((2 ^ n * (x % 2 ^ (32 - n)) + c:Nat):Int)]) (And.intro ⟨hk,nx.1,nx.2.1,nx.2.2.1,nx.2.2.2⟩ (And.intro ?_ ?_)))
      · (repeat' (first | exact trivial | exact Or.inl rfl | exact Or.inl ((by first | exact congrArg (fun x:Int=>AV.vec 12 .u32 (o++[x])) e1 | exact congrArg (AV.i .u32) e2)) | refine And.intro ?_ ?_))
      · show l.length - (k + 1) < l.length - k
        omega
    · have hk : k = l.length := by have : ¬ (k : Int) < (l.length : Int) := of_decide_eq_false hc
                                   omega
      subst hk
      rw [List.take_length,hv] at h5
      refine And.intro (fun hd=>?_) (fun hd=>?_)
      · have hd : 0 < c := by have : (0 : Int) < (c : Int) := of_decide_eq_true hd
                              omega
        refine And.intro (by show (o.length + 1) * 4≤_; omega) ?_
        have hcw:c < 4294967296:=Nat.lt_of_lt_of_le h4 (Nat.pow_le_pow_right (i:=n) (j:=32) (by decide) (by omega))
        have hcan:=canon b32 (l:=o++[(c:Int)]) (h3.snoc ⟨by omega,by omega⟩) (by simp; omega)
        rw [vl_snoc,h2,Int.toNat_natCast,h5] at hcan
        exact Exists.intro [(41,1000)] (And.intro (congrArg (AV.vec 1000 .u32) hcan.symm) (by (repeat' (first | exact trivial | exact Or.inl rfl | exact Or.inr (Or.inl ⟨rfl,_,rfl⟩) | exact Or.inr (Or.inr (Or.inr ⟨_,_,_,rfl,rfl⟩)) | refine And.intro ?_ ?_))))
      · have hd : c = 0 := by have : ¬ (0 : Int) < (c : Int) := of_decide_eq_false hd
                              omega
        subst hd
        rw [Nat.mul_zero,Nat.add_zero] at h5
        have hcan:=canonLen b32 h3 (by
          rcases Nat.eq_zero_or_pos m with h | h
          · exact .inl (List.eq_nil_of_length_eq_zero (by rw [h2]; exact hm0 h))
          · refine .inr ?_
            rw [h5,h2]
            have h6:=hge h
            have h7:1 * m≤2 ^ n * m:=Nat.mul_le_mul_right _ (Nat.pow_pos (by decide))
            omega)
        rw [h5] at hcan
        exact Exists.intro [(12,1000)] (And.intro (congrArg (AV.vec 1000 .u32) hcan.symm) (by (repeat' (first | exact trivial | exact Or.inl rfl | exact Or.inr (Or.inl ⟨rfl,_,rfl⟩) | exact Or.inr (Or.inr (Or.inr ⟨_,_,_,rfl,rfl⟩)) | refine And.intro ?_ ?_))))
theorem s_leftO (m n:Nat) (hn:n < 32) (hll:(dg 4294967296 m).length≤1000000):CSpec Tryd.prog 60 [.rd .u32 (dg 4294967296 m),.i .i64 n] [] (.vec 1000 .u32 (dg 4294967296 (2 ^ n * m))) [] :=
  cspec_of_vc Γ_good Tryd.func60 rfl Tryd.call60 Tryd.results60 Tryd.ntmps60 (Nat.le_of_ble_eq_true rfl) (Nat.le_of_ble_eq_true rfl) (by rfl) (w_leftO m n hn hll)
end
end Go.Proofs.YtgacojkkbjhjoaaDoor
end
section
namespace Go.SX
set_option linter.unusedSectionVars false
variable [Globs]
def subC:List Nat→Code→Code
  | 0::r,.seq x _=>subC r x
  | 1::r,.seq _ y=>subC r y
  | 0::r,.cond _ x _=>subC r x
  | 1::r,.cond _ _ y=>subC r y
  | _::r,.block _ c=>subC r c
  | _::r,.loop c=>subC r c
  | _,c=>c
section
variable {P:Program} {N:Nat} {Γ:Ctx} {L:List Nat} {s:St}
theorem VCs.loop {c:Code} {Q:Exit→St→Prop} (h:LoopVC N (fun Q s=>VCs P Γ N L c Q s) Q s):VCs P Γ N L (.loop c) Q s:=⟨fun W0 F X Q' a w hQ ⟨β,hI⟩=>by
  obtain ⟨cv,cb,rn,h⟩:=h
  obtain ⟨s00,β00,h,hI00⟩:=nlVec_ok cv hI h
  obtain ⟨s0,β0,h,hI0⟩:=nlBox_ok cb hI00 h
  obtain ⟨s1,β1,⟨σ,I,S,μ,x,hix,hwk,hround⟩,hI1⟩:=renSt_ok rn hI0 h
  refine wp_loop' (fun x a w=>I x∧Inv W0 F X N (S x) a w) μ (fun x a w hIx=>?_) (x:=x) ⟨hix,β1,hI1.wk hwk⟩
  refine (hround x hIx.1).ok W0 F X _ a w (fun e s' a' w' hq hI'=>?_) hIx.2
  cases e with
  | normal =>
    obtain ⟨rn,hq⟩:=hq
    obtain ⟨β',hI'⟩:=hI'
    obtain ⟨s2,β2,⟨x',h0,h1,h2⟩,hI2⟩:=renSt_ok rn hI' hq
    exact ⟨x',⟨h0,β2,hI2.wk h1⟩,h2⟩
  | _=>exact hQ _ _ _ _ hq hI'⟩
end
end Go.SX
end
section
namespace Go.Proofs.YtgacojkkbjhjoaaDoor
set_option linter.unusedSectionVars false
set_option linter.unusedSimpArgs false
set_option linter.unusedVariables false
open Go Go.SX Go.Bg
set_option maxRecDepth 100000
set_option maxHeartbeats 4000000
theorem or64 {r u:Nat} (h1:r < 4294967296) (h2:u < 4294967296):bits .or .u64 (IntKind.u64.wrap ((r:Int) * 2 ^ (min (Int.toNat 32) IntKind.u64.bits))) (IntKind.u64.wrap (u:Int)) = ((r * 4294967296 + u:Nat):Int):=by
  have h:=div32_or h1 h2
  rwa [show IntKind.u64.wrap (r:Int) = r by rw [IntKind.wrap_u64]; omega] at h
theorem mul64 {g n:Nat} (h1:g < 4294967296) (h2:n < 4294967296):IntKind.u64.wrap ((g:Int) * n) = ((g * n:Nat):Int):=by
  have h:g * n≤4294967295 * 4294967295:=Nat.mul_le_mul (by omega) (by omega)
  rw [show (g:Int) * (n:Int) = ((g * n:Nat):Int) from rfl]
  generalize g * n = p at h
  rw [IntKind.wrap_u64]
  omega
theorem dlt_true {a b:Nat} (h:decide ((a:Int) < (b:Int)) = true):a < b:=Int.ofNat_lt.1 (of_decide_eq_true h)
theorem dlt_false {a b:Nat} (h:decide ((a:Int) < (b:Int)) = false):b≤a:=Nat.le_of_not_lt fun h2=>of_decide_eq_false h (Int.ofNat_lt.2 h2)
theorem shr_true {t:Nat} (h:decide ((0:Int) < ((t / 4294967296:Nat):Int)) = true):4294967296≤t:=by have:=dlt_true (a:=0) h; omega
theorem shr_false {t:Nat} (h:decide ((0:Int) < ((t / 4294967296:Nat):Int)) = false):t < 4294967296:=by have:=dlt_false (a:=0) h; omega
theorem dec64 {g:Nat} (h0:0 < g) (h:g < 18446744073709551616):IntKind.u64.wrap ((g:Int) - 1) = ((g - 1:Nat):Int):=by rw [IntKind.wrap_u64]; omega
theorem sum64 {r t:Nat} (h0:r < 4294967296) (h:t < 4294967296):IntKind.u64.wrap ((r:Int) + t) = ((r + t:Nat):Int):=by rw [IntKind.wrap_u64]; omega
theorem inner_next {g r t two:Nat} (h:g * t + r = two) (hg:0 < g):(g - 1) * t + (r + t) = two:=by
  obtain ⟨g,rfl⟩:∃ g',g = g' + 1:=⟨g - 1,by omega⟩
  rw [Nat.add_mul] at h
  rw [Nat.add_sub_cancel]
  omega
theorem mul_one_le {g t two r:Nat} (h:g * t + r = two) (ht:0 < t):g≤two:=by
  have:=Nat.mul_le_mul_left g (show 1≤t from ht)
  omega
section
variable [G:Globs]
theorem long_in {x v q : List Int} {s p k tp nx u0 u1 u2 two U V P ul vl0 : Nat} (hxl : p + k + 3 ≤ x.length) (hxm : x.length ≤ 1000000) (hvl : v.length = k + 2) (hu0 : x.getD (p + k) 0 = u0) (hu0l : u0 < 4294967296) (hu1l : u1 < 4294967296) (hu2t : u2 ≤ tp) (hnxl : nx < 4294967296) (htpl : tp < 4294967296) (htp0 : 0 < tp)
    (hw3:U = ul + P * (u0 + 4294967296 * (u1 + 4294967296 * u2))) (hwlo:ul < P) (hVd:V = vl0 + P * (nx + 4294967296 * tp)) (hlo:vl0 < P) (hU:U < 4294967296 * V) (hV0:0 < V) (hTW:u1 + 4294967296 * u2 = two) (htw:two < 18446744073709551616) (hq0:U / V≤two / tp) (Q:Exit→St→Prop) :
    VCs Tryd.prog Γ 147 [0,1,4,5,6,7,8,9,10,11,12,13,14,15,56,104,112,123] (subC [1,1,1,1,1,1,0,1,0,0,1,0,0,1,1,0] (Tryd.f107.body.getD .skip)) (fun e s'=>match e with
      | .normal=>∃ g:Nat,(g < 4294967296∧U / V≤g∧g≤U / V + 1)∧Wk s' ⟨[(6,.i .i64 s),(7,.rd .u32 v),(8,.vec 31 .u32 x),(9,.vec 37 .u32 q),(10,.i .u64 tp),(11,.i .u64 nx),(12,.i .i64 p),(14,.i .u64 (g:Nat))],[]⟩
      | e=>Q e s') ⟨[(6,.i .i64 s),(7,.rd .u32 v),(8,.vec 31 .u32 x),(9,.vec 37 .u32 q),(10,.i .u64 tp),(11,.i .u64 nx),(12,.i .i64 p),(14,.i .u64 ((two / tp:Nat):Int)),(15,.i .u64 ((two % tp:Nat):Int))],[]⟩:=by
  have hdm:=Nat.div_add_mod two tp
  have hml:=Nat.mod_lt two (show tp > 0 by omega)
  refine VCs.of_vc (by first | exact Γ_good | exact Ctx.good_kp Γ_good _) ?_
  refine Exists.intro [] (Exists.intro [] (Exists.intro [] (Exists.intro (Nat × Nat) (Exists.intro (fun y=>y.1 * tp + y.2 = two∧y.2 < 4294967296∧U / V≤y.1) (Exists.intro (fun ⟨g,r⟩=>⟨[(6,.i .i64 s),(7,.rd .u32 v),(8,.vec 31 .u32 x),(9,.vec 37 .u32 q),(10,.i .u64 tp),(11,.i .u64 nx),(12,.i .i64 p),(14,.i .u64 (g:Nat)),(15,.i .u64 (r:Nat))],[]⟩) (Exists.intro (fun y=>y.1) (Exists.intro (two / tp,two % tp) (And.intro ⟨by dsimp only; rw [Nat.mul_comm]; exact hdm,by dsimp only; omega,hq0⟩ (And.intro ?_ ?_)))))))))
  · (repeat' (first | exact trivial | exact Or.inl rfl | exact Or.inr (Or.inl ⟨rfl,_,rfl⟩) | exact Or.inr (Or.inr (Or.inr ⟨_,_,_,rfl,rfl⟩)) | refine And.intro ?_ ?_))
  rintro ⟨g,r⟩ ⟨j1,j2,j3⟩
  dsimp only at j1 j2 j3
  have hg1:g≤two:=mul_one_le j1 htp0
  have ex0:x.getD ((p:Int) + v.length - 2).toNat (dflt .u32) = u0:=by rw [show ((p:Int) + v.length - 2).toNat = p + k by omega]; exact hu0
  refine And.intro (by decide) ?_
  refine And.intro (fun hh=>?_) (fun hh=>?_)
  · have hh:g < 4294967296:=by rw [shr32] at hh; exact shr_false hh
    have em:=mul64 hh hnxl
    have eo:=or64 j2 hu0l
    rw [← ex0] at eo
    generalize hz:r * 4294967296 + u0 = z at eo
    generalize hy:g * nx = y at em
    refine And.intro (by decide) ?_
    intro _
    (refine And.intro (rng64 (by omega) (by omega)) ?_)
    (refine And.intro (rng64 (by omega) (by omega)) ?_)
    refine And.intro ⟨by omega,by omega⟩ ?_
    refine And.intro (fun hd=>?_) (fun hd=>?_)
    rotate_left
    · rw [em,eo,cond_false] at hd
      have hd:=dlt_false hd
      have b3:=guess_end hw3 hwlo hVd hlo htp0 hh (j1.trans hTW.symm) (by rw [hz,hy]; exact hd)
      refine Exists.intro g (And.intro ⟨hh,j3,b3⟩ ?_)
      (repeat' (first | exact trivial | exact Or.inl rfl | exact Or.inr (Or.inl ⟨rfl,_,rfl⟩) | exact Or.inr (Or.inr (Or.inr ⟨_,_,_,rfl,rfl⟩)) | refine And.intro ?_ ?_))
    rw [em,eo,cond_false] at hd
    have hd:=dlt_true hd
    have hlt:=guess_more hw3 hwlo hVd hlo (j1.trans hTW.symm) (by rw [hz,hy]; exact hd)
    have hg0:0 < g:=Nat.lt_of_le_of_lt (Nat.zero_le _) hlt
    have eg:=dec64 hg0 (Nat.lt_of_le_of_lt hg1 htw)
    have er:=sum64 j2 htpl
    have jj:=inner_next j1 hg0
    have hlt1:U / V≤g - 1:=Nat.le_sub_one_of_lt hlt
    refine And.intro (by decide) ?_
    refine And.intro (fun he=>?_) (fun he=>?_)
    · rw [er,shr32] at he
      have he:=shr_true he
      obtain ⟨b1,b2⟩:=guess_break (u0:=u0) hu1l hu2t hnxl (jj.trans hTW.symm) he
      have b3:=guess_end hw3 hwlo hVd hlo htp0 b1 (jj.trans hTW.symm) b2
      refine Exists.intro (g - 1) (And.intro ⟨b1,hlt1,b3⟩ ?_)
      (repeat' (first | exact trivial | exact Or.inl rfl | exact Or.inl ((congrArg (AV.i .u64) eg)) | refine And.intro ?_ ?_))
    · rw [er,shr32] at he
      have he:=shr_false he
      refine Exists.intro [] (Exists.intro (g - 1,r + tp) (And.intro ⟨jj,he,hlt1⟩ (And.intro ?_ ?_)))
      · (repeat' (first | exact trivial | exact Or.inl rfl | exact Or.inl ((by first | exact congrArg (AV.i .u64) eg | exact congrArg (AV.i .u64) er)) | refine And.intro ?_ ?_))
      · exact Nat.sub_lt hg0 (by decide)
  · have hh:4294967296≤g:=by rw [shr32] at hh; exact shr_true hh
    have hlt:U / V < g:=Nat.lt_of_lt_of_le ((Nat.div_lt_iff_lt_mul hV0).2 hU) hh
    refine And.intro (fun _=>?_) (fun h9=>absurd h9 (by decide))
    have hg0:0 < g:=Nat.lt_of_le_of_lt (Nat.zero_le _) hlt
    have eg:=dec64 hg0 (Nat.lt_of_le_of_lt hg1 htw)
    have er:=sum64 j2 htpl
    have jj:=inner_next j1 hg0
    have hlt1:U / V≤g - 1:=Nat.le_sub_one_of_lt hlt
    refine And.intro (by decide) ?_
    refine And.intro (fun he=>?_) (fun he=>?_)
    · rw [er,shr32] at he
      have he:=shr_true he
      obtain ⟨b1,b2⟩:=guess_break (u0:=u0) hu1l hu2t hnxl (jj.trans hTW.symm) he
      have b3:=guess_end hw3 hwlo hVd hlo htp0 b1 (jj.trans hTW.symm) b2
      refine Exists.intro (g - 1) (And.intro ⟨b1,hlt1,b3⟩ ?_)
      (repeat' (first | exact trivial | exact Or.inl rfl | exact Or.inl ((congrArg (AV.i .u64) eg)) | refine And.intro ?_ ?_))
    · rw [er,shr32] at he
      have he:=shr_false he
      refine Exists.intro [] (Exists.intro (g - 1,r + tp) (And.intro ⟨jj,he,hlt1⟩ (And.intro ?_ ?_)))
      · (repeat' (first | exact trivial | exact Or.inl rfl | exact Or.inl ((by first | exact congrArg (AV.i .u64) eg | exact congrArg (AV.i .u64) er)) | refine And.intro ?_ ?_))
      · exact Nat.sub_lt hg0 (by decide)
end
end Go.Proofs.YtgacojkkbjhjoaaDoor
end
section
namespace Go.Proofs.YtgacojkkbjhjoaaDoor
set_option linter.unusedSectionVars false
set_option linter.unusedSimpArgs false
set_option linter.unusedVariables false
open Go Go.SX Go.Bg
set_option maxRecDepth 100000
set_option maxHeartbeats 4000000
theorem wrap32_lt {n:Nat} (h:n < 4294967296):IntKind.u32.wrap (n:Int) = n:=by rw [IntKind.wrap_u32]; omega
theorem sub_dist {U P M D R:Nat} (h1:M = D) (h2:D + R = U):U + P - M = R + P:=by omega
section
variable [G:Globs]
theorem w_long (m n k:Nat) (hk:(dg 4294967296 n).length = k + 2) (hm:(dg 4294967296 m).length≤100000) (hmn:n≤m):VCs Tryd.prog Γ 147 [0,1,4,5,6,7,8,9,10,11,12,13,14,15,56,104,112,123] (Tryd.f107.body.getD .skip) (postK Γ [.tmp 4,.tmp 5] (fun v=>v = .tup [.rd .u32 (dg 4294967296 (m / n)),.rd .u32 (dg 4294967296 (m % n))])) ⟨argSlots 0 [.rd .u32 (dg 4294967296 m),.rd .u32 (dg 4294967296 n)],[]⟩:=by
  obtain ⟨t,ht0,htl,ht,hbl⟩:=dg_top hk
  have hbt:=bl_le htl
  have hn:0 < n:=by
    rcases Nat.eq_zero_or_pos n with h | h
    · subst h; simp at hk
    · exact h
  have hnm:(dg 4294967296 n).length≤(dg 4294967296 m).length:=by
    rcases Nat.lt_or_ge (dg 4294967296 m).length (dg 4294967296 n).length with h | h
    · have:=less_len h; omega
    · exact h
  have hbt1:0 < bl t:=by obtain ⟨j,j1,_⟩:=bl_bounds ht0; omega
  obtain ⟨s,hs⟩:∃ s,bl t + s = 32:=⟨32 - bl t,by omega⟩
  obtain ⟨hV1,hV2,hVl⟩:=norm_len (n:=n) (k:=k) (s:=s) hn (by omega)
  have hUV:2 ^ s * n≤2 ^ s * m:=Nat.mul_le_mul_left _ hmn
  have hUl:(dg 4294967296 (2 ^ s * m)).length≤(dg 4294967296 m).length + 1:=dg_len_le b32 _ _ (by
    rw [Nat.pow_succ,Nat.mul_comm]
    have h1:m < 4294967296 ^ (dg 4294967296 m).length:=dg_lt_pow b32 m
    have h2:2 ^ s≤4294967296:=Nat.pow_le_pow_right (n:=2) (i:=s) (j:=32) (by decide) (by omega)
    exact Nat.lt_of_le_of_lt (Nat.mul_le_mul_left m h2) (Nat.mul_lt_mul_of_pos_right h1 (by decide)))
  have hUl2:(dg 4294967296 (2 ^ s * n)).length≤(dg 4294967296 (2 ^ s * m)).length:=by
    rcases Nat.lt_or_ge (dg 4294967296 (2 ^ s * m)).length (dg 4294967296 (2 ^ s * n)).length with h | h
    · have:=less_len h; omega
    · exact h
  have qv:=s_left n s (by omega) (by omega)
  have qu:=s_leftO m s (by omega) (by omega)
  have ql:=s_lead32 t htl
  rw [bitLen_bl (by omega),← ht,show (32:Int) - (bl t:Int) = (s:Int) by omega,← show ((dg 4294967296 n).length - 1:Int).toNat = k + 1 by omega] at ql
  refine VCs.seq (by first | exact Γ_good | exact Ctx.good_kp Γ_good _) ?_
  refine VCs.seq (by first | exact Γ_good | exact Ctx.good_kp Γ_good _) ?_
  intro _
  (refine And.intro (rng64 (by omega) (by omega)) ?_)
  refine And.intro ⟨by omega,by omega⟩ ?_
  refine Or.inl (Exists.intro _ (And.intro (ql) ?_))
  refine VCs.seq (by first | exact Γ_good | exact Ctx.good_kp Γ_good _) ?_
  refine Or.inl (Exists.intro _ (And.intro (qv) ?_))
  refine Or.inr (Or.inl (Exists.intro [] (Exists.intro _ (Exists.intro _ (Exists.intro _ (Exists.intro _ (Exists.intro _ (Exists.intro [(1000,28)] (And.intro (qu) ?_)))))))))
  refine (And.intro rfl (And.intro rfl (And.intro rfl (And.intro rfl ?_))))
  have gv:=dg_Dg b32 (2 ^ s * n)
  have ev:=vl_dg b32 (2 ^ s * n)
  have gu:=dg_Dg b32 (2 ^ s * m)
  have eu:=vl_dg b32 (2 ^ s * m)
  generalize dg 4294967296 (2 ^ s * n) = v at gv ev hVl hUl2
  generalize dg 4294967296 (2 ^ s * m) = u at gu eu hUl hUl2
  refine VCs.cut (by first | exact Γ_good | exact Ctx.good_kp Γ_good _) (List Int) (fun x=>x = u++[(0:Int)]) (fun x=>⟨[(6,.i .i64 s),(7,.rd .u32 v),(8,.vec 31 .u32 x)],[]⟩) ?_ ?_
  · refine And.intro (by show (u.length + 1) * 4≤_; omega) ?_
    refine Exists.intro (u++[(0:Int)]) (And.intro rfl ?_)
    (repeat' (first | exact trivial | exact Or.inl rfl | exact Or.inr (Or.inl ⟨rfl,_,rfl⟩) | exact Or.inr (Or.inr (Or.inr ⟨_,_,_,rfl,rfl⟩)) | refine And.intro ?_ ?_))
  have hul:(u++[(0:Int)]).length = u.length + 1:=by simp
  have gu0:Dg 4294967296 (u++[(0:Int)]):=gu.snoc ⟨by decide,by decide⟩
  have eu0:vl 4294967296 (u++[(0:Int)]) = 2 ^ s * m:=by rw [vl_snoc,eu]; simp
  have hdl:(u++[(0:Int)]).drop u.length = [0]:=by simp
  rintro x rfl
  refine VCs.seq (by first | exact Γ_good | exact Ctx.good_kp Γ_good _) ?_
  intro _
  intro _
  (refine And.intro (rng64 (by omega) (by omega)) ?_)
  refine And.intro ⟨by omega,Int.le_refl _,by omega,by show (((u++[(0:Int)]).length:Int) - v.length).toNat * 4≤_; omega⟩ ?_
  obtain ⟨tp,htp,htpl,htpn⟩:=get32 gv (k + 1)
  obtain ⟨nx,hnx,hnxl,hnxn⟩:=get32 gv k
  have hVd:=vl_two (B:=4294967296) hVl
  rw [hnxn,htpn,ev] at hVd
  have hlo:=vl_lt (gv.take k)
  rw [List.length_take,show min k v.length = k by omega] at hlo
  have htop:2147483648≤tp:=by
    rcases Nat.lt_or_ge tp 2147483648 with h | h
    · exfalso
      have h3:4294967296 ^ k * (nx + 4294967296 * tp) + 4294967296 ^ k≤4294967296 ^ k * (4294967296 * 2147483648):=by
        rw [← Nat.mul_succ]
        exact Nat.mul_le_mul_left _ (by omega)
      rw [Nat.pow_succ,Nat.mul_assoc] at hV2
      omega
    · exact h
  refine VCs.seq (by first | exact Γ_good | exact Ctx.good_kp Γ_good _) ?_
  refine Exists.intro [.take 0,.take 1,.take 2,.take 3,.take 4,.take 7,.take 8,.take 9,.blk [5,6,10,11,12,13,14,15]] (And.intro (by kernel_rfl) ?_)
  (repeat' (first | (refine And.intro (fun h=>?_) (fun h=>?_)<;>(try simp [-List.getD_eq_getElem?_getD,-Int.pred_toNat] at h)<;>(try (exfalso; first | omega | contradiction))) | (refine And.intro (rng64 (by omega) (by omega)) ?_) | (refine And.intro ⟨by omega,by omega⟩ ?_) | (refine And.intro ⟨by omega,by omega,by omega⟩ ?_) | (intro _)))
  generalize hVe:2 ^ s * n = V at *
  generalize hUe:2 ^ s * m = U0 at *
  have hrl:(List.replicate (((u++[(0:Int)]).length:Int) - v.length).toNat (0:Int)).length = u.length + 1 - (k + 2):=by rw [List.length_replicate]; omega
  refine VCs.seqS ?_
  refine VCs.seq (by first | exact Γ_good | exact Ctx.good_kp Γ_good _) ?_
  intro _
  (refine And.intro (rng64 (by omega) (by omega)) ?_)
  refine VCs.block ?_
  have hr0:vl 4294967296 ((u++[(0:Int)]).drop (u.length + 1 - (k + 2))) < V:=by
    rw [List.drop_append_of_le_length (by omega),vl_snoc,Int.toNat_zero,Nat.mul_zero,Nat.add_zero]
    have h1:=vl_lt (gu.drop (u.length + 1 - (k + 2)))
    rw [List.length_drop,show u.length - (u.length + 1 - (k + 2)) = k + 1 by omega] at h1
    refine Nat.lt_of_lt_of_le h1 (Nat.le_trans ?_ hV2)
    omega
  refine VCs.loop ?_
  refine Exists.intro [] (Exists.intro [] (Exists.intro [] (Exists.intro (Int × List Int × List Int) (Exists.intro (fun x=>-1≤x.1∧x.1 < x.2.2.length∧x.2.1.length = u.length + 1∧x.2.2.length = u.length + 1 - (k + 2)∧Dg 4294967296 x.2.1∧Dg 4294967296 x.2.2∧vl 4294967296 (x.2.1.drop (x.1 + 1).toNat) < V∧4294967296 ^ (x.1 + 1).toNat * vl 4294967296 (x.2.2.drop (x.1 + 1).toNat) * V + vl 4294967296 x.2.1 = U0) (Exists.intro (fun ⟨j,x,q⟩=>⟨[(6,.i .i64 s),(7,.rd .u32 v),(8,.vec 31 .u32 x),(9,.vec 37 .u32 q),(10,.i .u64 tp),(11,.i .u64 nx),(12,.i .i64 j)],[]⟩) (Exists.intro (fun x=>(x.1 + 1).toNat) (Exists.intro (((List.replicate (((u++[(0:Int)]).length:Int) - v.length).toNat (0:Int)).length:Int) - 1,u++[(0:Int)],List.replicate (((u++[(0:Int)]).length:Int) - v.length).toNat (0:Int)) (And.intro ⟨by dsimp only; omega,by dsimp only; omega,hul,hrl,gu0,Dg.replicate (by decide) _,by dsimp only; rw [hrl,show (((u.length + 1 - (k + 2):Nat):Int) - 1 + 1).toNat = u.length + 1 - (k + 2) by omega]; exact hr0,by dsimp only; rw [hrl,show (((u.length + 1 - (k + 2):Nat):Int) - 1 + 1).toNat = u.length + 1 - (k + 2) by omega,List.drop_of_length_le (by omega),eu0]; simp [vl]⟩ (And.intro ?_ ?_)))))))))
  · have eg1:IntKind.u64.wrap (v.getD (((v.length:Int) - 1).toNat) (dflt .u32)) = tp:=by rw [show ((v.length:Int) - 1).toNat = k + 1 by omega,show v.getD (k + 1) (dflt .u32) = tp from htp,IntKind.wrap_u64]; omega
    have eg2:IntKind.u64.wrap (v.getD (((v.length:Int) - 2).toNat) (dflt .u32)) = nx:=by rw [show ((v.length:Int) - 2).toNat = k by omega,show v.getD k (dflt .u32) = nx from hnx,IntKind.wrap_u64]; omega
    (repeat' (first | exact trivial | exact Or.inl rfl | exact Or.inl ((by first | exact congrArg (AV.i .u64) eg1 | exact congrArg (AV.i .u64) eg2)) | refine And.intro ?_ ?_))
  rintro ⟨j,x,q⟩ ⟨i1,i2,i3,i4,i5,i6,i7,i8⟩
  dsimp only at i1 i2 i3 i4 i5 i6 i7 i8
  refine VCs.seq (by first | exact Γ_good | exact Ctx.good_kp Γ_good _) ?_
  refine And.intro (fun hc=>?_) (fun hc=>?_)
  · obtain ⟨p,rfl⟩:=nn_of hc
    clear hc
    rw [show ((p:Int) + 1).toNat = p + 1 by omega] at i7 i8
    obtain ⟨hU,hstep⟩:=long_step (k:=k) (by decide) i5 (by omega) (by omega) hV1 i7 i8
    obtain ⟨u0,hu0,hu0l,hu0n⟩:=get32 i5 (p + k)
    obtain ⟨u1,hu1,hu1l,hu1n⟩:=get32 i5 (p + (k + 1))
    obtain ⟨u2,hu2,hu2l,hu2n⟩:=get32 i5 (p + (k + 2))
    have gw:=(i5.drop p).take (k + 3)
    have hwl:((x.drop p).take (k + 3)).length = k + 3:=by rw [List.length_take,List.length_drop]; omega
    have hw3:=vl_three (B:=4294967296) hwl
    have hwlo:=vl_lt (gw.take k)
    rw [List.length_take,hwl,show min k (k + 3) = k by omega] at hwlo
    have hg:∀ t,t < k + 3→((x.drop p).take (k + 3)).getD t 0 = x.getD (p + t) 0:=fun t ht=>by
      rw [List.getD_eq_getElem?_getD,List.getElem?_take,if_pos ht,List.getElem?_drop,← List.getD_eq_getElem?_getD]
    rw [hg k (by omega),hg (k + 1) (by omega),hg (k + 2) (by omega),hu0n,hu1n,hu2n] at hw3
    generalize hUw:vl 4294967296 ((x.drop p).take (k + 3)) = U at hU hstep hw3
    have hV0:0 < V:=Nat.lt_of_le_of_lt (Nat.zero_le _) i7
    have htp0:0 < tp:=Nat.lt_of_lt_of_le (by decide) htop
    have hu2t:=guess_top hw3 hwlo hVd hlo hnxl hU
    have hq0:=guess_init hw3 hwlo hVd hlo hu0l (by omega)
    have e9:=div32_or hu2l hu1l
    refine VCs.seqS ?_
    refine VCs.block ?_
    refine VCs.cut (by first | exact Γ_good | exact Ctx.good_kp Γ_good _) Unit (fun _=>True) (fun _=>⟨[(6,.i .i64 s),(7,.rd .u32 v),(8,.vec 31 .u32 x),(9,.vec 37 .u32 q),(10,.i .u64 tp),(11,.i .u64 nx),(12,.i .i64 p),(13,.i .u64 ((u1 + 4294967296 * u2:Nat):Int))],[]⟩) ?_ ?_
    · refine Exists.intro [.take 0,.take 1,.take 2,.take 3,.take 4,.take 5,.take 9,.take 10,.take 11,.take 12,.blk [6,7,8,13,14,15,16,17,18,19]] (And.intro (by kernel_rfl) ?_)
      (repeat' (first | (refine And.intro (fun h=>?_) (fun h=>?_)<;>(try simp [-List.getD_eq_getElem?_getD,-Int.pred_toNat] at h)<;>(try (exfalso; first | omega | contradiction))) | (refine And.intro (rng64 (by omega) (by omega)) ?_) | (refine And.intro ⟨by omega,by omega⟩ ?_) | (refine And.intro ⟨by omega,by omega,by omega⟩ ?_) | (intro _)))
      refine And.intro (by decide) ?_
      (repeat' (first | (refine And.intro (fun h=>?_) (fun h=>?_)<;>(try simp [-List.getD_eq_getElem?_getD,-Int.pred_toNat] at h)<;>(try (exfalso; first | omega | contradiction))) | (refine And.intro (rng64 (by omega) (by omega)) ?_) | (refine And.intro ⟨by omega,by omega⟩ ?_) | (refine And.intro ⟨by omega,by omega,by omega⟩ ?_) | (intro _)))
      have ex2:x.getD ((p:Int) + v.length).toNat (dflt .u32) = u2:=by rw [show ((p:Int) + v.length).toNat = p + (k + 2) by omega]; exact hu2
      have ex1:x.getD ((p:Int) + v.length - 1).toNat (dflt .u32) = u1:=by rw [show ((p:Int) + v.length - 1).toNat = p + (k + 1) by omega]; exact hu1
      refine Exists.intro () (And.intro trivial ?_)
      (repeat' (first | exact trivial | exact Or.inl rfl | exact Or.inl ((congrArg (AV.i .u64) (by rw [ex2,ex1]; exact e9.trans (congrArg Int.ofNat (by omega))))) | refine And.intro ?_ ?_))
    rintro _ _
    have htw:u1 + 4294967296 * u2 < 18446744073709551616:=by omega
    generalize hTW:u1 + 4294967296 * u2 = two at hq0 htw
    refine VCs.cut (by first | exact Γ_good | exact Ctx.good_kp Γ_good _) Unit (fun _=>True) (fun _=>⟨[(6,.i .i64 s),(7,.rd .u32 v),(8,.vec 31 .u32 x),(9,.vec 37 .u32 q),(10,.i .u64 tp),(11,.i .u64 nx),(12,.i .i64 p),(14,.i .u64 ((two / tp:Nat):Int)),(15,.i .u64 ((two % tp:Nat):Int))],[]⟩) ?_ ?_
    · refine Exists.intro [.blk [0,1,2,3,4,5,6,7]] (And.intro (by kernel_rfl) ?_)
      have hdt:two / tp≤two:=Nat.div_le_self _ _
      refine And.intro (by omega) ?_
      refine And.intro ⟨by rw [tdivN]; exact Int.natCast_nonneg _,by rw [tdivN]; exact Int.ofNat_le.2 (show two / tp≤18446744073709551615 by omega)⟩ ?_
      (conv=>whnf)
      refine And.intro (by omega) ?_
      refine Exists.intro () (And.intro trivial ?_)
      (repeat' (first | exact trivial | exact Or.inl rfl | exact Or.inl ((congrArg (AV.i .u64) tdivN)) | exact Or.inl ((congrArg (AV.i .u64) tmodN)) | refine And.intro ?_ ?_))
    rintro _ _
    have hdm:=Nat.div_add_mod two tp
    have hml:=Nat.mod_lt two (show tp > 0 by omega)
    refine VCs.cutS Nat (fun g=>g < 4294967296∧U / V≤g∧g≤U / V + 1) (fun g=>⟨[(6,.i .i64 s),(7,.rd .u32 v),(8,.vec 31 .u32 x),(9,.vec 37 .u32 q),(10,.i .u64 tp),(11,.i .u64 nx),(12,.i .i64 p),(14,.i .u64 (g:Nat))],[]⟩) ?_ ?_
    · exact long_in (by omega) (by omega) hVl hu0 hu0l hu1l hu2t hnxl htpl htp0 hw3 hwlo hVd hlo hU hV0 hTW htw hq0 _
    rintro g ⟨g1,g2,g3⟩
    have hab:p + (v.length + 1) = ((p:Int) + v.length + 1).toNat:=by omega
    have qt:=s_takes x v p ((p:Int) + v.length + 1).toNat g i5 gv hab (by omega) (by omega) g1
    rw [show v.length + 1 = k + 3 by omega,show win x p (k + 3) = (x.drop p).take (k + 3) from rfl,hUw,ev] at qt
    have hQV:=Nat.div_add_mod U V
    have hRV:=Nat.mod_lt U hV0
    obtain ⟨n1,n2⟩:=hstep (U / V) (U % V) hQV.symm hRV
    refine VCs.cut (by first | exact Γ_good | exact Ctx.good_kp Γ_good _) Unit (fun _=>True) (fun _=>⟨[(6,.i .i64 s),(7,.rd .u32 v),(8,.vec 31 .u32 (wn x p (fx 4294967296 (k + 3) (U % V)))),(9,.vec 37 .u32 q),(10,.i .u64 tp),(11,.i .u64 nx),(12,.i .i64 p),(14,.i .u64 ((U / V:Nat):Int))],[]⟩) ?_ ?_
    · intro _
      (repeat' (first | (refine And.intro (fun h=>?_) (fun h=>?_)<;>(try simp [-List.getD_eq_getElem?_getD,-Int.pred_toNat] at h)<;>(try (exfalso; first | omega | contradiction))) | (refine And.intro (rng64 (by omega) (by omega)) ?_) | (refine And.intro ⟨by omega,by omega⟩ ?_) | (refine And.intro ⟨by omega,by omega,by omega⟩ ?_) | (intro _)))
      refine Or.inr (Or.inr (Or.inr (Or.inr (Or.inr (Exists.intro [] (Exists.intro _ (Exists.intro _ (Exists.intro _ (Exists.intro _ (Exists.intro _ (Exists.intro _ (Exists.intro _ (Exists.intro [(1000,31)] (Exists.intro [] (Exists.intro [8] (And.intro (qt) ?_))))))))))))))))
      refine (And.intro rfl (And.intro rfl (And.intro rfl (And.intro rfl (And.intro rfl (And.intro trivial ?_))))))
      refine (chkK_iff _ _).2 (And.intro (Nat.beq_refl p) ?_)
      refine And.intro (wn_len (by rw [fx_len]; omega)) ?_
      refine And.intro (And.intro rfl trivial) ?_
      refine And.intro (fun hd=>?_) (fun hd=>?_)
      · have hd:U < g * V:=of_decide_eq_true hd
        have hgq:g = U / V + 1:=by
          rcases (show g = U / V∨g = U / V + 1 by omega) with h | h
          · rw [h,Nat.mul_comm] at hd; omega
          · exact h
        have hx1l:(wn x p (fx 4294967296 (k + 3) (U + 4294967296 ^ (k + 3) - g * V))).length = x.length:=wn_len (by rw [fx_len]; omega)
        have hw1:win (wn x p (fx 4294967296 (k + 3) (U + 4294967296 ^ (k + 3) - g * V))) p (k + 3) = fx 4294967296 (k + 3) (U + 4294967296 ^ (k + 3) - g * V):=by
          rw [win,wn_drop (by omega),List.take_append_of_le_length (by rw [fx_len]; omega),List.take_of_length_le (by rw [fx_len]; omega)]
        have qg:=s_gives (wn x p (fx 4294967296 (k + 3) (U + 4294967296 ^ (k + 3) - g * V))) v p ((p:Int) + v.length + 1).toNat (wn_Dg i5 (fx_Dg (by decide) _ _)) gv hab (by rw [hx1l]; omega) (by rw [hx1l]; omega)
        rw [show v.length + 1 = k + 3 by omega,hw1,vl_fx,ev,wn_wn (by omega) (by rw [fx_len,fx_len])] at qg
        have e1:fx 4294967296 (k + 3) ((U + 4294967296 ^ (k + 3) - g * V) % 4294967296 ^ (k + 3) + V) = fx 4294967296 (k + 3) (U % V):=by
          have hgV:g * V = V * (U / V) + V:=by rw [hgq,Nat.add_mul,Nat.one_mul,Nat.mul_comm]
          have hgP:V < 4294967296 ^ (k + 3):=Nat.lt_of_lt_of_le hV1 (Nat.pow_le_pow_right (by decide) (by omega))
          rw [← fx_mod (by decide),Nat.mod_add_mod,show U + 4294967296 ^ (k + 3) - g * V + V = U % V + 4294967296 ^ (k + 3) by omega,Nat.add_mod_right,fx_mod (by decide)]
        rw [e1] at qg
        (repeat' (first | (refine And.intro (fun h=>?_) (fun h=>?_)<;>(try simp [-List.getD_eq_getElem?_getD,-Int.pred_toNat] at h)<;>(try (exfalso; first | omega | contradiction))) | (refine And.intro (rng64 (by omega) (by omega)) ?_) | (refine And.intro ⟨by omega,by omega⟩ ?_) | (refine And.intro ⟨by omega,by omega,by omega⟩ ?_) | (intro _)))
        refine And.intro ⟨by omega,by omega,by show (p:Int) + v.length + 1≤((wn x p (fx 4294967296 (k + 3) (U + 4294967296 ^ (k + 3) - g * V))).length:Int); rw [hx1l]; omega⟩ ?_
        (repeat' (first | (refine And.intro (fun h=>?_) (fun h=>?_)<;>(try simp [-List.getD_eq_getElem?_getD,-Int.pred_toNat] at h)<;>(try (exfalso; first | omega | contradiction))) | (refine And.intro (rng64 (by omega) (by omega)) ?_) | (refine And.intro ⟨by omega,by omega⟩ ?_) | (refine And.intro ⟨by omega,by omega,by omega⟩ ?_) | (intro _)))
        refine Or.inr (Or.inr (Or.inr (Or.inr (Or.inr (Exists.intro [] (Exists.intro _ (Exists.intro _ (Exists.intro _ (Exists.intro _ (Exists.intro _ (Exists.intro _ (Exists.intro _ (Exists.intro [(1000,31)] (Exists.intro [] (Exists.intro [8] (And.intro (qg) ?_))))))))))))))))
        refine (And.intro rfl (And.intro rfl (And.intro rfl (And.intro rfl (And.intro rfl (And.intro trivial ?_))))))
        refine (chkK_iff _ _).2 (And.intro (Nat.beq_refl p) ?_)
        refine And.intro (by rw [hx1l]; exact wn_len (by rw [fx_len]; omega)) ?_
        refine And.intro (And.intro rfl trivial) ?_
        refine Exists.intro () (And.intro trivial ?_)
        have e8:IntKind.u64.wrap ((g:Int) - 1) = ((U / V:Nat):Int):=by rw [dec64 (by rw [hgq]; exact Nat.succ_pos _) (Nat.lt_trans g1 (by decide)),Nat.sub_eq_of_eq_add hgq]
        (repeat' (first | exact trivial | exact Or.inl rfl | exact Or.inl ((congrArg (AV.i .u64) e8)) | refine And.intro ?_ ?_))
      · have hd:¬ U < g * V:=of_decide_eq_false hd
        have hgq:g = U / V:=by
          rcases (show g = U / V∨g = U / V + 1 by omega) with h | h
          · exact h
          · rw [h,Nat.add_mul,Nat.one_mul,Nat.mul_comm] at hd; omega
        have e1:fx 4294967296 (k + 3) (U + 4294967296 ^ (k + 3) - g * V) = fx 4294967296 (k + 3) (U % V):=by
          have hgV:g * V = V * (U / V):=by rw [hgq,Nat.mul_comm]
          rw [← fx_mod (by decide),sub_dist hgV hQV,Nat.add_mod_right,fx_mod (by decide)]
        refine Exists.intro () (And.intro trivial ?_)
        (repeat' (first | exact trivial | exact Or.inl rfl | exact Or.inl ((congrArg (fun z=>AV.vec 31 .u32 (wn x p z)) e1)) | exact Or.inl ((congrArg (fun z:Nat=>AV.i .u64 z) hgq)) | refine And.intro ?_ ?_))
    rintro _ _
    refine VCs.of_vc (by first | exact Γ_good | exact Ctx.good_kp Γ_good _) ?_
    refine And.intro ⟨by omega,by omega⟩ ?_
    (conv=>whnf)
    refine VCs.of_vc (by first | exact Γ_good | exact Ctx.good_kp Γ_good _) ?_
    (refine And.intro (rng64 (by omega) (by omega)) ?_)
    have hQl:U / V < 4294967296:=Nat.lt_of_le_of_lt g2 g1
    have e7:=wrap32_lt hQl
    refine Exists.intro [] (Exists.intro ((p:Int) - 1,wn x p (fx 4294967296 (k + 3) (U % V)),q.set p ((U / V:Nat):Int)) (And.intro ⟨by dsimp only; omega,by dsimp only; rw [List.length_set]; omega,by dsimp only; rw [wn_len (by rw [fx_len]; omega)]; exact i3,by dsimp only; rw [List.length_set]; exact i4,wn_Dg i5 (fx_Dg (by decide) _ _),i6.set p ⟨Int.natCast_nonneg _,Int.ofNat_lt.2 hQl⟩,by dsimp only; rw [show ((p:Int) - 1 + 1).toNat = p by omega]; exact n1,by dsimp only; rw [show ((p:Int) - 1 + 1).toNat = p by omega]; exact n2⟩ (And.intro ?_ ?_)))
    · (repeat' (first | exact trivial | exact Or.inl rfl | exact Or.inl ((congrArg (fun z=>AV.vec 37 .u32 (q.set p z)) e7)) | refine And.intro ?_ ?_))
    · show ((p:Int) - 1 + 1).toNat < ((p:Int) + 1).toNat
      omega
  · have hj : j = -1 := by have : ¬ 0 ≤ j := of_decide_eq_false hc
                           omega
    subst hj
    rw [show ((-1:Int) + 1).toNat = 0 from rfl,List.drop_zero] at i7 i8
    rw [Nat.pow_zero,Nat.one_mul] at i8
    have hq:vl 4294967296 q = m / n:=by
      rw [← Nat.mul_div_mul_left m n (show 0 < 2 ^ s from Nat.pow_pos (by decide)),hVe,hUe,← i8,Nat.add_comm,Nat.add_mul_div_right _ _ (by omega),Nat.div_eq_of_lt i7,Nat.zero_add]
    have hx:vl 4294967296 x = 2 ^ s * (m % n):=by
      rw [← Nat.mul_mod_mul_left,hVe,hUe,← i8,Nat.add_comm,Nat.add_mul_mod_self_right,Nat.mod_eq_of_lt i7]
    have qt:=s_trimmed q i6
    rw [hq] at qt
    have qx:=s_trimmed x i5
    rw [hx] at qx
    have qr:=s_right (dg 4294967296 (2 ^ s * (m % n))) s (dg_Dg b32 _) (by omega) (by rw [← hx]; have:=dg_len32 i5; omega)
    rw [vl_dg b32,Nat.mul_div_cancel_left _ (Nat.pow_pos (by decide))] at qr
    (conv=>whnf)
    refine VCs.of_vc (by first | exact Γ_good | exact Ctx.good_kp Γ_good _) ?_
    refine Or.inl (Exists.intro _ (And.intro (qt) ?_))
    refine Or.inl (Exists.intro _ (And.intro (qx) ?_))
    refine Or.inl (Exists.intro _ (And.intro (qr) ?_))
    rfl
theorem s_long (m n k:Nat) (hk:(dg 4294967296 n).length = k + 2) (hm:(dg 4294967296 m).length≤100000) (hmn:n≤m):PSpec Tryd.prog 107 [.rd .u32 (dg 4294967296 m),.rd .u32 (dg 4294967296 n)] (.tup [.rd .u32 (dg 4294967296 (m / n)),.rd .u32 (dg 4294967296 (m % n))]) :=
  pspec_of_VCs Γ_good Tryd.func107 rfl Tryd.call107 Tryd.results107 Tryd.ntmps107 (Nat.le_of_ble_eq_true rfl) (w_long m n k hk hm hmn) Γ_good
end
end Go.Proofs.YtgacojkkbjhjoaaDoor
end
section
namespace Go.SX
set_option linter.unusedSectionVars false
variable [Globs]
section
variable {P:Program} {N:Nat} {Γ:Ctx} {L:List Nat} {W0:World} {F:Fr} {X:Nat→Prop} {s:St} {β:Nat→Option Nat} {a:Act} {w:World}
def RL1:AV→AV→Prop
  | .agg cs,.agg ds=>AVles cs ds
  | c,d=>AVle c d
def RLs:List AV→List AV→Prop
  | [],[]=>True
  | a::r,b::t=>RL1 a b∧RLs r t
  | _,_=>False
def RL:AV→AV→Prop
  | .tup cs,.tup ds=>RLs cs ds
  | c,d=>RL1 c d
theorem im_RL1 {O:Nat→Prop} {c d:AV} {u:Value} (h:Im O w c u) (hle:RL1 c d):Im O w d u:=by
  unfold RL1 at hle
  split at hle
  · cases h with
    | agg _ vs h1 h2 h3 =>
      have:=all_le (show All2 (Im O w) _ vs from ⟨h1,h3⟩) hle
      exact .agg _ vs this.1 h2 this.2
  · exact im_le h hle
theorem im_RLs {O:Nat→Prop}:∀ {cs ds:List AV} {us:List Value},All2 (Im O w) cs us→RLs cs ds→All2 (Im O w) ds us
  | [],[],us,h,_=>h
  | [],_::_,_,_,hle=>hle.elim
  | _::_,[],_,_,hle=>hle.elim
  | c::r,d::t,us,h,hle=>by
    obtain ⟨u,us',rfl,h1,h2⟩:=h.cons_inv
    exact All2.cons (im_RL1 h1 hle.1) (im_RLs h2 hle.2)
theorem im_RL {O:Nat→Prop} {c d:AV} {u:Value} (h:Im O w c u) (hle:RL c d):Im O w d u:=by
  unfold RL at hle
  split at hle
  · cases h with
    | tup _ vs h1 h2 =>
      have:=im_RLs (show All2 (Im O w) _ vs from ⟨h1,h2⟩) hle
      exact .tup _ vs this.1 this.2
  · exact im_RL1 h hle
theorem pspec_of_vcL (hΓ : Γ.good P) {f : FuncId} {fn : Func} {c : Code} (hf : P.funcs[f]? = some fn) (hb : fn.body = some c) (hcall : ∀ (vs : Array Value) (w : World), (callFunc f vs).run P w = .ok (.enter f vs) w)
    {rs:Array ResultVar} (hrs:fn.results = rs) (hN:fn.ntmps = N) {args:List AV} {r:AV} {L:List Nat} (hlen:args.length≤N)
    (hvc:vc P Γ N L c (postK Γ rs.toList (fun v=>RL v r)) ⟨argSlots 0 args,[]⟩):PSpec P f args r:=by
  refine ⟨hcall,fun O w vs hO hG hargs=>?_⟩
  refine calls_of_wp hf hb ?_
  have hsz:vs.length = args.length:=hargs.1.symm
  have hI:InvB w Fr.none O N ⟨argSlots 0 args,[]⟩ (fun _=>none) { tmps:=vs.toArray++Array.replicate (fn.ntmps - vs.toArray.size) undef,defers:=[] } w:=by
    have hNm:∀ n,¬ Nm ⟨argSlots 0 args,[]⟩ n:=by
      rintro n (⟨cs,h⟩ | ⟨m,h⟩ | ⟨b,cs,h,_⟩)
      · cases h
      · have:=look_args args 0 m
        rw [Nat.zero_add] at this
        simp only [this] at h
        by_cases hm:m < args.length
        · rw [List.getD_eq_getElem?_getD,List.getElem?_eq_getElem hm] at h
          have:=(hargs.2 m _ _ (List.getElem?_eq_getElem hm) (List.getElem?_eq_getElem (by rw [hsz]; exact hm))).ids_nil
          rw [show (some args[m]).getD AV.x = args[m] from rfl,this] at h
          cases h
        · rw [List.getD_eq_getElem?_getD,List.getElem?_eq_none (by omega)] at h
          simp [ids,ids0] at h
      · cases h
    refine ⟨Stp.refl _ _,fun n=>?_,?_,fun n cs h=>(by cases h),fun n m g hn=>absurd hn (hNm n),fun n g hn=>absurd hn (hNm n),rfl,fun k hk=>⟨hO k hk,id⟩,fun n cs g h=>(by cases h),fun _ _=>rfl,hG.step (Stp.refl (fun _=>False) w) (fun _ _ h=>h.elim) fun k _ hk=>hk.elim id fun h=>h.elim⟩
    · have h1:=look_args args 0 n
      rw [Nat.zero_add] at h1
      show Rel _ _ _ (look (argSlots 0 args) n) _
      rw [h1]
      by_cases hm:n < args.length
      · have hmv:n < vs.length:=by rw [hsz]; exact hm
        have h2:=hargs.2 n _ _ (List.getElem?_eq_getElem hm) (List.getElem?_eq_getElem hmv)
        rw [List.getD_eq_getElem?_getD,List.getElem?_eq_getElem hm]
        have h3:(vs.toArray++Array.replicate (fn.ntmps - vs.toArray.size) undef).getD n undef = vs[n]:=by
          rw [Array.getD_eq_getD_getElem?,Array.getElem?_append_left (by simpa using hmv)]
          simp [hmv]
        rw [h3]
        refine Rel.im (h2.mono fun k hk=>?_)
        rcases hk with hk | ⟨m,hm',_⟩
        · exact hk
        · exact absurd hm' (hNm m)
      · rw [List.getD_eq_getElem?_getD,List.getElem?_eq_none (by omega)]
        exact Rel.x
    · show (vs.toArray++Array.replicate (fn.ntmps - vs.toArray.size) undef).size = N
      simp only [Array.size_append,List.size_toArray,Array.size_replicate,hN,hsz]
      omega
  refine vc_ok (W0:=w) (F:=Fr.none) (X:=O) hΓ c _ _ _ _ _ (fun e s a w' hq ⟨β,hI'⟩=>?_) hvc ⟨_,hI⟩
  have key:retK Γ s rs.toList (fun v=>RL v r)→a.defers = []∧∃ v,(results fn a.tmps).run P w' = .ok v w'∧∃ v',Ending.returned v = .returned v'∧Stp (fun _=>False) w w'∧Im O w' r v':=by
    intro h
    rw [← hrs] at h
    obtain ⟨v,u,hv,h1,h2⟩:=ret_ok hΓ hI' h
    exact ⟨hI'.defers,u,h2,u,rfl,hI'.ext,im_RL h1 hv⟩
  cases e with
  | normal=>exact key hq
  | ret=>exact key hq
  | _=>exact hq.elim

end
end Go.SX
end
section
namespace Go.Proofs.YtgacojkkbjhjoaaDoor
set_option linter.unusedSectionVars false
set_option linter.unusedSimpArgs false
set_option linter.unusedVariables false
open Go Go.SX Go.Bg
set_option maxRecDepth 100000
set_option maxHeartbeats 4000000
def divR (m n:Nat):AV:=if n = 0 then .tup [.rd .u32 [],.rd .u32 [],.i .i64 1] else .tup [.rd .u32 (dg 4294967296 (m / n)),.rd .u32 (dg 4294967296 (m % n)),.i .i64 0]
theorem cmpN_lt {m n:Nat} (h:cmpN m n < 0):m < n:=by
  unfold cmpN at h
  split at h
  · assumption
  · split at h<;>omega
theorem cmpN_nlt {m n:Nat} (h:¬ cmpN m n < 0):n≤m:=by
  rcases Nat.lt_or_ge m n with h1 | h1
  · exact absurd (show cmpN m n < 0 by unfold cmpN; rw [if_pos h1]; decide) h
  · exact h1
theorem dg_one {n:Nat} (h:n < 4294967296) (h0:0 < n):dg 4294967296 n = [(n:Int)]:=by
  have:=canonLen b32 (l:=[(n:Int)]) (Dg.cons ⟨by omega,by omega⟩ (Dg.nil _)) (.inr (by simp [vl]; omega))
  rw [← this]
  simp [vl]
theorem dg_word {n:Nat} (h:(dg 4294967296 n).length = 1):∃ x:Nat,dg 4294967296 n = [(x:Int)]∧n = x∧x < 4294967296:=by
  have h1:=vl_dg b32 n
  have h2:=dg_Dg b32 n
  generalize dg 4294967296 n = l at h h1 h2
  match l,h with
  | [x],_ =>
    have:=h2 x (List.mem_cons_self ..)
    refine ⟨x.toNat,by rw [Int.toNat_of_nonneg this.1],?_,by omega⟩
    simp [vl] at h1
    omega
theorem vl_word {n:Nat}:vl 4294967296 [(n:Int)] = n:=by simp [vl]
section
variable [G:Globs]
theorem w_divMod (a b:List Int) (ha:Dg 4294967296 a) (hb:Dg 4294967296 b) (hla:a.length≤100000) (hlb:b.length≤100000):vc Tryd.prog Γ 49 [0,1,4,5,6,7,8,9,10,13,17,24] (Tryd.f66.body.getD .skip) (postK Γ [.tmp 4,.tmp 5,.tmp 6] (fun v=>RL v (divR (vl 4294967296 a) (vl 4294967296 b)))) ⟨argSlots 0 [.rd .u32 a,.rd .u32 b],[]⟩:=by
  have hx:=dg_len32 ha
  have hy:=dg_len32 hb
  have gy:=dg_Dg b32 (vl 4294967296 b)
  have ey:=vl_dg b32 (vl 4294967296 b)
  refine Or.inl (Exists.intro _ (And.intro (s_trimmed b hb) ?_))
  have q1:=s_cmp a (dg 4294967296 (vl 4294967296 b)) ha gy (by omega) (by omega)
  rw [ey] at q1
  have q2:=s_trim a ha (by omega)
  have q3:=s_trimmed a ha
  have q4:=fun (w:Nat) (h0:0 < w) (hw:w < 4294967296)=>s_byWord a w ha (by omega) h0 hw
  generalize vl 4294967296 a = m at *
  generalize vl 4294967296 b = n at *
  intro _
  refine And.intro (fun hc=>?_) (fun hc=>?_)
  · have hc:(dg 4294967296 n).length = 0:=by have:=eq_of_beq hc; omega
    have hn:n = 0:=(dg_nil_iff b32 n).1 (List.eq_nil_of_length_eq_zero hc)
    rw [divR,if_pos hn]
    (repeat' (first | exact trivial | exact Or.inl rfl | exact Or.inr ⟨rfl,_,rfl⟩ | refine And.intro ?_ ?_))
  have hc:(dg 4294967296 n).length≠0:=by have:=ne_of_beq_false hc; omega
  have hn:n≠0:=fun h=>hc (by rw [(dg_nil_iff b32 n).2 h]; rfl)
  refine Or.inl (Exists.intro _ (And.intro (q1) ?_))
  rw [divR,if_neg hn]
  refine And.intro (fun hd=>?_) (fun hd=>?_)
  · have hd:=cmpN_lt (of_decide_eq_true hd)
    rw [Nat.div_eq_of_lt hd,Nat.mod_eq_of_lt hd,(dg_nil_iff b32 0).2 rfl]
    refine Or.inl (Exists.intro _ (And.intro (q2) ?_))
    (repeat' (first | exact trivial | exact Or.inl rfl | exact Or.inr ⟨rfl,_,rfl⟩ | refine And.intro ?_ ?_))
  have hd:=cmpN_nlt (of_decide_eq_false hd)
  intro _
  refine And.intro (fun he=>?_) (fun he=>?_)
  · have he:(dg 4294967296 n).length = 1:=by have:=eq_of_beq he; omega
    obtain ⟨x,hx1,hx2,hx3⟩:=dg_word he
    have e0:(dg 4294967296 n).getD (Int.toNat 0) (dflt .u32) = (n:Int):=by rw [hx1,hx2]; rfl
    have q5:=q4 n (by omega) (by omega)
    rw [← e0] at q5
    have hr:m % n < 4294967296:=by have:=Nat.mod_lt m (show 0 < n by omega); omega
    refine And.intro ⟨by omega,by omega⟩ ?_
    refine Or.inl (Exists.intro _ (And.intro (q5) ?_))
    refine Or.inl (Exists.intro _ (And.intro (s_trimmed [((m % n:Nat):Int)] (Dg.cons ⟨Int.natCast_nonneg _,Int.ofNat_lt.2 hr⟩ (Dg.nil _))) ?_))
    rw [vl_word]
    (repeat' (first | exact trivial | exact Or.inl rfl | exact Or.inr ⟨rfl,_,rfl⟩ | refine And.intro ?_ ?_))
  · have he:(dg 4294967296 n).length≠1:=by have:=ne_of_beq_false he; omega
    refine Or.inl (Exists.intro _ (And.intro (q3) ?_))
    refine Or.inl (Exists.intro _ (And.intro (s_long m n ((dg 4294967296 n).length - 2) (by omega) (by omega) hd) ?_))
    (repeat' (first | exact trivial | exact Or.inl rfl | exact Or.inr ⟨rfl,_,rfl⟩ | refine And.intro ?_ ?_))
theorem s_divMod (a b:List Int) (ha:Dg 4294967296 a) (hb:Dg 4294967296 b) (hla:a.length≤100000) (hlb:b.length≤100000):PSpec Tryd.prog 66 [.rd .u32 a,.rd .u32 b] (divR (vl 4294967296 a) (vl 4294967296 b)) :=
  pspec_of_vcL Γ_good Tryd.func66 rfl Tryd.call66 Tryd.results66 Tryd.ntmps66 (Nat.le_of_ble_eq_true rfl) (w_divMod a b ha hb hla hlb)
end
end Go.Proofs.YtgacojkkbjhjoaaDoor
end
section
namespace Go.Proofs.YtgacojkkbjhjoaaDoor
set_option linter.unusedSectionVars false
set_option linter.unusedSimpArgs false
set_option linter.unusedVariables false
open Go Go.SX Go.Bg
set_option maxRecDepth 100000
set_option maxHeartbeats 0
def wnil (m:Nat):AV:=if m = 0 then .nl else .rd .u32 (dg 4294967296 m)
theorem shift_left {m p:Nat} (hm:0 < m) (k:Nat) (hp:2 ^ k * m = p) (j:Nat):List.replicate j (0:Int)++dg 4294967296 p = dg 4294967296 (4294967296 ^ j * p):=by
  have hp0:0 < p:=by rw [← hp]; exact Nat.mul_pos (Nat.pow_pos (by decide)) hm
  have hne:dg 4294967296 p≠[]:=fun e=>by have:=(dg_nil_iff b32 p).1 e; omega
  have:=canon b32 (l:=List.replicate j (0:Int)++dg 4294967296 p) ((Dg.replicate (by decide) _).append (dg_Dg b32 p)) (by
    rw [List.getLast?_append,List.getLast?_eq_some_getLast hne]
    have:=dg_last_ne b32 p
    rw [List.getLast?_eq_some_getLast hne] at this
    simpa using this)
  rw [vl_append,vl_replicate,vl_dg b32,Nat.zero_add,List.length_replicate] at this
  exact this.symm
theorem pow_words (n:Nat):4294967296 ^ (n / 32) * 2 ^ (n % 32) = 2 ^ n:=by
  rw [show (4294967296:Nat) = 2 ^ 32 from rfl,← Nat.pow_mul,← Nat.pow_add,Nat.div_add_mod]
def shiftR (m:Nat) (n:Int):AV :=
  if n > 4000 then .tup [.nl,.i .i64 2] else if 0≤n then .tup [wnil (2 ^ n.toNat * m),.i .i64 0] else
    if m = 0∨n≤-32 * ((dg 4294967296 m).length:Int) then .tup [.nl,.i .i64 0] else .tup [.rd .u32 (dg 4294967296 (m / 2 ^ (-n).toNat)),.i .i64 0]
theorem tdiv32 (m:Nat):(m:Int).tdiv 32 = ((m / 32:Nat):Int):=rfl
theorem tmod32 (m:Nat):(m:Int).tmod 32 = ((m % 32:Nat):Int):=rfl
theorem left_len {m p k:Nat} (h:(dg 4294967296 m).length≤k):(dg 4294967296 (2 ^ (p % 32) * m)).length≤k + 1:=dg_len_le b32 _ _ (by
  rw [Nat.pow_succ,Nat.mul_comm]
  have h1:m < 4294967296 ^ k:=Nat.lt_of_lt_of_le (dg_lt_pow b32 m) (Nat.pow_le_pow_right (by decide) h)
  have h2:2 ^ (p % 32)≤2 ^ 32:=Nat.pow_le_pow_right (by decide) (by omega)
  exact Nat.mul_lt_mul_of_lt_of_le h1 h2 (by decide))
section
variable [G:Globs]
theorem w_shift (a:List Int) (n:Int) (ha:Dg 4294967296 a) (hla:a.length≤100000) (hn : -9223372036854775808≤n):vc Tryd.prog Γ 41 [0,1,4,5,8,11,15,26] (Tryd.f25.body.getD .skip) (postK Γ [.tmp 4,.tmp 5] (fun v=>v = shiftR (vl 4294967296 a) n)) ⟨argSlots 0 [.rd .u32 a,.i .i64 n],[]⟩:=by
  refine Or.inl (Exists.intro _ (And.intro (s_trimmed a ha) ?_))
  have hml:(dg 4294967296 (vl 4294967296 a)).length≤100000:=Nat.le_trans (dg_len_le b32 _ _ (vl_lt ha)) hla
  generalize vl 4294967296 a = m at hml
  refine And.intro (fun h1=>?_) (fun h1=>?_)
  · have h1:4000 < n:=of_decide_eq_true h1
    show _ = shiftR m n
    rw [shiftR,if_pos h1]
    rfl
  · have h1:¬ 4000 < n:=of_decide_eq_false h1
    intro _
    refine And.intro (fun h2=>?_) (fun h2=>?_)
    · have h2 : m = 0 := by
        have:=eq_of_beq h2
        rcases Nat.eq_zero_or_pos m with h | h
        · exact h
        · have:=dg_len_pos b32 h
          omega
      subst h2
      show _ = shiftR 0 n
      rw [shiftR,if_neg h1]
      by_cases h3:0≤n
      · rw [if_pos h3,Nat.mul_zero]; rfl
      · rw [if_neg h3,if_pos (.inl rfl)]; rfl
    · have hm : 0 < m := by
        have:=ne_of_beq_false h2
        rcases Nat.eq_zero_or_pos m with h | h
        · subst h; exact absurd rfl this
        · exact h
      refine And.intro (fun h3=>?_) (fun h3=>?_)
      · obtain ⟨p,rfl⟩:=nn_of h3
        refine Exists.intro [.take 0,.take 1,.take 3,.take 4,.take 5,.two 2 6,.one 7,.blk [8,9]] (And.intro (by kernel_rfl) ?_)
        have hml2:=Nat.le_trans hml (show 100000≤1000000 by decide)
        have ql:=s_left m (p % 32) (Nat.mod_lt _ (by decide)) hml2
        have hpl:p≤4000:=by omega
        have hlen:(dg 4294967296 (2 ^ (p % 32) * m)).length≤100001:=left_len hml
        have hsl:=shift_left hm (p % 32) rfl (p / 32)
        rw [← Nat.mul_assoc,pow_words] at hsl
        refine And.intro (by decide) ?_
        refine And.intro (rng64 (by rw [tdiv32]; omega) (by rw [tdiv32]; omega)) ?_
        refine And.intro (by decide) ?_
        refine Exists.intro ⟨[(20,.vec 20 .u32 (List.replicate (p / 32) 0)),(24,.rd .u32 (dg 4294967296 (2 ^ (p % 32) * m)))],[]⟩ (And.intro ?_ (And.intro ?_ ?_))
        · refine And.intro ⟨by rw [tdiv32]; omega,Int.le_refl _,by rw [tdiv32]; omega,by show (p / 32) * 4≤_; omega⟩ ?_
          refine Or.inl (Exists.intro _ (And.intro (ql) ?_))
          (repeat' (first | exact trivial | exact Or.inl rfl | exact Or.inr (Or.inl ⟨rfl,_,rfl⟩) | exact Or.inr (Or.inr (Or.inr ⟨_,_,_,rfl,rfl⟩)) | refine And.intro ?_ ?_))
        · refine Or.inl (Exists.intro _ (And.intro (ql) ?_))
          refine And.intro ⟨by rw [tdiv32]; omega,Int.le_refl _,by rw [tdiv32]; omega,by show (p / 32) * 4≤_; omega⟩ ?_
          (repeat' (first | exact trivial | exact Or.inl rfl | exact Or.inr (Or.inl ⟨rfl,_,rfl⟩) | exact Or.inr (Or.inr (Or.inr ⟨_,_,_,rfl,rfl⟩)) | refine And.intro ?_ ?_))
        · refine And.intro (by show ((List.replicate (p / 32) (0:Int)).length + (dg 4294967296 (2 ^ (p % 32) * m)).length) * 4≤_; rw [List.length_replicate]; omega) ?_
          show _ = shiftR m p
          rw [shiftR,if_neg h1,if_pos (by omega),wnil,Int.toNat_natCast,if_neg (by have:=Nat.mul_pos (show 0 < 2 ^ p from Nat.pow_pos (by decide)) hm; omega),← hsl]
          rfl
      · have h3:¬ 0≤n:=of_decide_eq_false h3
        obtain ⟨p,rfl⟩:∃ p:Nat,n = -(p:Int):=⟨(-n).toNat,by omega⟩
        intro _
        (refine And.intro (rng64 (by omega) (by omega)) ?_)
        have hneg:(0:Int) - -(p:Int) = (p:Int):=by omega
        refine And.intro (fun h4=>?_) (fun h4=>?_)
        · have h4 : -(p:Int)≤-32 * ((dg 4294967296 m).length:Int):=of_decide_eq_true h4
          show _ = shiftR m _
          rw [shiftR,if_neg h1,if_neg h3,if_pos (.inr h4)]
          rfl
        · have h4:¬ -(p:Int)≤-32 * ((dg 4294967296 m).length:Int):=of_decide_eq_false h4
          have hml2:=Nat.le_trans hml (show 100000≤1000000 by decide)
          have qr:=s_right ((dg 4294967296 m).drop (p / 32)) (p % 32) ((dg_Dg b32 m).drop _) (Nat.mod_lt _ (by decide)) (by rw [List.length_drop]; omega)
          rw [← vl_div b32 (dg_Dg b32 m) (by omega),vl_dg b32,Nat.div_div_eq_div_mul,pow_words] at qr
          refine Or.inl (And.intro (rng64 (by omega) (by omega)) ?_)
          refine And.intro (by decide) ?_
          refine And.intro (rng64 (by rw [hneg,tdiv32]; omega) (by rw [hneg,tdiv32]; omega)) ?_
          refine And.intro ⟨by rw [hneg,tdiv32]; omega,by rw [hneg,tdiv32]; omega,by omega⟩ ?_
          refine Or.inl (And.intro (rng64 (by omega) (by omega)) ?_)
          refine And.intro (by decide) ?_
          have ed:((dg 4294967296 m).take (Int.toNat ((dg 4294967296 m).length:Int))).drop (Int.toNat (Int.tdiv (0 - -(p:Int)) 32)) = (dg 4294967296 m).drop (p / 32):=by
            rw [hneg,tdiv32,Int.toNat_natCast,Int.toNat_natCast,List.take_length]
          have em:Int.tmod (0 - -(p:Int)) 32 = ((p % 32:Nat):Int):=by rw [hneg,tmod32]
          (conv=>whnf)
          rw [ed,em]
          refine Or.inl (Exists.intro _ (And.intro (qr) ?_))
          show _ = shiftR m _
          rw [shiftR,if_neg h1,if_neg h3,if_neg (by omega),show (-(-(p:Int))).toNat = p by omega]
          rfl
theorem s_shift (a:List Int) (n:Int) (ha:Dg 4294967296 a) (hla:a.length≤100000) (hn : -9223372036854775808≤n):PSpec Tryd.prog 25 [.rd .u32 a,.i .i64 n] (shiftR (vl 4294967296 a) n) :=
  pspec_of_vc Γ_good Tryd.func25 rfl Tryd.call25 Tryd.results25 Tryd.ntmps25 (Nat.le_of_ble_eq_true rfl) (w_shift a n ha hla hn)
end
end Go.Proofs.YtgacojkkbjhjoaaDoor
end
section
namespace Go.Proofs.YtgacojkkbjhjoaaDoor
set_option linter.unusedSectionVars false
set_option linter.unusedSimpArgs false
set_option linter.unusedVariables false
open Go Go.SX Go.Bg
set_option maxRecDepth 100000
set_option maxHeartbeats 0
theorem and1 (m:Nat) (hm:m < 9223372036854775808):bits .and .i64 (m:Int) 1 = ((m % 2:Nat):Int):=by
  have h1:(BitVec.ofInt 64 1).toNat = 2 ^ 1 - 1:=by decide
  have key:(BitVec.ofInt 64 (m:Int) &&& BitVec.ofInt 64 1).toNat = ((m:Int) % ((2 ^ 64:Nat):Int)).toNat % 2 ^ 1:=by
    rw [BitVec.toNat_and,BitVec.toNat_ofInt,h1,Nat.and_two_pow_sub_one_eq_mod]
  show IntKind.i64.wrap ((BitVec.ofInt 64 (m:Int) &&& BitVec.ofInt 64 1).toNat:Nat) = ((m % 2:Nat):Int)
  rw [key,IntKind.wrap_i64]
  omega
theorem shr1 (m:Nat):(m:Int).fdiv (2 ^ (min (Int.toNat 1) IntKind.i64.bits)) = ((m / 2:Nat):Int):=by
  rw [show min (Int.toNat 1) IntKind.i64.bits = 1 from rfl,Int.fdiv_eq_ediv_of_nonneg _ (by decide)]
  rfl
def powR (b:Nat) (n:Int):AV:=if n < 0 then .tup [.nl,.i .i64 1] else if 1000 < n then .tup [.nl,.i .i64 2] else .tup [.rd .u32 (dg 4294967296 (b ^ n.toNat)),.i .i64 0]
theorem pow_len {b k:Nat} (hb:b < 4294967296):(dg 4294967296 (b ^ k)).length≤k + 1:=dg_len_le b32 _ _ (by
  rcases Nat.eq_zero_or_pos k with h | h
  · subst h; rw [Nat.pow_zero]; decide
  · refine Nat.lt_of_lt_of_le (Nat.pow_lt_pow_left hb (by omega)) (Nat.pow_le_pow_right (by decide) (by omega)))
section
variable [G:Globs]
theorem w_pow (b:Nat) (n:Int) (hb:b < 4294967296):vc Tryd.prog Γ 32 [0,1,4,5,6,7,8,11,19,24] (Tryd.f105.body.getD .skip) (postK Γ [.tmp 4,.tmp 5] (fun v=>v = powR b n)) ⟨argSlots 0 [.i .u32 b,.i .i64 n],[]⟩:=by
  refine And.intro (fun h1=>?_) (fun h1=>?_)
  · have h1:n < 0:=of_decide_eq_true h1
    show _ = powR b n
    rw [powR,if_pos h1]
    rfl
  · have h1:¬ n < 0:=of_decide_eq_false h1
    refine And.intro (fun h2=>?_) (fun h2=>?_)
    · have h2:1000 < n:=of_decide_eq_true h2
      show _ = powR b n
      rw [powR,if_neg h1,if_pos h2]
      rfl
    · have h2:¬ 1000 < n:=of_decide_eq_false h2
      obtain ⟨p,rfl⟩:∃ p:Nat,n = p:=⟨n.toNat,by omega⟩
      have q0:=s_trimmed [(b:Int)] (Dg.cons ⟨by omega,by omega⟩ (Dg.nil _))
      rw [show vl 4294967296 [(b:Int)] = b ^ 1 by simp [vl]] at q0
      refine Or.inl (Exists.intro _ (And.intro (q0) ?_))
      refine Exists.intro [] (Exists.intro [] (Exists.intro [(14,14)] (Exists.intro (Nat × Nat × Nat) (Exists.intro (fun x=>x.2.1 + x.2.2 * x.1 = p∧1≤x.2.2) (Exists.intro (fun ⟨m,e,f⟩=>⟨[(1,.i .i64 m),(6,.rd .u32 (dg 4294967296 (b ^ e))),(7,.rd .u32 (dg 4294967296 (b ^ f)))],[]⟩) (Exists.intro (fun x=>x.1) (Exists.intro (p,0,1) (And.intro ⟨by simp,by simp⟩ (And.intro ?_ ?_)))))))))
      · (repeat' (first | exact trivial | exact Or.inl rfl | exact Or.inr (Or.inl ⟨rfl,_,rfl⟩) | exact Or.inr (Or.inr (Or.inr ⟨_,_,_,rfl,rfl⟩)) | refine And.intro ?_ ?_))
      · rintro ⟨m,e,f⟩ ⟨g1,g2⟩
        dsimp only at g1 g2
        refine And.intro (fun hc=>?_) (fun hc=>?_)
        · have hm : 0 < m := by have : (0 : Int) < (m : Int) := of_decide_eq_true hc
                                omega
          have hfm:f * 1≤f * m:=Nat.mul_le_mul_left _ hm
          have hmf:1 * m≤f * m:=Nat.mul_le_mul_right _ g2
          have le:=pow_len (k:=e) hb
          have lf:=pow_len (k:=f) hb
          have q1:=s_mul (dg 4294967296 (b ^ e)) (dg 4294967296 (b ^ f)) (dg_Dg b32 _) (dg_Dg b32 _) (by omega) (by omega)
          have q2:=s_mul (dg 4294967296 (b ^ f)) (dg 4294967296 (b ^ f)) (dg_Dg b32 _) (dg_Dg b32 _) (by omega) (by omega)
          rw [vl_dg b32,vl_dg b32] at q1
          rw [vl_dg b32,← Nat.pow_add] at q2
          have ea:=and1 m (by omega)
          refine And.intro (fun hd=>?_) (fun hd=>?_)
          · have hd : m % 2 = 1 := by
              have h9:(bits .and .i64 (m:Int) 1 == 1) = true:=hd
              rw [ea] at h9
              have:=eq_of_beq h9
              omega
            rw [(power_odd (b:=b) hd).1] at q1
            refine Or.inl (Exists.intro _ (And.intro (q1) ?_))
            refine Or.inl (Exists.intro _ (And.intro (q2) ?_))
            refine And.intro (by decide) ?_
            refine Exists.intro [] (Exists.intro (m / 2,e + f,f + f) (And.intro ⟨by have:=(power_odd (b:=b) (e:=e) (f:=f) hd).2; dsimp only; omega,by dsimp only; omega⟩ (And.intro ?_ ?_)))
            · (repeat' (first | exact trivial | exact Or.inl rfl | exact Or.inl ((congrArg (AV.i .i64) (shr1 m))) | refine And.intro ?_ ?_))
            · show m / 2 < m
              omega
          · have hd : m % 2 = 0 := by
              have h9:(bits .and .i64 (m:Int) 1 == 1) = false:=hd
              rw [ea] at h9
              have:=ne_of_beq_false h9
              omega
            refine Or.inl (Exists.intro _ (And.intro (q2) ?_))
            refine And.intro (by decide) ?_
            refine Exists.intro [] (Exists.intro (m / 2,e,f + f) (And.intro ⟨by have:=power_even (e:=e) (f:=f) hd; dsimp only; omega,by dsimp only; omega⟩ (And.intro ?_ ?_)))
            · (repeat' (first | exact trivial | exact Or.inl rfl | exact Or.inl ((congrArg (AV.i .i64) (shr1 m))) | refine And.intro ?_ ?_))
            · show m / 2 < m
              omega
        · have hm : m = 0 := by have : ¬ (0 : Int) < (m : Int) := of_decide_eq_false hc
                                omega
          subst hm
          rw [Nat.mul_zero,Nat.add_zero] at g1
          subst g1
          show _ = powR b _
          rw [powR,if_neg h1,if_neg h2]
          rfl
theorem s_pow (b:Nat) (n:Int) (hb:b < 4294967296):PSpec Tryd.prog 105 [.i .u32 b,.i .i64 n] (powR b n) :=
  pspec_of_vc Γ_good Tryd.func105 rfl Tryd.call105 Tryd.results105 Tryd.ntmps105 (Nat.le_of_ble_eq_true rfl) (w_pow b n hb)
end
end Go.Proofs.YtgacojkkbjhjoaaDoor
end
section
namespace Go.Proofs.YtgacojkkbjhjoaaDoor
set_option linter.unusedSectionVars false
set_option linter.unusedSimpArgs false
set_option linter.unusedVariables false
open Go Go.SX Go.Bg Go.Fl
set_option maxRecDepth 100000
set_option maxHeartbeats 4000000
def ratN (m:Nat) (e:Int):Nat:=if e < 0 then m else m * 10 ^ e.toNat
def ratD (e:Int):Nat:=if e < 0 then 10 ^ (-e).toNat else 1
section
variable [G:Globs]
theorem w_ratio (m:Nat) (e:Int) (hm:(dg 4294967296 m).length≤400000) (h1 : -1000≤e) (h2:e≤1000):vc Tryd.prog Γ 27 [0,1,4,5,6,9] (Tryd.f64.body.getD .skip) (postK Γ [.tmp 4,.tmp 5] (fun v=>v = .tup [.rd .u32 (dg 4294967296 (ratN m e)),.rd .u32 (dg 4294967296 (ratD e))])) ⟨argSlots 0 [.rd .u32 (dg 4294967296 m),.i .i64 e],[]⟩:=by
  have h':(if (e:Int) < 0 then 1 else 0) = (if e < 0 then 1 else 0:Nat):=rfl
  by_cases h:e < 0
  · have qp:=s_pow 10 (0 - e) (by decide)
    rw [powR,if_neg (by omega),if_neg (by omega),show (0 - e).toNat = (-e).toNat by omega] at qp
    have hR:AV.tup [.rd .u32 (dg 4294967296 (ratN m e)),.rd .u32 (dg 4294967296 (ratD e))] = .tup [.rd .u32 (dg 4294967296 m),.rd .u32 (dg 4294967296 (10 ^ (-e).toNat))]:=by rw [ratN,ratD,if_pos h,if_pos h]
    rw [hR]
    (repeat' (first | (refine And.intro (fun h=>?_) (fun h=>?_)<;>(try simp [-List.getD_eq_getElem?_getD,-Int.pred_toNat] at h)<;>(try (exfalso; first | omega | contradiction))) | (refine And.intro (rng64 (by omega) (by omega)) ?_) | (refine And.intro ⟨by omega,by omega⟩ ?_) | (refine And.intro ⟨by omega,by omega,by omega⟩ ?_) | (intro _)))
    refine Or.inl (And.intro (rng64 (by omega) (by omega)) ?_)
    refine Or.inl (Exists.intro _ (And.intro (qp) ?_))
    rfl
  · have qp:=s_pow 10 e (by decide)
    rw [powR,if_neg h,if_neg (by omega)] at qp
    have hl:=pow_len (b:=10) (k:=e.toNat) (by decide)
    have qm:=s_mul (dg 4294967296 m) (dg 4294967296 (10 ^ e.toNat)) (dg_Dg b32 _) (dg_Dg b32 _) (by omega) (by omega)
    rw [vl_dg b32,vl_dg b32] at qm
    have hR:AV.tup [.rd .u32 (dg 4294967296 (ratN m e)),.rd .u32 (dg 4294967296 (ratD e))] = .tup [.rd .u32 (dg 4294967296 (m * 10 ^ e.toNat)),.rd .u32 [1]]:=by rw [ratN,ratD,if_neg h,if_neg h,show dg 4294967296 1 = [1] from dg_one (n:=1) (by decide) (by decide)]
    rw [hR]
    (repeat' (first | (refine And.intro (fun h=>?_) (fun h=>?_)<;>(try simp [-List.getD_eq_getElem?_getD,-Int.pred_toNat] at h)<;>(try (exfalso; first | omega | contradiction))) | (refine And.intro (rng64 (by omega) (by omega)) ?_) | (refine And.intro ⟨by omega,by omega⟩ ?_) | (refine And.intro ⟨by omega,by omega,by omega⟩ ?_) | (intro _)))
    refine Or.inl (Exists.intro _ (And.intro (qp) ?_))
    refine Or.inl (Exists.intro _ (And.intro (qm) ?_))
    rfl
theorem s_ratio (m:Nat) (e:Int) (hm:(dg 4294967296 m).length≤400000) (h1 : -1000≤e) (h2:e≤1000):PSpec Tryd.prog 64 [.rd .u32 (dg 4294967296 m),.i .i64 e] (.tup [.rd .u32 (dg 4294967296 (ratN m e)),.rd .u32 (dg 4294967296 (ratD e))]) :=
  pspec_of_vc Γ_good Tryd.func64 rfl Tryd.call64 Tryd.results64 Tryd.ntmps64 (Nat.le_of_ble_eq_true rfl) (w_ratio m e hm h1 h2)
theorem and1_64 (q:Nat) (h:q < 18446744073709551616):bits .and .u64 (q:Int) 1 = ((q % 2:Nat):Int):=by
  have h1:(BitVec.ofInt 64 1).toNat = 2 ^ 1 - 1:=by decide
  have key:(BitVec.ofInt 64 (q:Int) &&& BitVec.ofInt 64 1).toNat = ((q:Int) % ((2 ^ 64:Nat):Int)).toNat % 2 ^ 1:=by
    rw [BitVec.toNat_and,BitVec.toNat_ofInt,h1,Nat.and_two_pow_sub_one_eq_mod]
  show IntKind.u64.wrap ((BitVec.ofInt 64 (q:Int) &&& BitVec.ofInt 64 1).toNat:Nat) = ((q % 2:Nat):Int)
  rw [key,IntKind.wrap_u64]
  omega
theorem shiftR_up {m p:Nat} (hm:0 < m) (hp:p≤4000):shiftR m (p:Int) = .tup [.rd .u32 (dg 4294967296 (2 ^ p * m)),.i .i64 0]:=by
  have:=Nat.mul_pos (Nat.pow_pos (a:=2) (n:=p) (by decide)) hm
  rw [shiftR,if_neg (by omega),if_pos (by omega),Int.toNat_natCast,wnil,if_neg (by omega)]
theorem words64 {Q k:Nat} (hQ:Q < 18446744073709551616) (l:List Int) (hl:dg 4294967296 Q = l) (x:Nat) (hx:(l.getD k 0).toNat = x):vl 4294967296 (l.drop k) = x + 4294967296 * vl 4294967296 (l.drop (k + 1))∧vl 4294967296 (l.drop (k + 1)) < 4294967296∧vl 4294967296 (l.drop k)≤Q:=by
  have hd:=vl_drop 4294967296 l k
  have hv:=vl_dg b32 Q
  rw [hl] at hv
  have hle:vl 4294967296 (l.drop k)≤Q:=by
    rcases Nat.lt_or_ge k l.length with h | h
    · have:=vl_split 4294967296 l k (by omega)
      rw [hv] at this
      have h1:1 * vl 4294967296 (l.drop k)≤4294967296 ^ k * vl 4294967296 (l.drop k):=Nat.mul_le_mul_right _ (Nat.pow_pos (by decide))
      omega
    · rw [List.drop_of_length_le h]; exact Nat.zero_le _
  rw [hx] at hd
  exact ⟨hd,by omega,hle⟩
theorem or64w {o x:Nat} (ho:o < 4294967296) (hx:x < 4294967296):bits .or .u64 (IntKind.u64.wrap ((o:Int) * 2 ^ (min (Int.toNat 32) IntKind.u64.bits))) (IntKind.u64.wrap (x:Int)) = ((x + 4294967296 * o:Nat):Int):=by
  rw [or64 ho hx]
  omega
theorem up_len {m p k L:Nat} (h:p < 32 * k) (hm:(dg 4294967296 m).length≤L):(dg 4294967296 (2 ^ p * m)).length≤L + k:=dg_len_le b32 _ _ (by
  rw [Nat.pow_add,Nat.mul_comm,pow_bits k]
  exact Nat.mul_lt_mul'' (Nat.lt_of_lt_of_le (dg_lt_pow b32 m) (Nat.pow_le_pow_right (by decide) hm)) (Nat.pow_lt_pow_right (by decide) h))
theorem sum_len {R D K:Nat} (h:R < D) (hD:(dg 4294967296 D).length≤K):(dg 4294967296 (R + R)).length≤K + 1:=dg_len_le b32 _ _ (by
  have h5:=Nat.lt_of_lt_of_le (dg_lt_pow b32 D) (Nat.pow_le_pow_right (n:=4294967296) (by decide) hD)
  rw [Nat.pow_succ]
  generalize 4294967296 ^ K = P at *
  omega)
theorem inc64 {q:Nat} (h:q < 18446744073709551615):IntKind.u64.wrap ((q:Int) + 1) = ((q + 1:Nat):Int):=by rw [IntKind.wrap_u64]; omega
theorem w_scaled (m n:Nat) (e:Int) (hm:0 < m) (hn:0 < n) (hml:(dg 4294967296 m).length≤20000) (hnl:(dg 4294967296 n).length≤20000) (h1 : -4000≤e) (h2:e≤4000) (hq:upN m e / upD n e < 18446744073709551615):VCs Tryd.prog Γ 69 [0,1,2,6,7,8,10,11,12,14,39,65] (Tryd.f109.body.getD .skip) (postK Γ [.tmp 6] (fun v=>v = .i .u64 (sc m n e:Nat))) ⟨argSlots 0 [.rd .u32 (dg 4294967296 m),.rd .u32 (dg 4294967296 n),.i .i64 e],[]⟩:=by
  have hN0:=upN_pos hm e
  have hD0:=upD_pos hn e
  have hNl:(dg 4294967296 (upN m e)).length≤20126:=up_len (k:=126) (by omega) hml
  have hDl:(dg 4294967296 (upD n e)).length≤20126:=up_len (k:=126) (by omega) hnl
  refine VCs.seq (by first | exact Γ_good | exact Ctx.good_kp Γ_good _) ?_
  refine VCs.cut (by first | exact Γ_good | exact Ctx.good_kp Γ_good _) Unit (fun _=>True) (fun _=>⟨[(0,.rd .u32 (dg 4294967296 (upN m e))),(1,.rd .u32 (dg 4294967296 (upD n e))),(2,.i .i64 e)],[]⟩) ?_ ?_
  · by_cases h:0≤e
    · obtain ⟨p,rfl⟩:∃ p:Nat,e = p:=⟨e.toNat,by omega⟩
      have qs:=s_shift (dg 4294967296 n) (p:Int) (dg_Dg b32 _) (by omega) (by omega)
      rw [vl_dg b32,shiftR_up hn (by omega)] at qs
      have e1:upN m (p:Int) = m:=by rw [upN,show (-(p:Int)).toNat = 0 by omega,Nat.pow_zero,Nat.one_mul]
      have e2:upD n (p:Int) = 2 ^ p * n:=rfl
      rw [e1,e2]
      (repeat' (first | (refine And.intro (fun h=>?_) (fun h=>?_)<;>(try simp [-List.getD_eq_getElem?_getD,-Int.pred_toNat] at h)<;>(try (exfalso; first | omega | contradiction))) | (refine And.intro (rng64 (by omega) (by omega)) ?_) | (refine And.intro ⟨by omega,by omega⟩ ?_) | (refine And.intro ⟨by omega,by omega,by omega⟩ ?_) | (intro _)))
      refine Or.inl (Exists.intro _ (And.intro (qs) ?_))
      refine Exists.intro () (And.intro trivial ?_)
      (repeat' (first | exact trivial | exact Or.inl rfl | exact Or.inr (Or.inl ⟨rfl,_,rfl⟩) | exact Or.inr (Or.inr (Or.inr ⟨_,_,_,rfl,rfl⟩)) | refine And.intro ?_ ?_))
    · obtain ⟨p,hp,rfl⟩:∃ p:Nat,0 < p∧e = -(p:Int):=⟨(-e).toNat,by omega,by omega⟩
      have qs:=s_shift (dg 4294967296 m) (p:Int) (dg_Dg b32 _) (by omega) (by omega)
      rw [vl_dg b32,shiftR_up hm (by omega),show (p:Int) = 0 - -(p:Int) by omega] at qs
      have e1:upN m (-(p:Int)) = 2 ^ p * m:=by rw [upN,show (- -(p:Int)).toNat = p by omega]
      have e2:upD n (-(p:Int)) = n:=by rw [upD,show (-(p:Int)).toNat = 0 by omega,Nat.pow_zero,Nat.one_mul]
      rw [e1,e2]
      (repeat' (first | (refine And.intro (fun h=>?_) (fun h=>?_)<;>(try simp [-List.getD_eq_getElem?_getD,-Int.pred_toNat] at h)<;>(try (exfalso; first | omega | contradiction))) | (refine And.intro (rng64 (by omega) (by omega)) ?_) | (refine And.intro ⟨by omega,by omega⟩ ?_) | (refine And.intro ⟨by omega,by omega,by omega⟩ ?_) | (intro _)))
      refine Or.inl (And.intro (rng64 (by omega) (by omega)) ?_)
      refine Or.inl (Exists.intro _ (And.intro (qs) ?_))
      refine Exists.intro () (And.intro trivial ?_)
      (repeat' (first | exact trivial | exact Or.inl rfl | exact Or.inr (Or.inl ⟨rfl,_,rfl⟩) | exact Or.inr (Or.inr (Or.inr ⟨_,_,_,rfl,rfl⟩)) | refine And.intro ?_ ?_))
  rintro ⟨⟩ _
  have qd:=s_divMod (dg 4294967296 (upN m e)) (dg 4294967296 (upD n e)) (dg_Dg b32 _) (dg_Dg b32 _) (by omega) (by omega)
  rw [vl_dg b32,vl_dg b32,divR,if_neg (by omega)] at qd
  unfold sc
  generalize upN m e = A at *
  generalize upD n e = D at *
  refine VCs.seq (by first | exact Γ_good | exact Ctx.good_kp Γ_good _) ?_
  refine Or.inl (Exists.intro _ (And.intro (qd) ?_))
  have hR:=Nat.mod_lt A hD0
  have hRl:(dg 4294967296 (A % D)).length≤20126:=Nat.le_trans (dg_len_le b32 _ _ (Nat.lt_trans hR (dg_lt_pow b32 D))) hDl
  have qa:=s_add (dg 4294967296 (A % D)) (dg 4294967296 (A % D)) (dg_Dg b32 _) (dg_Dg b32 _) (by omega) (by omega)
  rw [vl_dg b32] at qa
  have hSl:=sum_len hR hDl
  have qc:=s_cmp (dg 4294967296 (A % D + A % D)) (dg 4294967296 D) (dg_Dg b32 _) (dg_Dg b32 _) (by omega) (by omega)
  rw [vl_dg b32,vl_dg b32] at qc
  have hrhe:rhe A D = if D < 2 * (A % D)∨(2 * (A % D) = D∧A / D % 2 = 1) then A / D + 1 else A / D:=rfl
  generalize rhe A D = T at *
  generalize A / D = Q at *
  generalize A % D = R at *
  refine VCs.seq (by first | exact Γ_good | exact Ctx.good_kp Γ_good _) ?_
  refine VCs.cut (by first | exact Γ_good | exact Ctx.good_kp Γ_good _) Unit (fun _=>True) (fun _=>⟨[(1,.rd .u32 (dg 4294967296 D)),(8,.rd .u32 (dg 4294967296 R)),(10,.i .u64 Q)],[]⟩) ?_ ?_
  · have hl:=dg_Dg b32 Q
    have hv:=vl_dg b32 Q
    have hQl:(dg 4294967296 Q).length≤2:=dg_len_le b32 _ _ (Nat.lt_of_lt_of_le hq (by decide))
    have hw:=fun k x=>words64 (Q:=Q) (k:=k) (by omega) _ rfl x
    generalize dg 4294967296 Q = l at *
    intro _
    (repeat' (first | (refine And.intro (fun h=>?_) (fun h=>?_)<;>(try simp [-List.getD_eq_getElem?_getD,-Int.pred_toNat] at h)<;>(try (exfalso; first | omega | contradiction))) | (refine And.intro (rng64 (by omega) (by omega)) ?_) | (refine And.intro ⟨by omega,by omega⟩ ?_) | (refine And.intro ⟨by omega,by omega,by omega⟩ ?_) | (intro _)))
    refine Exists.intro [] (Exists.intro [] (Exists.intro [] (Exists.intro (Int × Nat) (Exists.intro (fun x=>-1≤x.1∧x.1 < l.length∧x.2 = vl 4294967296 (l.drop (x.1 + 1).toNat)) (Exists.intro (fun ⟨j,o⟩=>⟨[(1,.rd .u32 (dg 4294967296 D)),(7,.rd .u32 l),(8,.rd .u32 (dg 4294967296 R)),(10,.i .u64 o),(11,.i .i64 j)],[]⟩) (Exists.intro (fun x=>(x.1 + 1).toNat) (Exists.intro ((l.length:Int) - 1,0) (And.intro ⟨by dsimp only; omega,by dsimp only; omega,by dsimp only; rw [List.drop_of_length_le (by omega)]; rfl⟩ (And.intro ?_ ?_)))))))))
    · (repeat' (first | exact trivial | exact Or.inl rfl | exact Or.inr (Or.inl ⟨rfl,_,rfl⟩) | exact Or.inr (Or.inr (Or.inr ⟨_,_,_,rfl,rfl⟩)) | refine And.intro ?_ ?_))
    rintro ⟨j,o⟩ ⟨i1,i2,i3⟩
    dsimp only at i1 i2 i3
    refine And.intro (fun hc=>?_) (fun hc=>?_)
    · obtain ⟨k,rfl⟩:=nn_of hc
      rw [show ((k:Int) + 1).toNat = k + 1 by omega] at i3
      obtain ⟨x,hx,hxl,hxn⟩:=get32 hl k
      obtain ⟨w1,w2,w3⟩:=hw k x hxn
      rw [← i3] at w1 w2
      have e1:=or64w w2 hxl
      rw [← hx] at e1
      refine And.intro (by decide) ?_
      refine And.intro ⟨by omega,by omega⟩ ?_
      (repeat' (first | (refine And.intro (fun h=>?_) (fun h=>?_)<;>(try simp [-List.getD_eq_getElem?_getD,-Int.pred_toNat] at h)<;>(try (exfalso; first | omega | contradiction))) | (refine And.intro (rng64 (by omega) (by omega)) ?_) | (refine And.intro ⟨by omega,by omega⟩ ?_) | (refine And.intro ⟨by omega,by omega,by omega⟩ ?_) | (intro _)))
      refine Exists.intro [] (Exists.intro ((k:Int) - 1,x + 4294967296 * o) (And.intro ⟨by dsimp only; omega,by dsimp only; omega,by dsimp only; rw [show ((k:Int) - 1 + 1).toNat = k by omega]; exact w1.symm⟩ (And.intro ?_ ?_)))
      · (repeat' (first | exact trivial | exact Or.inl rfl | exact Or.inl ((congrArg (AV.i .u64) e1)) | refine And.intro ?_ ?_))
      · show ((k:Int) - 1 + 1).toNat < ((k:Int) + 1).toNat
        omega
    · have hj : j = -1 := by have : ¬ 0 ≤ j := of_decide_eq_false hc
                             omega
      subst hj
      have hoQ:o = Q:=by rw [i3]; exact hv
      refine Exists.intro () (And.intro trivial ?_)
      (repeat' (first | exact trivial | exact Or.inl rfl | exact Or.inl ((congrArg (fun n:Nat=>AV.i .u64 n) hoQ)) | refine And.intro ?_ ?_))
  rintro ⟨⟩ _
  refine VCs.of_vc (by first | exact Γ_good | exact Ctx.good_kp Γ_good _) ?_
  refine Or.inl (Exists.intro _ (And.intro (qa) ?_))
  refine Or.inl (Exists.intro _ (And.intro (qc) ?_))
  have ev:=and1_64 Q (by omega)
  have ei:=inc64 (q:=Q) (by omega)
  rcases Nat.lt_trichotomy (R + R) D with h | h | h
  · have hc:cmpN (R + R) D = -1:=by unfold cmpN; rw [if_pos h]
    rw [hc]
    rw [if_neg (by omega)] at hrhe
    (focus (refine And.intro ?_ (fun h9=>?_); rotate_left 1; (focus (exfalso; revert h9; first | decide | (simp<;>omega) | (intro h9; simp at h9<;>omega))); refine fun _=>?_))
    (focus (refine And.intro (fun h9=>?_) ?_; (focus (exfalso; revert h9; first | decide | (simp<;>omega) | (intro h9; simp at h9<;>omega))); refine fun _=>?_))
    (focus (refine And.intro (fun h9=>?_) ?_; (focus (exfalso; revert h9; first | decide | (simp<;>omega) | (intro h9; simp at h9<;>omega))); refine fun _=>?_))
    rw [hrhe]
    rfl
  · have hc:cmpN (R + R) D = 0:=by unfold cmpN; rw [if_neg (by omega),if_neg (by omega)]
    rw [hc]
    (focus (refine And.intro ?_ (fun h9=>?_); rotate_left 1; (focus (exfalso; revert h9; first | decide | (simp<;>omega) | (intro h9; simp at h9<;>omega))); refine fun _=>?_))
    (focus (refine And.intro ?_ (fun h9=>?_); rotate_left 1; (focus (exfalso; revert h9; first | decide | (simp<;>omega) | (intro h9; simp at h9<;>omega))); refine fun _=>?_))
    refine And.intro (fun hc=>?_) (fun hc=>?_)
    · have hc:(bits .and .u64 (Q:Int) 1 == 1) = true:=hc
      rw [ev] at hc
      have hc:=eq_of_beq hc
      rw [if_pos (by omega)] at hrhe
      rw [hrhe]
      exact congrArg (AV.i .u64) ei
    · have hc:(bits .and .u64 (Q:Int) 1 == 1) = false:=hc
      rw [ev] at hc
      have hc:=ne_of_beq_false hc
      rw [if_neg (by omega)] at hrhe
      rw [hrhe]
      rfl
  · have hc:cmpN (R + R) D = 1:=by unfold cmpN; rw [if_neg (by omega),if_pos h]
    rw [hc]
    rw [if_pos (by omega)] at hrhe
    (focus (refine And.intro (fun h9=>?_) ?_; (focus (exfalso; revert h9; first | decide | (simp<;>omega) | (intro h9; simp at h9<;>omega))); refine fun _=>?_))
    (focus (refine And.intro ?_ (fun h9=>?_); rotate_left 1; (focus (exfalso; revert h9; first | decide | (simp<;>omega) | (intro h9; simp at h9<;>omega))); refine fun _=>?_))
    rw [hrhe]
    exact congrArg (AV.i .u64) ei
theorem s_scaled (m n:Nat) (e:Int) (hm:0 < m) (hn:0 < n) (hml:(dg 4294967296 m).length≤20000) (hnl:(dg 4294967296 n).length≤20000) (h1 : -4000≤e) (h2:e≤4000) (hq:upN m e / upD n e < 18446744073709551615):PSpec Tryd.prog 109 [.rd .u32 (dg 4294967296 m),.rd .u32 (dg 4294967296 n),.i .i64 e] (.i .u64 (sc m n e:Nat)) :=
  pspec_of_VCs Γ_good Tryd.func109 rfl Tryd.call109 Tryd.results109 Tryd.ntmps109 (Nat.le_of_ble_eq_true rfl) (w_scaled m n e hm hn hml hnl h1 h2 hq) Γ_good
end
end Go.Proofs.YtgacojkkbjhjoaaDoor
end
section
namespace Go.Proofs.YtgacojkkbjhjoaaDoor
set_option linter.unusedSectionVars false
set_option linter.unusedSimpArgs false
set_option linter.unusedVariables false
open Go Go.SX Go.Bg Go.Fl
set_option maxRecDepth 100000
set_option maxHeartbeats 4000000
def nearF (m:Nat) (e:Int):Nat:=if m = 0 then 0 else near (ratN m e) (ratD e)
def nearA (m:Nat) (e:Int):AV:=if 1280 < bl m∨e < -1000∨1000 < e then .tup [.i .u64 0,.i .i64 2] else .tup [.i .u64 (nearF m e:Nat),.i .i64 0]
theorem ratN_pos {m:Nat} (h:0 < m) (e:Int):0 < ratN m e:=by unfold ratN; split; exact h; exact Nat.mul_pos h (Nat.pow_pos (by decide))
theorem ratD_pos (e:Int):0 < ratD e:=by unfold ratD; split; exact Nat.pow_pos (by decide); decide
theorem bl_len {m K:Nat} (h:bl m≤32 * K):(dg 4294967296 m).length≤K:=dg_len_le b32 _ _ (by
  rw [pow_bits]
  exact Nat.lt_of_lt_of_le (bl_lt m) (Nat.pow_le_pow_right (by decide) h))
theorem len_bl {m K:Nat} (h:(dg 4294967296 m).length≤K):bl m≤32 * K:=by
  rcases Nat.eq_zero_or_pos m with h0 | h0
  · subst h0; exact Nat.zero_le _
  · have h1:=Nat.lt_of_lt_of_le (dg_lt_pow b32 m) (Nat.pow_le_pow_right (n:=4294967296) (by decide) h)
    rw [pow_bits] at h1
    obtain ⟨k,k1,k2,_⟩:=bl_bounds h0
    have:=(Nat.pow_lt_pow_iff_right (a:=2) (by decide)).1 (Nat.lt_of_le_of_lt k2 h1)
    omega
theorem mul_len {a b j k:Nat} (ha:(dg 4294967296 a).length≤j) (hb:(dg 4294967296 b).length≤k):(dg 4294967296 (a * b)).length≤j + k:=dg_len_le b32 _ _ (by
  rw [Nat.pow_add]
  exact Nat.mul_lt_mul'' (Nat.lt_of_lt_of_le (dg_lt_pow b32 a) (Nat.pow_le_pow_right (by decide) ha)) (Nat.lt_of_lt_of_le (dg_lt_pow b32 b) (Nat.pow_le_pow_right (by decide) hb)))
theorem ratN_len {m:Nat} {e:Int} {K:Nat} (h:(dg 4294967296 m).length≤K) (he:e≤1000):(dg 4294967296 (ratN m e)).length≤K + 1001:=by
  unfold ratN
  split
  · omega
  · exact mul_len h (Nat.le_trans (pow_len (by decide)) (by omega))
theorem ratD_len {e:Int} (he : -1000≤e):(dg 4294967296 (ratD e)).length≤1001:=by
  unfold ratD
  split
  · exact Nat.le_trans (pow_len (by decide)) (by omega)
  · exact Nat.le_trans (dg_len_le b32 1 1 (by decide)) (by decide)
def finE (q:Nat) (e:Int):Nat:=if q = 9007199254740992 then bitsE 4503599627370496 (e + 1) else bitsE q e
theorem bits_fin {q : Nat} {e : Int} (he : -1074 ≤ e) (h : e ≤ 971) (h1 : 4503599627370496 ≤ q) (h2 : q < 9007199254740992) :
    IntKind.u64.wrap (IntKind.u64.wrap (IntKind.u64.wrap (e + 1075) * 2 ^ (min (Int.toNat 52) IntKind.u64.bits)) + IntKind.u64.wrap ((q:Int) - 4503599627370496)) = (((e + 1075).toNat * 4503599627370496 + (q - 4503599627370496):Nat):Int):=by
  obtain ⟨k,hk⟩:∃ k:Nat,e + 1075 = k:=⟨(e + 1075).toNat,by omega⟩
  have hp:(2:Int) ^ (min (Int.toNat 52) IntKind.u64.bits) = 4503599627370496:=rfl
  rw [hk,hp,Int.toNat_natCast]
  simp only [IntKind.wrap_u64]
  omega
section
variable [G:Globs]
theorem w_near (a:List Int) (e:Int) (ha:Dg 4294967296 a) (hla:a.length≤100000):VCs Tryd.prog Γ 70 [0,1,4,5,6,7,8,9,20,23,39,45,53,56,59] (Tryd.f68.body.getD .skip) (postK Γ [.tmp 4,.tmp 5] (fun v=>v = nearA (vl 4294967296 a) e)) ⟨argSlots 0 [.rd .u32 a,.i .i64 e],[]⟩:=by
  have ql:=s_len a ha (by omega)
  have qt:=s_trim a ha (by omega)
  generalize vl 4294967296 a = m at *
  refine VCs.seq (by first | exact Γ_good | exact Ctx.good_kp Γ_good _) ?_
  by_cases h1:1280 < bl m
  · have hR:nearA m e = .tup [.i .u64 0,.i .i64 2]:=by rw [nearA,if_pos (.inl h1)]
    rw [hR]
    refine VCs.of_vc (by first | exact Γ_good | exact Ctx.good_kp Γ_good _) ?_
    refine Or.inl (Exists.intro _ (And.intro (ql) ?_))
    (repeat' (first | (refine And.intro (fun h=>?_) (fun h=>?_)<;>(try simp [-List.getD_eq_getElem?_getD,-Int.pred_toNat] at h)<;>(try (exfalso; first | omega | contradiction))) | (refine And.intro (rng64 (by omega) (by omega)) ?_) | (refine And.intro ⟨by omega,by omega⟩ ?_) | (refine And.intro ⟨by omega,by omega,by omega⟩ ?_) | (intro _)))
    all_goals rfl
  by_cases h2:e < -1000
  · have hR:nearA m e = .tup [.i .u64 0,.i .i64 2]:=by rw [nearA,if_pos (.inr (.inl h2))]
    rw [hR]
    refine VCs.of_vc (by first | exact Γ_good | exact Ctx.good_kp Γ_good _) ?_
    refine Or.inl (Exists.intro _ (And.intro (ql) ?_))
    (repeat' (first | (refine And.intro (fun h=>?_) (fun h=>?_)<;>(try simp [-List.getD_eq_getElem?_getD,-Int.pred_toNat] at h)<;>(try (exfalso; first | omega | contradiction))) | (refine And.intro (rng64 (by omega) (by omega)) ?_) | (refine And.intro ⟨by omega,by omega⟩ ?_) | (refine And.intro ⟨by omega,by omega,by omega⟩ ?_) | (intro _)))
    all_goals rfl
  by_cases h3:1000 < e
  · have hR:nearA m e = .tup [.i .u64 0,.i .i64 2]:=by rw [nearA,if_pos (.inr (.inr h3))]
    rw [hR]
    refine VCs.of_vc (by first | exact Γ_good | exact Ctx.good_kp Γ_good _) ?_
    refine Or.inl (Exists.intro _ (And.intro (ql) ?_))
    (repeat' (first | (refine And.intro (fun h=>?_) (fun h=>?_)<;>(try simp [-List.getD_eq_getElem?_getD,-Int.pred_toNat] at h)<;>(try (exfalso; first | omega | contradiction))) | (refine And.intro (rng64 (by omega) (by omega)) ?_) | (refine And.intro ⟨by omega,by omega⟩ ?_) | (refine And.intro ⟨by omega,by omega,by omega⟩ ?_) | (intro _)))
    all_goals rfl
  have hR:nearA m e = .tup [.i .u64 (nearF m e:Nat),.i .i64 0]:=by rw [nearA,if_neg (by omega)]
  rw [hR]
  refine VCs.seq (by first | exact Γ_good | exact Ctx.good_kp Γ_good _) ?_
  refine Or.inl (Exists.intro _ (And.intro (ql) ?_))
  (repeat' (first | (refine And.intro (fun h=>?_) (fun h=>?_)<;>(try simp [-List.getD_eq_getElem?_getD,-Int.pred_toNat] at h)<;>(try (exfalso; first | omega | contradiction))) | (refine And.intro (rng64 (by omega) (by omega)) ?_) | (refine And.intro ⟨by omega,by omega⟩ ?_) | (refine And.intro ⟨by omega,by omega,by omega⟩ ?_) | (intro _)))
  refine VCs.seq (by first | exact Γ_good | exact Ctx.good_kp Γ_good _) ?_
  refine Or.inl (Exists.intro _ (And.intro (ql) ?_))
  by_cases hm:m = 0
  · subst hm
    have hz:nearF 0 e = 0:=rfl
    rw [hz]
    (focus (refine And.intro ?_ (fun h9=>?_); rotate_left 1; (focus (exfalso; revert h9; first | decide | (simp<;>omega) | (intro h9; simp at h9<;>omega))); refine fun _=>?_))
    rfl
  have hm:0 < m:=by omega
  have hz:nearF m e = near (ratN m e) (ratD e):=by rw [nearF,if_neg (by omega)]
  rw [hz]
  refine And.intro (fun h9=>absurd (eq_of_beq h9) (by have:=bl_pos hm; omega)) (fun _=>?_)
  have hml:=bl_len (m:=m) (K:=40) (by omega)
  have qr:=s_ratio m e (by omega) (by omega) (by omega)
  have hN:=ratN_pos hm e
  have hD:=ratD_pos e
  have hNl:=ratN_len (e:=e) hml (by omega)
  have hDl:=ratD_len (e:=e) (by omega)
  generalize ratN m e = N at *
  generalize ratD e = D at *
  have hNb:=len_bl hNl
  have hDb:=len_bl hDl
  have qN:=s_len (dg 4294967296 N) (dg_Dg b32 _) (by omega)
  have qD:=s_len (dg 4294967296 D) (dg_Dg b32 _) (by omega)
  rw [vl_dg b32] at qN qD
  have hw:=near_way (n:=N) (d:=D) hD
  have hlt:=e0_lt N hD
  have hge:=e0_ge N D
  have h0:e0 N D = if ((bl N:Int) - bl D - 53) < -1074 then -1074 else (bl N:Int) - bl D - 53:=rfl
  refine VCs.seq (by first | exact Γ_good | exact Ctx.good_kp Γ_good _) ?_
  refine Or.inl (Exists.intro _ (And.intro (qt) ?_))
  refine Or.inl (Exists.intro _ (And.intro (qr) ?_))
  refine VCs.cut (by first | exact Γ_good | exact Ctx.good_kp Γ_good _) Unit (fun _=>True) (fun _=>⟨[(6,.rd .u32 (dg 4294967296 N)),(7,.rd .u32 (dg 4294967296 D)),(8,.i .i64 (e0 N D))],[]⟩) ?_ ?_
  · refine Or.inl (Exists.intro _ (And.intro (qN) ?_))
    refine Or.inl (Exists.intro _ (And.intro (qD) ?_))
    (repeat' (first | (refine And.intro (fun h=>?_) (fun h=>?_)<;>(try simp [-List.getD_eq_getElem?_getD,-Int.pred_toNat] at h)<;>(try (exfalso; first | omega | contradiction))) | (refine And.intro (rng64 (by omega) (by omega)) ?_) | (refine And.intro ⟨by omega,by omega⟩ ?_) | (refine And.intro ⟨by omega,by omega,by omega⟩ ?_) | (intro _)))
    refine Exists.intro () (And.intro trivial ?_)
    (repeat' (first | exact trivial | exact Or.inl rfl | exact Or.inl ((congrArg (AV.i .i64) h0.symm)) | refine And.intro ?_ ?_))
  rintro ⟨⟩ _
  clear h0
  have hq:=div_lt_of (upD_pos hD _) hlt
  have hq1:upN N (e0 N D + 1) / upD D (e0 N D + 1) < 9007199254740992:=div_lt_of (upD_pos hD _) (up_half' (c:=9007199254740992) hD hlt)
  have hs1:sc N D (e0 N D + 1)≤9007199254740992:=sc_le hD (up_half' (c:=9007199254740992) hD hlt)
  generalize e0 N D = E at *
  refine VCs.seq (by first | exact Γ_good | exact Ctx.good_kp Γ_good _) ?_
  refine And.intro (fun hc=>?_) (fun hc=>?_)
  · rw [hw.1 (of_decide_eq_true hc)]
    rfl
  have hc:¬ 971 < E:=of_decide_eq_false hc
  have qs0:=s_scaled N D E hN hD (by omega) (by omega) (by omega) (by omega) (by omega)
  have qs1:=s_scaled N D (E + 1) hN hD (by omega) (by omega) (by omega) (by omega) (by omega)
  refine VCs.seq (by first | exact Γ_good | exact Ctx.good_kp Γ_good _) ?_
  refine Or.inl (Exists.intro _ (And.intro (qs0) ?_))
  refine VCs.cut (by first | exact Γ_good | exact Ctx.good_kp Γ_good _) (Nat × Int) (fun x=>x.1≤9007199254740992∧-1074≤x.2∧x.2≤972∧near N D = finE x.1 x.2) (fun ⟨q,e⟩=>⟨[(8,.i .i64 e),(9,.i .u64 q)],[]⟩) ?_ ?_
  · refine And.intro (fun hd=>?_) (fun hd=>?_)
    · have hd:(9007199254740992:Int)≤((sc N D E:Nat):Int):=of_decide_eq_true hd
      have hd:9007199254740992≤sc N D E:=by omega
      have hn:near N D = finE (sc N D (E + 1)) (E + 1):=by
        unfold finE
        split
        · rename_i h; rw [hw.2.2.1 hd h,show E + 1 + 1 = E + 2 by omega]
        · rename_i h; exact hw.2.2.2 hd h
      (repeat' (first | (refine And.intro (fun h=>?_) (fun h=>?_)<;>(try simp [-List.getD_eq_getElem?_getD,-Int.pred_toNat] at h)<;>(try (exfalso; first | omega | contradiction))) | (refine And.intro (rng64 (by omega) (by omega)) ?_) | (refine And.intro ⟨by omega,by omega⟩ ?_) | (refine And.intro ⟨by omega,by omega,by omega⟩ ?_) | (intro _)))
      refine Or.inl (Exists.intro _ (And.intro (qs1) ?_))
      refine Exists.intro (sc N D (E + 1),E + 1) (And.intro ⟨hs1,by dsimp only; omega,by dsimp only; omega,hn⟩ ?_)
      (repeat' (first | exact trivial | exact Or.inl rfl | exact Or.inr (Or.inl ⟨rfl,_,rfl⟩) | exact Or.inr (Or.inr (Or.inr ⟨_,_,_,rfl,rfl⟩)) | refine And.intro ?_ ?_))
    · have hd:¬ (9007199254740992:Int)≤((sc N D E:Nat):Int):=of_decide_eq_false hd
      have hd:sc N D E < 9007199254740992:=by omega
      have hn:near N D = finE (sc N D E) E:=by
        unfold finE
        rw [if_neg (by omega)]
        exact hw.2.1 hd
      refine Exists.intro (sc N D E,E) (And.intro ⟨by dsimp only; omega,by dsimp only; omega,by dsimp only; omega,hn⟩ ?_)
      (repeat' (first | exact trivial | exact Or.inl rfl | exact Or.inr (Or.inl ⟨rfl,_,rfl⟩) | exact Or.inr (Or.inr (Or.inr ⟨_,_,_,rfl,rfl⟩)) | refine And.intro ?_ ?_))
  rintro ⟨q,e'⟩ ⟨g1,g2,g3,g4⟩
  dsimp only at g1 g2 g3 g4
  rw [g4]
  refine VCs.cut (by first | exact Γ_good | exact Ctx.good_kp Γ_good _) (Nat × Int) (fun x=>x.1 < 9007199254740992∧-1074≤x.2∧finE q e' = bitsE x.1 x.2) (fun ⟨q,e⟩=>⟨[(8,.i .i64 e),(9,.i .u64 q)],[]⟩) ?_ ?_
  · by_cases h:q = 9007199254740992
    · have hf:finE q e' = bitsE 4503599627370496 (e' + 1):=by rw [finE,if_pos h]
      refine And.intro (fun _=>?_) (fun h9=>absurd (show (q:Int) = 9007199254740992 by omega) (ne_of_beq_false h9))
      (repeat' (first | (refine And.intro (fun h=>?_) (fun h=>?_)<;>(try simp [-List.getD_eq_getElem?_getD,-Int.pred_toNat] at h)<;>(try (exfalso; first | omega | contradiction))) | (refine And.intro (rng64 (by omega) (by omega)) ?_) | (refine And.intro ⟨by omega,by omega⟩ ?_) | (refine And.intro ⟨by omega,by omega,by omega⟩ ?_) | (intro _)))
      refine Exists.intro (4503599627370496,e' + 1) (And.intro ⟨by dsimp only; omega,by dsimp only; omega,hf⟩ ?_)
      (repeat' (first | exact trivial | exact Or.inl rfl | exact Or.inr (Or.inl ⟨rfl,_,rfl⟩) | exact Or.inr (Or.inr (Or.inr ⟨_,_,_,rfl,rfl⟩)) | refine And.intro ?_ ?_))
    · refine And.intro (fun h9=>absurd (eq_of_beq h9) (show ¬ (q:Int) = 9007199254740992 by omega)) (fun _=>?_)
      refine Exists.intro (q,e') (And.intro ⟨by dsimp only; omega,g2,by rw [finE,if_neg h]⟩ ?_)
      (repeat' (first | exact trivial | exact Or.inl rfl | exact Or.inr (Or.inl ⟨rfl,_,rfl⟩) | exact Or.inr (Or.inr (Or.inr ⟨_,_,_,rfl,rfl⟩)) | refine And.intro ?_ ?_))
  rintro ⟨q,e'⟩ ⟨g1,g2,g3⟩
  dsimp only at g1 g2 g3
  rw [g3]
  refine VCs.of_vc (by first | exact Γ_good | exact Ctx.good_kp Γ_good _) ?_
  refine And.intro (fun hd=>?_) (fun hd=>?_)
  · rw [bitsE,if_pos (of_decide_eq_true hd)]
    rfl
  have hd:¬ 971 < e':=of_decide_eq_false hd
  rw [bitsE,if_neg hd]
  refine And.intro (fun hf=>?_) (fun hf=>?_)
  · have hf:(q:Int) < 4503599627370496:=of_decide_eq_true hf
    have hf:q < 4503599627370496:=by omega
    rw [if_pos hf]
    rfl
  have hf:¬ (q:Int) < 4503599627370496:=of_decide_eq_false hf
  have hf:¬ q < 4503599627370496:=by omega
  rw [if_neg hf]
  (repeat' (first | (refine And.intro (fun h=>?_) (fun h=>?_)<;>(try simp [-List.getD_eq_getElem?_getD,-Int.pred_toNat] at h)<;>(try (exfalso; first | omega | contradiction))) | (refine And.intro (rng64 (by omega) (by omega)) ?_) | (refine And.intro ⟨by omega,by omega⟩ ?_) | (refine And.intro ⟨by omega,by omega,by omega⟩ ?_) | (intro _)))
  refine And.intro (by decide) ?_
  exact congrArg (fun z=>AV.tup [AV.i .u64 z,.i .i64 0]) (bits_fin (by omega) (by omega) (by omega) g1)
theorem s_near (a:List Int) (e:Int) (ha:Dg 4294967296 a) (hla:a.length≤100000):PSpec Tryd.prog 68 [.rd .u32 a,.i .i64 e] (nearA (vl 4294967296 a) e) :=
  pspec_of_VCs Γ_good Tryd.func68 rfl Tryd.call68 Tryd.results68 Tryd.ntmps68 (Nat.le_of_ble_eq_true rfl) (w_near a e ha hla) Γ_good
end
end Go.Proofs.YtgacojkkbjhjoaaDoor
end
section
namespace Go.Fl
set_option linter.unusedSectionVars false
set_option linter.unusedSimpArgs false
set_option linter.unusedVariables false
open Go.Bg
set_option maxRecDepth 100000
theorem rhe_iff {a d q:Nat} (hd:0 < d):rhe a d = q↔(2 * a < d * (2 * q + 1)∨(2 * a = d * (2 * q + 1)∧q % 2 = 0))∧(d * (2 * q) < 2 * a + d∨(d * (2 * q) = 2 * a + d∧q % 2 = 0)):=by
  have hm:=Nat.div_add_mod a d
  have hr:=Nat.mod_lt a hd
  unfold rhe
  generalize a % d = r at *
  generalize a / d = k at *
  rw [show d * (2 * q + 1) = 2 * (d * q) + d by rw [Nat.mul_add,Nat.mul_left_comm,Nat.mul_one],Nat.mul_left_comm d 2 q]
  rcases Nat.lt_trichotomy k q with h | h | h
  · obtain ⟨t,rfl⟩:∃ t,q = k + 1 + t:=⟨q - k - 1,by omega⟩
    rw [show d * (k + 1 + t) = d * k + d + d * t by rw [Nat.mul_add,Nat.mul_add,Nat.mul_one]]
    rcases Nat.eq_zero_or_pos t with h0 | h0
    · subst h0
      rw [Nat.mul_zero]
      constructor
      · intro h1; split at h1<;>omega
      · intro h1; split<;>omega
    · have h2:d * 1≤d * t:=Nat.mul_le_mul_left d h0
      constructor
      · intro h1; split at h1<;>omega
      · intro h1; exfalso; omega
  · subst h
    constructor
    · intro h1; split at h1<;>omega
    · intro h1; split<;>omega
  · obtain ⟨t,rfl⟩:∃ t,k = q + 1 + t:=⟨k - q - 1,by omega⟩
    rw [show d * (q + 1 + t) = d * q + d + d * t by rw [Nat.mul_add,Nat.mul_add,Nat.mul_one]] at hm
    have h2:d * 0≤d * t:=Nat.mul_le_mul_left d (Nat.zero_le _)
    constructor
    · intro h1; split at h1<;>omega
    · intro h1; exfalso; omega
structure Canon (m:Nat) (e:Int):Prop where
  lo : -1074≤e
  hi:e≤971
  m0:0 < m
  m1:m < 9007199254740992
  m2:m < 4503599627370496→e = -1074
def lowC (m:Nat) (e:Int):Nat:=if m = 4503599627370496∧-1074 < e then 4 * m - 1 else 4 * m - 2
def In (m:Nat) (e:Int) (n d:Nat):Prop :=
  (upN n (e - 2) < upD d (e - 2) * (4 * m + 2)∨(upN n (e - 2) = upD d (e - 2) * (4 * m + 2)∧m % 2 = 0)) ∧
  (upD d (e - 2) * lowC m e < upN n (e - 2)∨(upD d (e - 2) * lowC m e = upN n (e - 2)∧m % 2 = 0))
theorem cancel_lt {A B A' B' c k:Nat} (hB:0 < B) (hB':0 < B') (h:A * B' = k * (A' * B)) (hk:0 < k):A < B * (k * c)↔A' < B' * c:=by
  have e1:B * (k * c) * B' = k * (B' * c * B):=by rw [Nat.mul_comm B (k * c),Nat.mul_assoc,Nat.mul_assoc,Nat.mul_comm B',Nat.mul_assoc c,Nat.mul_comm B']
  constructor
  · intro h1
    have h2:A * B' < B * (k * c) * B':=Nat.mul_lt_mul_of_pos_right h1 hB'
    rw [h,e1] at h2
    exact Nat.lt_of_mul_lt_mul_right (Nat.lt_of_mul_lt_mul_left h2)
  · intro h1
    have h2:k * (A' * B) < k * (B' * c * B):=Nat.mul_lt_mul_of_pos_left (Nat.mul_lt_mul_of_pos_right h1 hB) hk
    rw [← h,← e1] at h2
    exact Nat.lt_of_mul_lt_mul_right h2
theorem cancel_gt {A B A' B' c k:Nat} (hB:0 < B) (hB':0 < B') (h:A * B' = k * (A' * B)) (hk:0 < k):B * (k * c) < A↔B' * c < A':=by
  have e1:B * (k * c) * B' = k * (B' * c * B):=by rw [Nat.mul_comm B (k * c),Nat.mul_assoc,Nat.mul_assoc,Nat.mul_comm B',Nat.mul_assoc c,Nat.mul_comm B']
  constructor
  · intro h1
    have h2:B * (k * c) * B' < A * B':=Nat.mul_lt_mul_of_pos_right h1 hB'
    rw [h,e1] at h2
    exact Nat.lt_of_mul_lt_mul_right (Nat.lt_of_mul_lt_mul_left h2)
  · intro h1
    have h2:k * (B' * c * B) < k * (A' * B):=Nat.mul_lt_mul_of_pos_left (Nat.mul_lt_mul_of_pos_right h1 hB) hk
    rw [← h,← e1] at h2
    exact Nat.lt_of_mul_lt_mul_right h2
theorem cancel_eq {A B A' B' c k:Nat} (hB:0 < B) (hB':0 < B') (h:A * B' = k * (A' * B)) (hk:0 < k):A = B * (k * c)↔A' = B' * c:=by
  have h1:=cancel_lt (c:=c) hB hB' h hk
  have h2:=cancel_gt (c:=c) hB hB' h hk
  generalize B * (k * c) = x at *
  generalize B' * c = y at *
  omega
theorem in_half {m:Nat} {e:Int} {n d:Nat} (hd:0 < d) (hl:lowC m e = 4 * m - 2) (hm:0 < m):In m e n d↔sc n d e = m:=by
  have hs:=up_shift n d (e:=e - 2) (e':=e) (t:=2) (by omega)
  have p1:=upD_pos hd (e - 2)
  have p2:=upD_pos hd e
  unfold In sc
  rw [rhe_iff p2,hl]
  generalize upN n (e - 2) = A at *
  generalize upD d (e - 2) = B at *
  generalize upN n e = A' at *
  generalize upD d e = B' at *
  have hs:A * B' = 2 * (2 * A' * B):=by rw [hs,Nat.mul_assoc 2 A']; omega
  rw [show 4 * m + 2 = 2 * (2 * m + 1) by omega,show 4 * m - 2 = 2 * (2 * m - 1) by omega,cancel_lt p1 p2 hs (by decide),cancel_eq p1 p2 hs (by decide),cancel_gt p1 p2 hs (by decide),@eq_comm _ (B * (2 * (2 * m - 1))),cancel_eq p1 p2 hs (by decide)]
  have hx:B' * (2 * m) = B' * (2 * m - 1) + B':=by
    obtain ⟨j,rfl⟩:∃ j,m = j + 1:=⟨m - 1,by omega⟩
    rw [show 2 * (j + 1) = 2 * (j + 1) - 1 + 1 by omega,Nat.mul_add]
    simp
  generalize B' * (2 * m - 1) = y at *
  rw [hx]
  generalize B' * (2 * m + 1) = z at *
  constructor
  · rintro ⟨h1,h2⟩; exact ⟨h1,by omega⟩
  · rintro ⟨h1,h2⟩; exact ⟨h1,by omega⟩
theorem bits_lo {q:Nat} {e:Int} (he:e≤971) (h:q < 4503599627370496):bitsE q e = q:=by unfold bitsE; rw [if_neg (by omega),if_pos h]
theorem bits_hi {q:Nat} {e:Int} (he:e≤971) (h:¬ q < 4503599627370496):bitsE q e = (e + 1075).toNat * 4503599627370496 + (q - 4503599627370496):=by unfold bitsE; rw [if_neg (by omega),if_neg h]
theorem bits_inj {m q:Nat} {e f:Int} (h:Canon m e) (hq:q < 9007199254740992) (hf : -1074≤f) (hq2:q < 4503599627370496→f = -1074) (hb:bitsE q f = bitsE m e):q = m∧f = e:=by
  obtain ⟨h1,h2,h3,h4,h5⟩:=h
  have hf2:f≤971:=by
    refine Classical.byContradiction fun hc=>?_
    have:bitsE q f = 9218868437227405312:=by unfold bitsE; rw [if_pos (by omega)]
    rw [this] at hb
    by_cases hm:m < 4503599627370496
    · rw [bits_lo h2 hm] at hb; omega
    · rw [bits_hi h2 hm] at hb
      have h6:(e + 1075).toNat≤2046:=by omega
      have h7:(e + 1075).toNat * 4503599627370496≤9214364837600034816:=Nat.mul_le_mul_right 4503599627370496 h6
      generalize (e + 1075).toNat * 4503599627370496 = z at *
      omega
  by_cases hm:m < 4503599627370496
  · rw [bits_lo h2 hm] at hb
    by_cases hq':q < 4503599627370496
    · rw [bits_lo hf2 hq'] at hb
      exact ⟨hb,by rw [h5 hm,hq2 hq']⟩
    · rw [bits_hi hf2 hq'] at hb
      have h6:1≤(f + 1075).toNat:=by omega
      have h7:4503599627370496≤(f + 1075).toNat * 4503599627370496:=Nat.mul_le_mul_right 4503599627370496 h6
      generalize (f + 1075).toNat * 4503599627370496 = z at *
      omega
  · rw [bits_hi h2 hm] at hb
    by_cases hq':q < 4503599627370496
    · rw [bits_lo hf2 hq'] at hb
      have h6:1≤(e + 1075).toNat:=by omega
      have h7:4503599627370496≤(e + 1075).toNat * 4503599627370496:=Nat.mul_le_mul_right 4503599627370496 h6
      generalize (e + 1075).toNat * 4503599627370496 = z at *
      omega
    · rw [bits_hi hf2 hq'] at hb
      have hd:(f + 1075).toNat = (e + 1075).toNat:=by
        have h6:((f + 1075).toNat * 4503599627370496 + (q - 4503599627370496)) / 4503599627370496 = (f + 1075).toNat:=by
          rw [Nat.mul_comm,Nat.mul_add_div (by decide),Nat.div_eq_of_lt (by omega),Nat.add_zero]
        have h7:((e + 1075).toNat * 4503599627370496 + (m - 4503599627370496)) / 4503599627370496 = (e + 1075).toNat:=by
          rw [Nat.mul_comm,Nat.mul_add_div (by decide),Nat.div_eq_of_lt (by omega),Nat.add_zero]
        rw [← h6,← h7,hb]
      rw [hd] at hb
      exact ⟨by omega,by omega⟩
theorem ex_of {n d:Nat} {e:Int} (hn:0 < n) (hd:0 < d) (h:IsE n d e):ex n d = e:=(ex_is hn hd).uniq hd h
theorem round_up {x y z a b:Nat} (h9:z + b = 2 * y) (h8:z≤2 * a) (h12:y = 2 * x) (u0:a < y) (hb:b≤x):2 * a < 2 * y + b∧(2 * y < 2 * a + b∨2 * y = 2 * a + b)∧x≤a:=by omega
theorem near_iff {m:Nat} {e:Int} {n d:Nat} (h:Canon m e) (hn:0 < n) (hd:0 < d):near n d = bitsE m e↔In m e n d:=by
  obtain ⟨h1,h2,h3,h4,h5⟩:=h
  constructor
  · intro hb
    have hE:=ex_is hn hd
    unfold near at hb
    generalize ex n d = E at *
    obtain ⟨z1,z2,z3⟩:=hE
    have hq:=sc_le hd z2
    split at hb
    · rename_i h9
      obtain ⟨hm,he⟩:=bits_inj ⟨h1,h2,h3,h4,h5⟩ (by decide) (by omega) (fun h=>absurd h (by decide)) hb
      have he:e = E + 1:=he.symm
      have hlow:lowC m e = 4 * m - 1:=by unfold lowC; rw [if_pos ⟨hm.symm,by omega⟩]
      have p1:=upD_pos hd (e - 2)
      have p2:=upD_pos hd E
      have hs:=up_shift n d (e:=e - 2) (e':=E) (t:=1) (by omega)
      unfold sc at h9
      rw [rhe_iff p2] at h9
      unfold In
      rw [hlow,← hm]
      generalize upN n (e - 2) = A at *
      generalize upD d (e - 2) = B at *
      generalize upN n E = A' at *
      generalize upD d E = B' at *
      have hs2:A * B' = 1 * (2 * A' * B):=by rw [hs,Nat.mul_assoc 2 A']; omega
      have u1:=(cancel_lt (c:=18014398509481984) p1 p2 hs2 (by decide)).2 (by omega)
      have u2:=cancel_gt (c:=18014398509481983) p1 p2 hs2 (by decide)
      have u3:=cancel_eq (c:=18014398509481983) p1 p2 hs2 (by decide)
      rw [Nat.one_mul] at u1 u2 u3
      refine ⟨.inl (Nat.lt_of_lt_of_le u1 (Nat.mul_le_mul_left B (by decide))),?_⟩
      rw [show 4 * 4503599627370496 - 1 = 18014398509481983 from rfl,u2,@eq_comm _ (B * 18014398509481983),u3]
      omega
    · rename_i h9
      have hq2:sc n d E < 4503599627370496→E = -1074:=fun hc=>by
        rcases z3 with h | h
        · exact h
        · have:=sc_ge hd h; omega
      obtain ⟨hm,he⟩:=bits_inj ⟨h1,h2,h3,h4,h5⟩ (by omega) z1 hq2 hb
      subst he
      by_cases hc:m = 4503599627370496∧-1074 < E
      · have hlow:lowC m E = 4 * m - 1:=by unfold lowC; rw [if_pos hc]
        obtain ⟨hc1,hc2⟩:=hc
        have z3:upD d E * 4503599627370496≤upN n E:=by
          rcases z3 with h | h
          · omega
          · exact h
        have p1:=upD_pos hd (E - 2)
        have p2:=upD_pos hd E
        have hs:=up_shift n d (e:=E - 2) (e':=E) (t:=2) (by omega)
        unfold sc at hm
        rw [rhe_iff p2] at hm
        unfold In
        rw [hlow]
        generalize upN n (E - 2) = A at *
        generalize upD d (E - 2) = B at *
        generalize upN n E = A' at *
        generalize upD d E = B' at *
        have hs2:A * B' = 2 * (2 * A' * B):=by rw [hs,Nat.mul_assoc 2 A']; omega
        have u1:=cancel_lt (c:=2 * m + 1) p1 p2 hs2 (by decide)
        have u3:=cancel_eq (c:=2 * m + 1) p1 p2 hs2 (by decide)
        have u2:=cancel_gt (c:=2 * m) p1 p2 hs2 (by decide)
        have u4:=cancel_eq (c:=2 * m) p1 p2 hs2 (by decide)
        rw [show 2 * (2 * m + 1) = 4 * m + 2 by omega] at u1 u3
        rw [show 2 * (2 * m) = 4 * m by omega] at u2 u4
        rw [u1,u3]
        refine ⟨hm.1,.inl ?_⟩
        have hge:B * (4 * m)≤A:=by
          have h8:B' * (2 * m)≤2 * A':=by rw [Nat.mul_left_comm,hc1]; omega
          rcases Nat.lt_or_eq_of_le h8 with h | h
          · exact Nat.le_of_lt (u2.2 h)
          · exact Nat.le_of_eq (u4.2 h.symm).symm
        have:B * (4 * m - 1) < B * (4 * m):=Nat.mul_lt_mul_of_pos_left (by omega) p1
        omega
      · exact (in_half hd (by unfold lowC; rw [if_neg hc]) h3).2 hm
  · intro hIn
    by_cases hc:m = 4503599627370496∧-1074 < e
    · have hlow:lowC m e = 4 * m - 1:=by unfold lowC; rw [if_pos hc]
      obtain ⟨hc1,hc2⟩:=hc
      have p1:=upD_pos hd (e - 2)
      have p2:=upD_pos hd e
      have p3:=upD_pos hd (e - 1)
      have hs:=up_shift n d (e:=e - 2) (e':=e) (t:=2) (by omega)
      have hs1:=up_shift n d (e:=e - 2) (e':=e - 1) (t:=1) (by omega)
      have hs3:=up_shift n d (e:=e - 1) (e':=e) (t:=1) (by omega)
      unfold In at hIn
      rw [hlow] at hIn
      by_cases hx:upD d e * 4503599627370496≤upN n e
      · have hm : sc n d e = m ∧ IsE n d e := by
          unfold sc IsE
          rw [rhe_iff p2]
          generalize upN n (e - 2) = A at *
          generalize upD d (e - 2) = B at *
          generalize upN n e = A' at *
          generalize upD d e = B' at *
          have hs2:A * B' = 2 * (2 * A' * B):=by rw [hs,Nat.mul_assoc 2 A']; omega
          have u1:=cancel_lt (c:=2 * m + 1) p1 p2 hs2 (by decide)
          have u3:=cancel_eq (c:=2 * m + 1) p1 p2 hs2 (by decide)
          rw [show 2 * (2 * m + 1) = 4 * m + 2 by omega] at u1 u3
          rw [u1,u3] at hIn
          have h8:B' * (2 * m)≤2 * A':=by rw [Nat.mul_left_comm,hc1]; exact Nat.mul_le_mul_left 2 hx
          refine ⟨⟨hIn.1,.inl (by omega)⟩,h1,?_,.inr hx⟩
          have h9:B' * (2 * m + 1) < B' * 18014398509481984:=Nat.mul_lt_mul_of_pos_left (by omega) p2
          have h10:B' * 18014398509481984 = 2 * (B' * 9007199254740992):=by rw [Nat.mul_left_comm]
          rw [h10] at h9
          exact Nat.lt_of_mul_lt_mul_left (a:=2) (Nat.lt_of_le_of_lt (hIn.1.elim Nat.le_of_lt fun h=>Nat.le_of_eq h.1) h9)
        rw [near,ex_of hn hd hm.2,hm.1,if_neg (by omega)]
      · have hm : sc n d (e - 1) = 9007199254740992 ∧ IsE n d (e - 1) := by
          unfold sc IsE
          rw [rhe_iff p3]
          have hx:=Nat.lt_of_not_le hx
          generalize upN n (e - 2) = A at *
          generalize upD d (e - 2) = B at *
          generalize upN n (e - 1) = A1 at *
          generalize upD d (e - 1) = B1 at *
          generalize upN n e = A' at *
          generalize upD d e = B' at *
          have u0:=(cancel_lt (c:=4503599627370496) p3 p2 hs3 (by decide)).2 hx
          have hs2:A * B1 = 1 * (2 * A1 * B):=by rw [hs1,Nat.mul_assoc 2 A1]; omega
          have u2:=cancel_gt (c:=4 * m - 1) p1 p3 hs2 (by decide)
          have u4:=cancel_eq (c:=4 * m - 1) p1 p3 hs2 (by decide)
          rw [Nat.one_mul] at u2 u4
          have h8:B1 * (4 * m - 1)≤2 * A1:=by
            rcases hIn.2 with h | h
            · exact Nat.le_of_lt (u2.1 h)
            · exact Nat.le_of_eq (u4.1 h.1.symm).symm
          have u0:A1 < B1 * 9007199254740992:=u0
          have h9:B1 * (4 * m - 1) + B1 = B1 * (2 * 9007199254740992):=by
            rw [← Nat.mul_succ]; congr 1; omega
          have h10:B1 * (2 * 9007199254740992) = 2 * (B1 * 9007199254740992):=Nat.mul_left_comm _ _ _
          have h11:B1 * (2 * 9007199254740992 + 1) = B1 * (2 * 9007199254740992) + B1:=Nat.mul_succ _ _
          have h12:B1 * 9007199254740992 = 2 * (B1 * 4503599627370496):=Nat.mul_left_comm B1 2 4503599627370496
          rw [h11,h10]
          rw [h10] at h9
          obtain ⟨k1,k2,k3⟩:=round_up h9 h8 h12 u0 (Nat.le_mul_of_pos_right _ (by decide))
          refine ⟨⟨.inl k1,?_⟩,by omega,u0,.inr k3⟩
          rcases k2 with h | h
          · exact .inl h
          · exact .inr ⟨h,by decide⟩
        rw [near,ex_of hn hd hm.2,hm.1,if_pos rfl,← hc1,show e - 1 + 1 = e by omega]
    · have hl:lowC m e = 4 * m - 2:=by unfold lowC; rw [if_neg hc]
      have hm:=(in_half hd hl h3).1 hIn
      have p2:=upD_pos hd e
      have hr:=hm
      unfold sc at hr
      rw [rhe_iff p2] at hr
      have hE:IsE n d e:=by
        refine ⟨h1,?_,?_⟩
        · have:upD d e * (2 * m + 1) < upD d e * 18014398509481984:=Nat.mul_lt_mul_of_pos_left (by omega) p2
          omega
        · by_cases he:e = -1074
          · exact .inl he
          · right
            have hm2:4503599627370497≤m:=by
              refine Classical.byContradiction fun h=>?_
              have:m < 4503599627370496∨m = 4503599627370496:=by omega
              rcases this with h6 | h6
              · exact he (h5 h6)
              · exact hc ⟨h6,by omega⟩
            have h7:upD d e * 9007199254740994≤upD d e * (2 * m):=Nat.mul_le_mul_left _ (by omega)
            obtain ⟨_,hr⟩:=hr
            generalize upD d e * (2 * m) = z at *
            generalize upD d e = x at *
            generalize upN n e = y at *
            clear hm h1 h2 h3 h4 h5 hl hIn
            rw [Nat.mul_comm] at h7
            rw [Nat.mul_comm]
            omega
      rw [near,ex_of hn hd hE,hm,if_neg (by omega)]
end Go.Fl
end
section
namespace Go.Fl
set_option linter.unusedSectionVars false
set_option linter.unusedSimpArgs false
set_option linter.unusedVariables false
open Go.Bg Go.SX
set_option maxRecDepth 100000
/-! ### decimal digits -/
theorem b10d:2≤10:=by decide
theorem dv_dstr {l:List Int} (h:Dg 10 l):dv (dstr l) = vl 10 l:=by
  induction l with
  | nil=>rfl
  | cons x r ih =>
    have hx:=h x (List.mem_cons_self ..)
    have hr:Dg 10 r:=fun y hy=>h y (List.mem_cons_of_mem _ hy)
    have e:dstr (x::r) = dstr r++[dch x]:=by simp [dstr]
    rw [e,dv_snoc,ih hr,dch_nat hx,vl]
    omega
theorem dv_decS (n:Nat):dv (decS n) = n:=by
  unfold decS
  split
  · rename_i h; subst h; rfl
  · rw [dv_dstr (dg_Dg b10d n),vl_dg b10d]
theorem decS_isd (n:Nat):∀ c ∈ decS n,isd c:=by
  intro c hc
  unfold decS at hc
  split at hc
  · have:c = 48:=by simpa using hc
    subst this; decide
  · unfold dstr at hc
    obtain ⟨x,hx,rfl⟩:=List.mem_map.1 hc
    have:=dg_Dg b10d n x (List.mem_reverse.1 hx)
    have h2:=dch_nat this
    unfold isd
    omega
theorem decS_len {n:Nat} (h:0 < n):(decS n).length = (dg 10 n).length:=by unfold decS dstr; rw [if_neg (by omega)]; simp
theorem decS_lt {n:Nat} (h:0 < n):n < 10 ^ (decS n).length:=by rw [decS_len h]; exact dg_lt_pow b10d n
theorem decS_ge {n:Nat} (h:0 < n):10 ^ ((decS n).length - 1)≤n:=by rw [decS_len h]; exact dg_ge b10d h
theorem decS_pos {n:Nat} (h:0 < n):0 < (decS n).length:=by
  rw [decS_len h]
  refine List.length_pos_iff.2 fun h2=>?_
  have:=(dg_nil_iff b10d n).1 h2
  omega
theorem dg_ten {n:Nat} (h:0 < n) (j:Nat):dg 10 (n * 10 ^ j) = List.replicate j 0++dg 10 n:=by
  have hne:dg 10 n≠[]:=fun e=>by have:=(dg_nil_iff b10d n).1 e; omega
  have:=canon b10d (l:=List.replicate j (0:Int)++dg 10 n) ((Dg.replicate (by decide) _).append (dg_Dg b10d n)) (by
    rw [List.getLast?_append,List.getLast?_eq_some_getLast hne]
    have:=dg_last_ne b10d n
    rw [List.getLast?_eq_some_getLast hne] at this
    simpa using this)
  rw [vl_append,vl_replicate,vl_dg b10d,Nat.zero_add,List.length_replicate,Nat.mul_comm] at this
  exact this
theorem decS_ten {n:Nat} (h:0 < n) (j:Nat):decS (n * 10 ^ j) = decS n++List.replicate j 48:=by
  have h2:0 < n * 10 ^ j:=Nat.mul_pos h (Nat.pow_pos (by decide))
  unfold decS dstr
  rw [if_neg (by omega),if_neg (by omega),dg_ten h]
  simp
  exact .inr rfl
def strip (s:Str):Str:=Lib.trimRightB s 48
theorem strip_ten (s:Str) (j:Nat):strip (s++List.replicate j 48) = strip s:=by
  unfold strip Lib.trimRightB
  rw [List.reverse_append,List.reverse_replicate]
  congr 1
  induction j with
  | zero=>rfl
  | succ j ih=>rw [List.replicate_succ,List.cons_append,List.dropWhile_cons,if_pos (by decide),ih]
theorem strip_le (s:Str):(strip s).length≤s.length:=by
  unfold strip Lib.trimRightB
  rw [List.length_reverse,← @List.length_reverse _ s]
  exact (List.dropWhile_sublist _).length_le
def shRes (B:Nat) (k:Int):Str × Int:=(strip (decS B),k + (((decS B).length - (strip (decS B)).length:Nat):Int))
theorem dv_front {V j:Nat} (hV:0 < V) (hj:j≤(decS V).length):dv ((decS V).take ((decS V).length - j)) = V / 10 ^ j:=by
  have h:=dv_split (decS V) ((decS V).length - j)
  rw [dv_decS] at h
  have hl:((decS V).drop ((decS V).length - j)).length = j:=by rw [List.length_drop]; omega
  have hlt:=dv_lt (s:=(decS V).drop ((decS V).length - j)) (fun c hc=>decS_isd V c (List.mem_of_mem_drop hc))
  rw [hl] at h hlt
  generalize dv ((decS V).drop ((decS V).length - j)) = r at h hlt
  generalize dv ((decS V).take ((decS V).length - j)) = q at h
  rw [h,Nat.mul_comm,Nat.mul_add_div (Nat.pow_pos (by decide)),Nat.div_eq_of_lt hlt,Nat.add_zero]
/-! ### the search for the shortest digits -/
def vN (m:Nat) (e:Int):Nat:=m * 2 ^ e.toNat
def vD (e:Int):Nat:=2 ^ (-e).toNat
def tN (c:Nat) (k:Int):Nat:=c * 10 ^ k.toNat
def tD (k:Int):Nat:=10 ^ (-k).toNat
def qN (m:Nat) (e k:Int):Nat:=vN m e * tD k
def qD (e k:Int):Nat:=tN (vD e) k
def lowQ (m:Nat) (e k:Int):Nat:=qN m e k / qD e k
def remQ (m:Nat) (e k:Int):Nat:=qN m e k % qD e k
def highQ (m:Nat) (e k:Int):Nat:=if remQ m e k = 0 then lowQ m e k else lowQ m e k + 1
def okQ (m:Nat) (e k:Int) (c:Nat):Prop:=In m e (tN c k) (tD k)
def acc (m:Nat) (e k:Int):Prop:=okQ m e k (lowQ m e k)∨okQ m e k (highQ m e k)
open Classical in
noncomputable def pickQ (m:Nat) (e k:Int):Nat:=if ¬ okQ m e k (lowQ m e k)∨(okQ m e k (highQ m e k)∧(qD e k < 2 * remQ m e k∨(2 * remQ m e k = qD e k∧lowQ m e k % 2 = 1))) then highQ m e k else lowQ m e k
open Classical in
noncomputable def lst (p:Nat→Prop):Nat→Nat→Nat
  | 0,n=>n
  | f + 1,n=>if p n then n else lst p f (n + 1)
theorem lst_eq {p:Nat→Prop}:∀ {f s n:Nat},s≤n→n≤s + f→p n→(∀ j,s≤j→j < n→¬ p j)→lst p f s = n:=by
  intro f
  induction f with
  | zero=>intro s n h1 h2 _ _; rw [lst]; omega
  | succ f ih =>
    intro s n h1 h2 hp hn
    rw [lst]
    by_cases h:p s
    · rw [if_pos h]
      rcases Nat.lt_or_ge s n with h3 | h3
      · exact absurd h (hn s (Nat.le_refl _) h3)
      · omega
    · rw [if_neg h]
      have:s≠n:=fun e=>h (e ▸ hp)
      exact ih (by omega) (by omega) hp (fun j hj=>hn j (by omega))
def Bel (m:Nat) (e p:Int):Prop:=qN m e p < qD e p
def IsTop (m:Nat) (e p:Int):Prop:=Bel m e p∧¬ Bel m e (p - 1)
theorem bel_mono {m:Nat} {e p:Int} (h:Bel m e p) (t:Nat):Bel m e (p + t):=by
  unfold Bel qN qD tD tN at *
  have h1:(-p).toNat + (p + t).toNat = p.toNat + ((-(p + t)).toNat + t):=by omega
  have hp:0 < 10 ^ ((p + t).toNat):=Nat.pow_pos (by decide)
  have h2:=Nat.mul_lt_mul_of_pos_right h hp
  have e1:vN m e * 10 ^ (-p).toNat * 10 ^ (p + t).toNat = vN m e * (10 ^ p.toNat * (10 ^ (-(p + t)).toNat * 10 ^ t)):=by
    rw [Nat.mul_assoc,← Nat.pow_add,h1,Nat.pow_add,Nat.pow_add]
  have e2:vD e * 10 ^ p.toNat * 10 ^ (p + t).toNat = 10 ^ p.toNat * (vD e * 10 ^ (p + t).toNat):=by rw [Nat.mul_comm (vD e),Nat.mul_assoc]
  rw [e1,e2,Nat.mul_left_comm] at h2
  have h3:=Nat.lt_of_mul_lt_mul_left h2
  refine Nat.lt_of_le_of_lt ?_ h3
  rw [← Nat.mul_assoc]
  exact Nat.le_mul_of_pos_right _ (Nat.pow_pos (by decide))
theorem top_uniq {m:Nat} {e p p':Int} (h:IsTop m e p) (h':IsTop m e p'):p = p':=by
  have key:∀ {p p':Int},IsTop m e p→IsTop m e p'→p'≤p:=by
    intro p p' h h'
    rcases Int.lt_or_le p p' with hl | hl
    · exfalso
      obtain ⟨t,ht⟩:∃ t:Nat,p' - 1 = p + t:=⟨(p' - 1 - p).toNat,by omega⟩
      have:=bel_mono h.1 t
      rw [← ht] at this
      exact h'.2 this
    · exact hl
  have:=key h h'
  have:=key h' h
  omega
open Classical in
noncomputable def topOf (m:Nat) (e:Int):Int:=if h:∃ p,IsTop m e p then h.choose else 0
theorem topOf_eq {m:Nat} {e p:Int} (h:IsTop m e p):topOf m e = p:=by
  unfold topOf
  rw [dif_pos ⟨p,h⟩]
  exact top_uniq (Exists.choose_spec (⟨p,h⟩:∃ p,IsTop m e p)) h
noncomputable def bestN (m:Nat) (e:Int):Nat:=lst (fun n=>acc m e (topOf m e - n)) 18 1
noncomputable def shortR (m:Nat) (e:Int):Str × Int:=shRes (pickQ m e (topOf m e - bestN m e)) (topOf m e - bestN m e)
theorem tD_pos (k:Int):0 < tD k:=Nat.pow_pos (by decide)
theorem vD_pos (e:Int):0 < vD e:=Nat.pow_pos (by decide)
theorem qD_pos (e k:Int):0 < qD e k:=Nat.mul_pos (vD_pos e) (Nat.pow_pos (by decide))
theorem ten_rel {k k':Int} {n:Nat} (h:k' = k + n):10 ^ k.toNat * (10 ^ n * 10 ^ (-k').toNat) = 10 ^ k'.toNat * 10 ^ (-k).toNat:=by
  rw [← Nat.pow_add,← Nat.pow_add,← Nat.pow_add]
  congr 1
  omega
theorem two_rel (e:Int):2 ^ (-(e - 2)).toNat * 2 ^ e.toNat = 4 * (2 ^ (e - 2).toNat * 2 ^ (-e).toNat):=by
  rw [← Nat.pow_add,← Nat.pow_add,show 4 = 2 ^ 2 from rfl,← Nat.pow_add]
  congr 1
  omega
theorem top_low {m:Nat} {e p:Int} (h:¬ Bel m e (p - 1)) {n:Nat} (hn:1≤n):0 < lowQ m e (p - n):=by
  unfold lowQ
  refine Nat.div_pos (Nat.le_of_not_lt fun hc=>h ?_) (qD_pos _ _)
  have:=bel_mono (show Bel m e (p - n) from hc) (n - 1)
  rwa [show p - n + ((n - 1:Nat):Int) = p - 1 by omega] at this
theorem low_lt {m:Nat} {e p:Int} (h:Bel m e p) (n:Nat):lowQ m e (p - n) < 10 ^ n:=by
  unfold lowQ
  rw [Nat.div_lt_iff_lt_mul (qD_pos _ _)]
  unfold Bel qN qD tN tD at *
  have hr:=ten_rel (k:=p - n) (k':=p) (n:=n) (by omega)
  have hw:0 < 10 ^ (-(p - n)).toNat:=Nat.pow_pos (by decide)
  have hP2:0 < 10 ^ (-p).toNat:=Nat.pow_pos (by decide)
  generalize 10 ^ (p - n).toNat = u at *
  generalize 10 ^ (-(p - n)).toNat = w at *
  generalize 10 ^ p.toNat = P1 at *
  generalize 10 ^ (-p).toNat = P2 at *
  have h2:=Nat.mul_lt_mul_of_pos_right h hw
  refine Nat.lt_of_mul_lt_mul_right (a:=P2) ?_
  rw [show 10 ^ n * (vD e * u) * P2 = vD e * (u * (10 ^ n * P2)) by simp only [Nat.mul_assoc,Nat.mul_left_comm,Nat.mul_comm],hr]
  rw [show vN m e * w * P2 = vN m e * P2 * w by rw [Nat.mul_assoc,Nat.mul_comm w,Nat.mul_assoc]]
  rw [← Nat.mul_assoc]
  exact h2
theorem acc_end {m:Nat} {e p:Int} (h:Canon m e) (ht:¬ Bel m e (p - 1)):acc m e (p - 18):=by
  obtain ⟨h1,h2,h3,h4,h5⟩:=h
  left
  unfold okQ In
  have hlow:lowC m e≤4 * m - 1:=by unfold lowC; split<;>omega
  have hm:=Nat.div_add_mod (qN m e (p - 18)) (qD e (p - 18))
  have hr:=Nat.mod_lt (qN m e (p - 18)) (qD_pos e (p - 18))
  have hL:lowQ m e (p - 18) = qN m e (p - 18) / qD e (p - 18):=rfl
  rw [← hL] at hm
  generalize lowQ m e (p - 18) = c at *
  have r10:=ten_rel (k:=p - 18) (k':=p - 1) (n:=17) (by omega)
  have r2:=two_rel e
  unfold Bel qN qD vN vD tN tD at *
  unfold upN upD
  have pu:0 < 10 ^ (p - 18).toNat:=Nat.pow_pos (by decide)
  have pw:0 < 10 ^ (-(p - 18)).toNat:=Nat.pow_pos (by decide)
  have pE1:0 < 2 ^ e.toNat:=Nat.pow_pos (by decide)
  have pE2:0 < 2 ^ (-e).toNat:=Nat.pow_pos (by decide)
  have pb:0 < 2 ^ (e - 2).toNat:=Nat.pow_pos (by decide)
  have pa:0 < 2 ^ (-(e - 2)).toNat:=Nat.pow_pos (by decide)
  have pP2:0 < 10 ^ (-(p - 1)).toNat:=Nat.pow_pos (by decide)
  have hx:=Nat.le_of_not_lt ht
  generalize 10 ^ (p - 18).toNat = u at *
  generalize 10 ^ (-(p - 18)).toNat = w at *
  generalize 10 ^ (p - 1).toNat = P1 at *
  generalize 10 ^ (-(p - 1)).toNat = P2 at *
  generalize 2 ^ e.toNat = E1 at *
  generalize 2 ^ (-e).toNat = E2 at *
  generalize 2 ^ (e - 2).toNat = b at *
  generalize 2 ^ (-(e - 2)).toNat = a at *
  clear hL ht
  -- 10^k is no more than a quarter of the unit
  have q1:a * u≤b * w:=by
    refine Nat.le_of_mul_le_mul_right (c:=10 ^ 17 * P2 * E1) ?_ (Nat.mul_pos (Nat.mul_pos (Nat.pow_pos (by decide)) pP2) pE1)
    rw [show a * u * (10 ^ 17 * P2 * E1) = (a * E1) * (u * (10 ^ 17 * P2)) by simp only [Nat.mul_assoc,Nat.mul_left_comm,Nat.mul_comm],r2,r10]
    rw [show 4 * (b * E2) * (P1 * w) = 4 * (b * w) * (E2 * P1) by simp only [Nat.mul_assoc,Nat.mul_left_comm,Nat.mul_comm]]
    refine Nat.le_trans (Nat.mul_le_mul_left _ hx) ?_
    rw [show 4 * (b * w) * (m * E1 * P2) = (b * w) * (4 * m) * (P2 * E1) by simp only [Nat.mul_assoc,Nat.mul_left_comm,Nat.mul_comm],show b * w * (10 ^ 17 * P2 * E1) = (b * w) * 10 ^ 17 * (P2 * E1) by simp only [Nat.mul_assoc]]
    exact Nat.mul_le_mul_right _ (Nat.mul_le_mul_left _ (by omega))
  -- the value in quarters
  have v1:a * (m * E1 * w) = (b * w) * (4 * m) * E2:=by
    rw [show a * (m * E1 * w) = (a * E1) * (m * w) by simp only [Nat.mul_assoc,Nat.mul_left_comm,Nat.mul_comm],r2]
    simp only [Nat.mul_assoc,Nat.mul_left_comm,Nat.mul_comm]
  have lo1:a * (c * u)≤(b * w) * (4 * m):=by
    refine Nat.le_of_mul_le_mul_right (c:=E2) ?_ pE2
    rw [← v1,Nat.mul_assoc]
    refine Nat.mul_le_mul_left a ?_
    rw [show c * u * E2 = E2 * u * c by simp only [Nat.mul_assoc,Nat.mul_left_comm,Nat.mul_comm]]
    omega
  have lo2:(b * w) * (4 * m) < a * (c * u) + a * u:=by
    refine Nat.lt_of_mul_lt_mul_right (a:=E2) ?_
    rw [← v1,← Nat.mul_add,Nat.mul_assoc a (c * u + u) E2]
    refine Nat.mul_lt_mul_of_pos_left ?_ pa
    rw [Nat.add_mul,show c * u * E2 = E2 * u * c by simp only [Nat.mul_assoc,Nat.mul_left_comm,Nat.mul_comm],Nat.mul_comm u E2]
    omega
  refine ⟨.inl ?_,.inl ?_⟩
  · refine Nat.lt_of_le_of_lt lo1 (Nat.mul_lt_mul_of_pos_left (by omega) (Nat.mul_pos pb pw))
  · have l3:b * w * lowC m e≤b * w * (4 * m - 1):=Nat.mul_le_mul_left _ hlow
    have l4:b * w * (4 * m - 1) + b * w = b * w * (4 * m):=by
      rw [← Nat.mul_succ]; congr 1; omega
    omega
theorem in_scaled {c C s : Nat} {k e : Int} (hk : 0 ≤ k + s) (he : 0 ≤ e - 2 + s) :
    (upN (tN c k) (e - 2) < upD (tD k) (e - 2) * C↔c * 10 ^ (k + s).toNat < C * (5 ^ s * 2 ^ (e - 2 + s).toNat)) ∧
    (upD (tD k) (e - 2) * C < upN (tN c k) (e - 2)↔C * (5 ^ s * 2 ^ (e - 2 + s).toNat) < c * 10 ^ (k + s).toNat):=by
  have r1:10 ^ (k + s).toNat * 10 ^ (-k).toNat = 10 ^ k.toNat * 10 ^ s:=by rw [← Nat.pow_add,← Nat.pow_add]; congr 1; omega
  have r2:2 ^ (e - 2 + s).toNat * 2 ^ (-(e - 2)).toNat = 2 ^ (e - 2).toNat * 2 ^ s:=by rw [← Nat.pow_add,← Nat.pow_add]; congr 1; omega
  have r3:10 ^ s = 2 ^ s * 5 ^ s:=by rw [← Nat.mul_pow]
  have pF:0 < 10 ^ s:=Nat.pow_pos (by decide)
  have pG:0 < 2 ^ (-(e - 2)).toNat * 10 ^ (-k).toNat:=Nat.mul_pos (Nat.pow_pos (by decide)) (Nat.pow_pos (by decide))
  have hX:upN (tN c k) (e - 2) * 10 ^ s = (c * 10 ^ (k + s).toNat) * (2 ^ (-(e - 2)).toNat * 10 ^ (-k).toNat):=by
    unfold upN tN
    rw [show c * 10 ^ (k + s).toNat * (2 ^ (-(e - 2)).toNat * 10 ^ (-k).toNat) = c * 2 ^ (-(e - 2)).toNat * (10 ^ (k + s).toNat * 10 ^ (-k).toNat) by simp only [Nat.mul_assoc,Nat.mul_left_comm,Nat.mul_comm],r1]
    simp only [Nat.mul_assoc,Nat.mul_left_comm,Nat.mul_comm]
  have hY:upD (tD k) (e - 2) * C * 10 ^ s = (C * (5 ^ s * 2 ^ (e - 2 + s).toNat)) * (2 ^ (-(e - 2)).toNat * 10 ^ (-k).toNat):=by
    unfold upD tD
    rw [show C * (5 ^ s * 2 ^ (e - 2 + s).toNat) * (2 ^ (-(e - 2)).toNat * 10 ^ (-k).toNat) = C * 5 ^ s * 10 ^ (-k).toNat * (2 ^ (e - 2 + s).toNat * 2 ^ (-(e - 2)).toNat) by simp only [Nat.mul_assoc,Nat.mul_left_comm,Nat.mul_comm],r2,r3]
    simp only [Nat.mul_assoc,Nat.mul_left_comm,Nat.mul_comm]
  generalize upN (tN c k) (e - 2) = X at *
  generalize upD (tD k) (e - 2) * C = Y at *
  generalize c * 10 ^ (k + s).toNat = X' at *
  generalize C * (5 ^ s * 2 ^ (e - 2 + s).toNat) = Y' at *
  generalize 2 ^ (-(e - 2)).toNat * 10 ^ (-k).toNat = g at *
  generalize 10 ^ s = f at *
  constructor
  · rw [← Nat.mul_lt_mul_right pF,hX,hY,Nat.mul_lt_mul_right pG]
  · rw [← Nat.mul_lt_mul_right pF,hX,hY,Nat.mul_lt_mul_right pG]
end Go.Fl
end
