/-
  A part of a proof: plain laws and walks, one after the other. No conditions.
-/
import Derived.Test.YtdcdmojbkmedpaaDoorTy4
set_option linter.constructorNameAsVariable false
set_option linter.unusedVariables false
set_option linter.unusedSimpArgs false
set_option linter.unusedSectionVars false
section
namespace Go.Proofs.YtdcdmojbkmedpaaDoor
open Go Go.SX Go.Ck Go.Vl Go.Ut Go.Ty
set_option maxRecDepth 100000
set_option maxHeartbeats 4000000
theorem walk_eq (l:List DefR) (t:TypR) (m a:Int):scan l (preT t a) m = if lookF l ⟨t,a⟩ m≠0 then (lookF l ⟨t,a⟩ m,m + 1) else scan l ((inside t).flatMap fun x=>preT x (a + 1)) (m + 1):=by
 rw [preT_eq,scan]
theorem look_zero {l:List DefR} {t:TypR} {m a:Int} (h:lookF l ⟨t,a⟩ m = 0):m + 1≤200∧a < 20:=by
 unfold lookF at h
 split at h
 ·cases h
 ·split at h
  ·cases h
  ·rename_i h1 h2
   exact ⟨by omega,by have h2:¬ 20≤a:=h2; omega⟩
theorem scan_drop (l:List DefR) (f:TypR→List TPlace) {L:List TypR} {i:Nat} (h:i < L.length) (m:Int):scan l ((L.drop i).flatMap f) m = if (scan l (f L[i]) m).1≠0 then scan l (f L[i]) m else scan l ((L.drop (i + 1)).flatMap f) (scan l (f L[i]) m).2:=by
 rw [List.drop_eq_getElem_cons h,List.flatMap_cons,scan_append]
section
variable [G:Globs]
theorem w_look (hu:HasU8) (s:SchemaR) (t:TypR) (ht:TB t) (m a:Int) (h0:0≤m) (h1:m≤200) (h2:0≤a) (h3:a≤20):vc Tryd.prog Γ 60 [0,2,4,6,14,20,23,27,42,43,48,53,59,1000] (Tryd.f97.body.getD .skip) (postBK Γ [.tmp 6] (.i .i64 (lookF s.defs ⟨t,a⟩ m)) [(1000,chkC s (m + 1))]) ⟨argSlots 0 [.pt 1000 0,.agg (encTyp t),.i .i64 a],[(1000,chkC s m)]⟩:=by
 have hK:=s_empty t
 have hX:=s_texts hu t.texts
 have hD:=s_defB s (m + 1) t.name
 cases ht with
 | mk _ bk bl bh bn bf _ _ =>
 have hF:=s_fields hu t.f bf
 by_cases c1:200 < m + 1
 ·have hr:lookF s.defs ⟨t,a⟩ m = 2:=if_pos c1
  rw [hr]
  (repeat' (first | (refine And.intro (fun h=>?_) (fun h=>?_)<;>(try simp [-List.getD_eq_getElem?_getD,-Int.pred_toNat] at h)<;>(try (exfalso; first | omega | contradiction))) | (refine And.intro (rng64 (by omega) (by omega)) ?_) | (refine And.intro ⟨by omega,by omega⟩ ?_) | (refine And.intro ⟨by omega,by omega,by omega⟩ ?_) | (intro _)))
  all_goals exact Exists.intro [] (And.intro rfl (by (repeat' (first | exact trivial | exact Or.inl rfl | exact Or.inr (Or.inl ⟨rfl,_,rfl⟩) | exact Or.inr (Or.inr (Or.inr ⟨_,_,_,rfl,rfl⟩)) | refine And.intro ?_ ?_))))
 by_cases c2:20≤a
 ·have hr:lookF s.defs ⟨t,a⟩ m = 5:=by unfold lookF; rw [if_neg c1,if_pos c2]
  rw [hr]
  (repeat' (first | (refine And.intro (fun h=>?_) (fun h=>?_)<;>(try simp [-List.getD_eq_getElem?_getD,-Int.pred_toNat] at h)<;>(try (exfalso; first | omega | contradiction))) | (refine And.intro (rng64 (by omega) (by omega)) ?_) | (refine And.intro ⟨by omega,by omega⟩ ?_) | (refine And.intro ⟨by omega,by omega,by omega⟩ ?_) | (intro _)))
  all_goals exact Exists.intro [] (And.intro rfl (by (repeat' (first | exact trivial | exact Or.inl rfl | exact Or.inr (Or.inl ⟨rfl,_,rfl⟩) | exact Or.inr (Or.inr (Or.inr ⟨_,_,_,rfl,rfl⟩)) | refine And.intro ?_ ?_))))
 have hr:lookF s.defs ⟨t,a⟩ m = typeF s.defs t:=by unfold lookF; rw [if_neg c1,if_neg c2]
 rw [hr]
 unfold typeF
 (repeat' (first | (refine And.intro (fun h=>?_) (fun h=>?_)<;>(try simp [-List.getD_eq_getElem?_getD,-Int.pred_toNat] at h)<;>(try (exfalso; first | omega | contradiction))) | (refine And.intro (rng64 (by omega) (by omega)) ?_) | (refine And.intro ⟨by omega,by omega⟩ ?_) | (refine And.intro ⟨by omega,by omega,by omega⟩ ?_) | (intro _)))
 refine Or.inl (Exists.intro _ (And.intro (hK) ?_))
 by_cases c3:okKind t
 rotate_left
 ·rw [if_pos c3,decide_eq_false c3]
  (repeat' (first | (refine And.intro (fun h=>?_) (fun h=>?_)<;>(try simp [-List.getD_eq_getElem?_getD,-Int.pred_toNat] at h)<;>(try (exfalso; first | omega | contradiction))) | (refine And.intro (rng64 (by omega) (by omega)) ?_) | (refine And.intro ⟨by omega,by omega⟩ ?_) | (refine And.intro ⟨by omega,by omega,by omega⟩ ?_) | (intro _)))
  all_goals exact Exists.intro [] (And.intro rfl (by (repeat' (first | exact trivial | exact Or.inl rfl | exact Or.inr (Or.inl ⟨rfl,_,rfl⟩) | exact Or.inr (Or.inr (Or.inr ⟨_,_,_,rfl,rfl⟩)) | refine And.intro ?_ ?_))))
 rw [if_neg (fun h=>h c3),decide_eq_true c3]
 by_cases c4:t.hi < t.lo
 ·rw [if_pos (Or.inl c4)]
  (repeat' (first | (refine And.intro (fun h=>?_) (fun h=>?_)<;>(try simp [-List.getD_eq_getElem?_getD,-Int.pred_toNat] at h)<;>(try (exfalso; first | omega | contradiction))) | (refine And.intro (rng64 (by omega) (by omega)) ?_) | (refine And.intro ⟨by omega,by omega⟩ ?_) | (refine And.intro ⟨by omega,by omega,by omega⟩ ?_) | (intro _)))
  all_goals exact Exists.intro [] (And.intro rfl (by (repeat' (first | exact trivial | exact Or.inl rfl | exact Or.inr (Or.inl ⟨rfl,_,rfl⟩) | exact Or.inr (Or.inr (Or.inr ⟨_,_,_,rfl,rfl⟩)) | refine And.intro ?_ ?_))))
 by_cases c5:t.kind = 4
 ·rw [if_neg (fun h=>h.elim c4 (fun h=>h.1 c5)),if_neg (by omega),if_neg (by omega),if_neg (by omega)]
  (repeat' (first | (refine And.intro (fun h=>?_) (fun h=>?_)<;>(try simp [-List.getD_eq_getElem?_getD,-Int.pred_toNat] at h)<;>(try (exfalso; first | omega | contradiction))) | (refine And.intro (rng64 (by omega) (by omega)) ?_) | (refine And.intro ⟨by omega,by omega⟩ ?_) | (refine And.intro ⟨by omega,by omega,by omega⟩ ?_) | (intro _)))
  all_goals exact Exists.intro [] (And.intro rfl (by (repeat' (first | exact trivial | exact Or.inl rfl | exact Or.inr (Or.inl ⟨rfl,_,rfl⟩) | exact Or.inr (Or.inr (Or.inr ⟨_,_,_,rfl,rfl⟩)) | refine And.intro ?_ ?_))))
 by_cases c6:t.lo < 0
 ·rw [if_pos (Or.inr ⟨c5,c6⟩)]
  (repeat' (first | (refine And.intro (fun h=>?_) (fun h=>?_)<;>(try simp [-List.getD_eq_getElem?_getD,-Int.pred_toNat] at h)<;>(try (exfalso; first | omega | contradiction))) | (refine And.intro (rng64 (by omega) (by omega)) ?_) | (refine And.intro ⟨by omega,by omega⟩ ?_) | (refine And.intro ⟨by omega,by omega,by omega⟩ ?_) | (intro _)))
  all_goals exact Exists.intro [] (And.intro rfl (by (repeat' (first | exact trivial | exact Or.inl rfl | exact Or.inr (Or.inl ⟨rfl,_,rfl⟩) | exact Or.inr (Or.inr (Or.inr ⟨_,_,_,rfl,rfl⟩)) | refine And.intro ?_ ?_))))
 rw [if_neg (fun h=>h.elim c4 (fun h=>c6 h.2))]
 by_cases c7:t.kind = 7
 ·rw [if_pos c7]
  (repeat' (first | (refine And.intro (fun h=>?_) (fun h=>?_)<;>(try simp [-List.getD_eq_getElem?_getD,-Int.pred_toNat] at h)<;>(try (exfalso; first | omega | contradiction))) | (refine And.intro (rng64 (by omega) (by omega)) ?_) | (refine And.intro ⟨by omega,by omega⟩ ?_) | (refine And.intro ⟨by omega,by omega,by omega⟩ ?_) | (intro _)))
  refine Or.inl (Exists.intro _ (And.intro (hX) ?_))
  exact Exists.intro [] (And.intro rfl (by (repeat' (first | exact trivial | exact Or.inl rfl | exact Or.inr (Or.inl ⟨rfl,_,rfl⟩) | exact Or.inr (Or.inr (Or.inr ⟨_,_,_,rfl,rfl⟩)) | refine And.intro ?_ ?_))))
 rw [if_neg c7]
 by_cases c8:t.kind = 10
 ·rw [if_pos c8]
  (repeat' (first | (refine And.intro (fun h=>?_) (fun h=>?_)<;>(try simp [-List.getD_eq_getElem?_getD,-Int.pred_toNat] at h)<;>(try (exfalso; first | omega | contradiction))) | (refine And.intro (rng64 (by omega) (by omega)) ?_) | (refine And.intro ⟨by omega,by omega⟩ ?_) | (refine And.intro ⟨by omega,by omega,by omega⟩ ?_) | (intro _)))
  refine Or.inl (Exists.intro _ (And.intro (hF) ?_))
  exact Exists.intro [] (And.intro rfl (by (repeat' (first | exact trivial | exact Or.inl rfl | exact Or.inr (Or.inl ⟨rfl,_,rfl⟩) | exact Or.inr (Or.inr (Or.inr ⟨_,_,_,rfl,rfl⟩)) | refine And.intro ?_ ?_))))
 rw [if_neg c8]
 by_cases c9:t.kind = 12
 ·rw [if_pos c9]
  (repeat' (first | (refine And.intro (fun h=>?_) (fun h=>?_)<;>(try simp [-List.getD_eq_getElem?_getD,-Int.pred_toNat] at h)<;>(try (exfalso; first | omega | contradiction))) | (refine And.intro (rng64 (by omega) (by omega)) ?_) | (refine And.intro ⟨by omega,by omega⟩ ?_) | (refine And.intro ⟨by omega,by omega,by omega⟩ ?_) | (intro _)))
  refine Or.inr (Or.inl (Exists.intro [] (Exists.intro _ (Exists.intro _ (Exists.intro _ (Exists.intro _ (Exists.intro _ (Exists.intro [(1000,1000)] (And.intro (hD) ?_)))))))))
  refine (And.intro rfl (And.intro rfl (And.intro rfl (And.intro rfl (And.intro rfl ?_)))))
  by_cases c10:defI s.defs t.name < 0
  ·rw [if_pos c10]
   (repeat' (first | (refine And.intro (fun h=>?_) (fun h=>?_)<;>(try simp [-List.getD_eq_getElem?_getD,-Int.pred_toNat] at h)<;>(try (exfalso; first | omega | contradiction))) | (refine And.intro (rng64 (by omega) (by omega)) ?_) | (refine And.intro ⟨by omega,by omega⟩ ?_) | (refine And.intro ⟨by omega,by omega,by omega⟩ ?_) | (intro _)))
   all_goals exact Exists.intro [] (And.intro rfl (by (repeat' (first | exact trivial | exact Or.inl rfl | exact Or.inr (Or.inl ⟨rfl,_,rfl⟩) | exact Or.inr (Or.inr (Or.inr ⟨_,_,_,rfl,rfl⟩)) | refine And.intro ?_ ?_))))
  ·rw [if_neg c10]
   (repeat' (first | (refine And.intro (fun h=>?_) (fun h=>?_)<;>(try simp [-List.getD_eq_getElem?_getD,-Int.pred_toNat] at h)<;>(try (exfalso; first | omega | contradiction))) | (refine And.intro (rng64 (by omega) (by omega)) ?_) | (refine And.intro ⟨by omega,by omega⟩ ?_) | (refine And.intro ⟨by omega,by omega,by omega⟩ ?_) | (intro _)))
   all_goals exact Exists.intro [] (And.intro rfl (by (repeat' (first | exact trivial | exact Or.inl rfl | exact Or.inr (Or.inl ⟨rfl,_,rfl⟩) | exact Or.inr (Or.inr (Or.inr ⟨_,_,_,rfl,rfl⟩)) | refine And.intro ?_ ?_))))
 rw [if_neg c9]
 (repeat' (first | (refine And.intro (fun h=>?_) (fun h=>?_)<;>(try simp [-List.getD_eq_getElem?_getD,-Int.pred_toNat] at h)<;>(try (exfalso; first | omega | contradiction))) | (refine And.intro (rng64 (by omega) (by omega)) ?_) | (refine And.intro ⟨by omega,by omega⟩ ?_) | (refine And.intro ⟨by omega,by omega,by omega⟩ ?_) | (intro _)))
 all_goals exact Exists.intro [] (And.intro rfl (by (repeat' (first | exact trivial | exact Or.inl rfl | exact Or.inr (Or.inl ⟨rfl,_,rfl⟩) | exact Or.inr (Or.inr (Or.inr ⟨_,_,_,rfl,rfl⟩)) | refine And.intro ?_ ?_))))
theorem s_look (hu:HasU8) (s:SchemaR) (t:TypR) (ht:TB t) (m a:Int) (h0:0≤m) (h1:m≤200) (h2:0≤a) (h3:a≤20):CSpec Tryd.prog 97 [.pt 1000 0,.agg (encTyp t),.i .i64 a] [(1000,chkC s m)] (.i .i64 (lookF s.defs ⟨t,a⟩ m)) [(1000,chkC s (m + 1))] :=
 cspec_of_vc Γ_good Tryd.func97 rfl Tryd.call97 Tryd.results97 Tryd.ntmps97 (Nat.le_of_ble_eq_true rfl) (Nat.le_of_ble_eq_true rfl) (by rfl) (w_look hu s t ht m a h0 h1 h2 h3)
theorem w_walk1 (hu:HasU8) (s:SchemaR) (t:TypR) (ht:TB t) (m a:Int) (h0:0≤m) (h1:m≤200) (h2:0≤a) (h3:a≤20) (ih:a < 20→∀ x ∈ inside t,∀ n:Int,0≤n→n≤200→CSpec Tryd.prog 159 [.pt 1000 0,.agg (encTyp x),.i .i64 (a + 1),.fn 97 [.np,.pt 1000 0]] [(1000,chkC s n)] (.i .i64 (scan s.defs (preT x (a + 1)) n).1) [(1000,chkC s (scan s.defs (preT x (a + 1)) n).2)]):vc Tryd.prog Γ 37 [0,2,3,5,8,9,11,12,18,21,22,23,24,34,1000] (Tryd.f159.body.getD .skip) (postBK Γ [.tmp 8] (.i .i64 (scan s.defs (preT t a) m).1) [(1000,chkC s (scan s.defs (preT t a) m).2)]) ⟨argSlots 0 [.pt 1000 0,.agg (encTyp t),.i .i64 a,.fn 97 [.np,.pt 1000 0]],[(1000,chkC s m)]⟩:=by
 have hL:=s_look hu s t ht m a h0 h1 h2 h3
 have hin:=ht.inside
 have hW:=walk_eq s.defs t m a
 have hN:=s_inside t (by cases ht; omega) (by cases ht; omega)
 have hlen:(Ty.inside t).length≤4000000:=by
  unfold Ty.inside
  rw [List.length_append,List.length_map]
  cases ht
  omega
 (repeat' (first | (refine And.intro (fun h=>?_) (fun h=>?_)<;>(try simp [-List.getD_eq_getElem?_getD,-Int.pred_toNat] at h)<;>(try (exfalso; first | omega | contradiction))) | (refine And.intro (rng64 (by omega) (by omega)) ?_) | (refine And.intro ⟨by omega,by omega⟩ ?_) | (refine And.intro ⟨by omega,by omega,by omega⟩ ?_) | (intro _)))
 refine Or.inr (Or.inl (Exists.intro [] (Exists.intro _ (Exists.intro _ (Exists.intro _ (Exists.intro _ (Exists.intro _ (Exists.intro [(1000,1000)] (And.intro (hL) ?_)))))))))
 refine (And.intro rfl (And.intro rfl (And.intro rfl (And.intro rfl (And.intro rfl ?_)))))
 by_cases c1:lookF s.defs ⟨t,a⟩ m = 0
 rotate_left
 ·rw [if_pos c1] at hW
  rw [hW]
  (repeat' (first | (refine And.intro (fun h=>?_) (fun h=>?_)<;>(try simp [-List.getD_eq_getElem?_getD,-Int.pred_toNat] at h)<;>(try (exfalso; first | omega | contradiction))) | (refine And.intro (rng64 (by omega) (by omega)) ?_) | (refine And.intro ⟨by omega,by omega⟩ ?_) | (refine And.intro ⟨by omega,by omega,by omega⟩ ?_) | (intro _)))
  exact Exists.intro [] (And.intro rfl (by (repeat' (first | exact trivial | exact Or.inl rfl | exact Or.inr (Or.inl ⟨rfl,_,rfl⟩) | exact Or.inr (Or.inr (Or.inr ⟨_,_,_,rfl,rfl⟩)) | refine And.intro ?_ ?_))))
 rw [if_neg (fun h=>h c1)] at hW
 obtain ⟨c2,c3⟩:=look_zero c1
 have ih:=ih c3
 rw [c1]
 (repeat' (first | (refine And.intro (fun h=>?_) (fun h=>?_)<;>(try simp [-List.getD_eq_getElem?_getD,-Int.pred_toNat] at h)<;>(try (exfalso; first | omega | contradiction))) | (refine And.intro (rng64 (by omega) (by omega)) ?_) | (refine And.intro ⟨by omega,by omega⟩ ?_) | (refine And.intro ⟨by omega,by omega,by omega⟩ ?_) | (intro _)))
 refine Or.inr (Or.inl (Exists.intro [] (Exists.intro _ (Exists.intro _ (Exists.intro _ (Exists.intro _ (Exists.intro _ (Exists.intro [(1000,21)] (And.intro (hN) ?_)))))))))
 refine (And.intro rfl (And.intro rfl (And.intro rfl (And.intro rfl ?_))))
 (repeat' (first | (refine And.intro (fun h=>?_) (fun h=>?_)<;>(try simp [-List.getD_eq_getElem?_getD,-Int.pred_toNat] at h)<;>(try (exfalso; first | omega | contradiction))) | (refine And.intro (rng64 (by omega) (by omega)) ?_) | (refine And.intro ⟨by omega,by omega⟩ ?_) | (refine And.intro ⟨by omega,by omega,by omega⟩ ?_) | (intro _)))
 refine Exists.intro [] (Exists.intro [] (Exists.intro [(999,21)] (Exists.intro (Nat × Int) (Exists.intro (fun x=>x.1≤(Ty.inside t).length∧0≤x.2∧x.2≤200∧scan s.defs (preT t a) m = scan s.defs (((Ty.inside t).drop x.1).flatMap fun y=>preT y (a + 1)) x.2) (Exists.intro (fun ⟨i,n⟩=>⟨[(0,.pt 1000 0),(2,.i .i64 a),(3,.fn 97 [.np,.pt 1000 0]),(21,.rd .typ (Ty.inside t)),(22,.i .i64 (Ty.inside t).length),(23,.i .i64 i)],[(1000,chkC s n)]⟩) (Exists.intro (fun x=>(Ty.inside t).length - x.1) (Exists.intro (0,m + 1) (And.intro ⟨Nat.zero_le _,by show 0≤m + 1; omega,c2,hW⟩ (And.intro ?_ ?_)))))))))
 ·(repeat' (first | exact trivial | exact Or.inl rfl | exact Or.inr (Or.inl ⟨rfl,_,rfl⟩) | exact Or.inr (Or.inr (Or.inr ⟨_,_,_,rfl,rfl⟩)) | refine And.intro ?_ ?_))
 rintro ⟨i,n⟩ ⟨hi,hn0,hn1,hI⟩
 dsimp only at hi hn0 hn1 hI
 refine And.intro (fun hz=>?_) (fun hz=>?_)
 ·have hi:=ltD hz
  have hg:=getI (τ:=.typ) hi
  refine And.intro ⟨by omega,by omega⟩ ?_
  rw [hg]
  have hC:=ih (Ty.inside t)[i] (List.getElem_mem hi) n hn0 hn1
  have hS:=scan_le s.defs (preT (Ty.inside t)[i] (a + 1)) n hn0 hn1
  rw [scan_drop s.defs _ hi] at hI
  (repeat' (first | (refine And.intro (fun h=>?_) (fun h=>?_)<;>(try simp [-List.getD_eq_getElem?_getD,-Int.pred_toNat] at h)<;>(try (exfalso; first | omega | contradiction))) | (refine And.intro (rng64 (by omega) (by omega)) ?_) | (refine And.intro ⟨by omega,by omega⟩ ?_) | (refine And.intro ⟨by omega,by omega,by omega⟩ ?_) | (intro _)))
  refine Or.inr (Or.inl (Exists.intro [] (Exists.intro _ (Exists.intro _ (Exists.intro _ (Exists.intro _ (Exists.intro _ (Exists.intro [(1000,1000)] (And.intro (hC) ?_)))))))))
  refine (And.intro rfl (And.intro rfl (And.intro rfl (And.intro rfl (And.intro rfl ?_)))))
  by_cases k1:(scan s.defs (preT (Ty.inside t)[i] (a + 1)) n).1 = 0
  rotate_left
  ·rw [if_pos k1] at hI
   rw [hI]
   (repeat' (first | (refine And.intro (fun h=>?_) (fun h=>?_)<;>(try simp [-List.getD_eq_getElem?_getD,-Int.pred_toNat] at h)<;>(try (exfalso; first | omega | contradiction))) | (refine And.intro (rng64 (by omega) (by omega)) ?_) | (refine And.intro ⟨by omega,by omega⟩ ?_) | (refine And.intro ⟨by omega,by omega,by omega⟩ ?_) | (intro _)))
   exact Exists.intro [] (And.intro rfl (by (repeat' (first | exact trivial | exact Or.inl rfl | exact Or.inr (Or.inl ⟨rfl,_,rfl⟩) | exact Or.inr (Or.inr (Or.inr ⟨_,_,_,rfl,rfl⟩)) | refine And.intro ?_ ?_))))
  ·rw [if_neg (fun h=>h k1)] at hI
   rw [k1]
   (repeat' (first | (refine And.intro (fun h=>?_) (fun h=>?_)<;>(try simp [-List.getD_eq_getElem?_getD,-Int.pred_toNat] at h)<;>(try (exfalso; first | omega | contradiction))) | (refine And.intro (rng64 (by omega) (by omega)) ?_) | (refine And.intro ⟨by omega,by omega⟩ ?_) | (refine And.intro ⟨by omega,by omega,by omega⟩ ?_) | (intro _)))
   refine Exists.intro [] (Exists.intro (i + 1,(scan s.defs (preT (Ty.inside t)[i] (a + 1)) n).2) (And.intro ⟨hi,hS.1,hS.2.2 k1,hI⟩ (And.intro ?_ ?_)))
   ·(repeat' (first | exact trivial | exact Or.inl rfl | exact Or.inr (Or.inl ⟨rfl,_,rfl⟩) | exact Or.inr (Or.inr (Or.inr ⟨_,_,_,rfl,rfl⟩)) | refine And.intro ?_ ?_))
   ·(exact Nat.sub_lt_sub_left (by omega) (by omega))
 ·(have hi:=geD hi hz)
  rw [hI,List.drop_eq_nil_of_le (by omega)]
  exact Exists.intro [] (And.intro rfl (by (repeat' (first | exact trivial | exact Or.inl rfl | exact Or.inr (Or.inl ⟨rfl,_,rfl⟩) | exact Or.inr (Or.inr (Or.inr ⟨_,_,_,rfl,rfl⟩)) | refine And.intro ?_ ?_))))
theorem s_walk1 (hu:HasU8) (s:SchemaR) (t:TypR) (ht:TB t) (m a:Int) (h0:0≤m) (h1:m≤200) (h2:0≤a) (h3:a≤20) (ih:a < 20→∀ x ∈ inside t,∀ n:Int,0≤n→n≤200→CSpec Tryd.prog 159 [.pt 1000 0,.agg (encTyp x),.i .i64 (a + 1),.fn 97 [.np,.pt 1000 0]] [(1000,chkC s n)] (.i .i64 (scan s.defs (preT x (a + 1)) n).1) [(1000,chkC s (scan s.defs (preT x (a + 1)) n).2)]):CSpec Tryd.prog 159 [.pt 1000 0,.agg (encTyp t),.i .i64 a,.fn 97 [.np,.pt 1000 0]] [(1000,chkC s m)] (.i .i64 (scan s.defs (preT t a) m).1) [(1000,chkC s (scan s.defs (preT t a) m).2)] :=
 cspec_of_vc Γ_good Tryd.func159 rfl Tryd.call159 Tryd.results159 Tryd.ntmps159 (Nat.le_of_ble_eq_true rfl) (Nat.le_of_ble_eq_true rfl) (by rfl) (w_walk1 hu s t ht m a h0 h1 h2 h3 ih)
theorem size_in {t x:TypR} (h:x ∈ Ty.inside t):SizeOf.sizeOf x < SizeOf.sizeOf t:=by
 unfold Ty.inside at h
 obtain ⟨k,lo,hi,tx,tt,ff,n⟩:=t
 rcases List.mem_append.1 h with h | h
 ·have h1:=List.sizeOf_lt_of_mem h
  simp only at h1
  simp only [TypR.mk.sizeOf_spec]
  omega
 ·obtain ⟨f,hf,rfl⟩:=List.mem_map.1 h
  have h1:=List.sizeOf_lt_of_mem hf
  obtain ⟨a,b,c,d,e⟩:=f
  simp only [FldP.mk.sizeOf_spec] at h1
  simp only [TypR.mk.sizeOf_spec]
  omega
theorem s_walk (hu:HasU8) (s:SchemaR):∀ (k:Nat) (t:TypR),SizeOf.sizeOf t < k→TB t→∀ m a:Int,0≤m→m≤200→0≤a→a≤20→CSpec Tryd.prog 159 [.pt 1000 0,.agg (encTyp t),.i .i64 a,.fn 97 [.np,.pt 1000 0]] [(1000,chkC s m)] (.i .i64 (scan s.defs (preT t a) m).1) [(1000,chkC s (scan s.defs (preT t a) m).2)]:=by
 intro k
 induction k with
 | zero=>intro t h; exact absurd h (Nat.not_lt_zero _)
 | succ k ih =>
  intro t h ht m a h0 h1 h2 h3
  exact s_walk1 hu s t ht m a h0 h1 h2 h3 fun h4 x hx n hn0 hn1=>ih x (by have:=size_in hx; omega) (ht.inside x hx) n (a + 1) hn0 hn1 (by omega) (by omega)
def allP (s:SchemaR):List TPlace:=(s.defs.flatMap fun d=>preT d.t 0)++preT s.root 0
theorem scan_dropD (l:List DefR) (f:DefR→List TPlace) (z:List TPlace) {L:List DefR} {i:Nat} (h:i < L.length) (m:Int):scan l ((L.drop i).flatMap f++z) m = if (scan l (f L[i]) m).1≠0 then scan l (f L[i]) m else scan l ((L.drop (i + 1)).flatMap f++z) (scan l (f L[i]) m).2:=by
 rw [List.drop_eq_getElem_cons h,List.flatMap_cons,List.append_assoc,scan_append]
theorem w_all1 (hu:HasU8) (s:SchemaR) (hd:∀ d ∈ s.defs,TB d.t) (hr:TB s.root) (hl:s.defs.length≤2000000) (m:Int) (h0:0≤m) (h1:m≤200):vc Tryd.prog Γ 35 [0,1,4,6,7,12,13,14,15,24,1000] (Tryd.f96.body.getD .skip) (postBK Γ [.tmp 4] (.i .i64 (scan s.defs (allP s) m).1) [(1000,chkC s (scan s.defs (allP s) m).2)]) ⟨argSlots 0 [.pt 1000 0,.fn 97 [.np,.pt 1000 0]],[(1000,chkC s m)]⟩:=by
 have hA:scan s.defs (allP s) m = scan s.defs ((s.defs.drop 0).flatMap (fun d=>preT d.t 0)++preT s.root 0) m:=rfl
 generalize scan s.defs (allP s) m = R at hA ⊢
 (repeat' (first | (refine And.intro (fun h=>?_) (fun h=>?_)<;>(try simp [-List.getD_eq_getElem?_getD,-Int.pred_toNat] at h)<;>(try (exfalso; first | omega | contradiction))) | (refine And.intro (rng64 (by omega) (by omega)) ?_) | (refine And.intro ⟨by omega,by omega⟩ ?_) | (refine And.intro ⟨by omega,by omega,by omega⟩ ?_) | (intro _)))
 refine Exists.intro [] (Exists.intro [] (Exists.intro [] (Exists.intro (Nat × Int) (Exists.intro (fun x=>x.1≤s.defs.length∧0≤x.2∧x.2≤200∧R = scan s.defs ((s.defs.drop x.1).flatMap (fun d=>preT d.t 0)++preT s.root 0) x.2) (Exists.intro (fun ⟨i,n⟩=>⟨[(0,.pt 1000 0),(1,.fn 97 [.np,.pt 1000 0]),(12,.rd .dfn s.defs),(13,.i .i64 s.defs.length),(14,.i .i64 i)],[(1000,chkC s n)]⟩) (Exists.intro (fun x=>s.defs.length - x.1) (Exists.intro (0,m) (And.intro ⟨Nat.zero_le _,h0,h1,hA⟩ (And.intro ?_ ?_)))))))))
 ·(repeat' (first | exact trivial | exact Or.inl rfl | exact Or.inr (Or.inl ⟨rfl,_,rfl⟩) | exact Or.inr (Or.inr (Or.inr ⟨_,_,_,rfl,rfl⟩)) | refine And.intro ?_ ?_))
 rintro ⟨i,n⟩ ⟨hi,hn0,hn1,hI⟩
 dsimp only at hi hn0 hn1 hI
 refine And.intro (fun hz=>?_) (fun hz=>?_)
 ·have hi:=ltD hz
  have hg:=getI (τ:=.dfn) hi
  refine And.intro ⟨by omega,by omega⟩ ?_
  rw [hg]
  have hC:=s_walk hu s _ s.defs[i].t (Nat.lt_succ_self _) (hd _ (List.getElem_mem hi)) n 0 hn0 hn1 (by decide) (by decide)
  have hS:=scan_le s.defs (preT s.defs[i].t 0) n hn0 hn1
  rw [scan_dropD s.defs _ _ hi] at hI
  (repeat' (first | (refine And.intro (fun h=>?_) (fun h=>?_)<;>(try simp [-List.getD_eq_getElem?_getD,-Int.pred_toNat] at h)<;>(try (exfalso; first | omega | contradiction))) | (refine And.intro (rng64 (by omega) (by omega)) ?_) | (refine And.intro ⟨by omega,by omega⟩ ?_) | (refine And.intro ⟨by omega,by omega,by omega⟩ ?_) | (intro _)))
  refine Or.inr (Or.inl (Exists.intro [] (Exists.intro _ (Exists.intro _ (Exists.intro _ (Exists.intro _ (Exists.intro _ (Exists.intro [(1000,1000)] (And.intro (hC) ?_)))))))))
  refine (And.intro rfl (And.intro rfl (And.intro rfl (And.intro rfl (And.intro rfl ?_)))))
  by_cases k1:(scan s.defs (preT s.defs[i].t 0) n).1 = 0
  rotate_left
  ·rw [if_pos k1] at hI
   rw [hI]
   (repeat' (first | (refine And.intro (fun h=>?_) (fun h=>?_)<;>(try simp [-List.getD_eq_getElem?_getD,-Int.pred_toNat] at h)<;>(try (exfalso; first | omega | contradiction))) | (refine And.intro (rng64 (by omega) (by omega)) ?_) | (refine And.intro ⟨by omega,by omega⟩ ?_) | (refine And.intro ⟨by omega,by omega,by omega⟩ ?_) | (intro _)))
   exact Exists.intro [] (And.intro rfl (by (repeat' (first | exact trivial | exact Or.inl rfl | exact Or.inr (Or.inl ⟨rfl,_,rfl⟩) | exact Or.inr (Or.inr (Or.inr ⟨_,_,_,rfl,rfl⟩)) | refine And.intro ?_ ?_))))
  ·rw [if_neg (fun h=>h k1)] at hI
   rw [k1]
   (repeat' (first | (refine And.intro (fun h=>?_) (fun h=>?_)<;>(try simp [-List.getD_eq_getElem?_getD,-Int.pred_toNat] at h)<;>(try (exfalso; first | omega | contradiction))) | (refine And.intro (rng64 (by omega) (by omega)) ?_) | (refine And.intro ⟨by omega,by omega⟩ ?_) | (refine And.intro ⟨by omega,by omega,by omega⟩ ?_) | (intro _)))
   refine Exists.intro [] (Exists.intro (i + 1,(scan s.defs (preT s.defs[i].t 0) n).2) (And.intro ⟨hi,hS.1,hS.2.2 k1,hI⟩ (And.intro ?_ ?_)))
   ·(repeat' (first | exact trivial | exact Or.inl rfl | exact Or.inr (Or.inl ⟨rfl,_,rfl⟩) | exact Or.inr (Or.inr (Or.inr ⟨_,_,_,rfl,rfl⟩)) | refine And.intro ?_ ?_))
   ·(exact Nat.sub_lt_sub_left (by omega) (by omega))
 ·(have hi:=geD hi hz)
  rw [List.drop_eq_nil_of_le (by omega)] at hI
  have hI:R = scan s.defs (preT s.root 0) n:=hI
  have hC:=s_walk hu s _ s.root (Nat.lt_succ_self _) hr n 0 hn0 hn1 (by decide) (by decide)
  rw [← hI] at hC
  (repeat' (first | (refine And.intro (fun h=>?_) (fun h=>?_)<;>(try simp [-List.getD_eq_getElem?_getD,-Int.pred_toNat] at h)<;>(try (exfalso; first | omega | contradiction))) | (refine And.intro (rng64 (by omega) (by omega)) ?_) | (refine And.intro ⟨by omega,by omega⟩ ?_) | (refine And.intro ⟨by omega,by omega,by omega⟩ ?_) | (intro _)))
  refine Or.inr (Or.inl (Exists.intro [] (Exists.intro _ (Exists.intro _ (Exists.intro _ (Exists.intro _ (Exists.intro _ (Exists.intro [(1000,1000)] (And.intro (hC) ?_)))))))))
  refine (And.intro rfl (And.intro rfl (And.intro rfl (And.intro rfl (And.intro rfl ?_)))))
  exact Exists.intro [] (And.intro rfl (by (repeat' (first | exact trivial | exact Or.inl rfl | exact Or.inr (Or.inl ⟨rfl,_,rfl⟩) | exact Or.inr (Or.inr (Or.inr ⟨_,_,_,rfl,rfl⟩)) | refine And.intro ?_ ?_))))
theorem s_all1 (hu:HasU8) (s:SchemaR) (hd:∀ d ∈ s.defs,TB d.t) (hr:TB s.root) (hl:s.defs.length≤2000000) (m:Int) (h0:0≤m) (h1:m≤200):CSpec Tryd.prog 96 [.pt 1000 0,.fn 97 [.np,.pt 1000 0]] [(1000,chkC s m)] (.i .i64 (scan s.defs (allP s) m).1) [(1000,chkC s (scan s.defs (allP s) m).2)] :=
 cspec_of_vc Γ_good Tryd.func96 rfl Tryd.call96 Tryd.results96 Tryd.ntmps96 (Nat.le_of_ble_eq_true rfl) (Nat.le_of_ble_eq_true rfl) (by rfl) (w_all1 hu s hd hr hl m h0 h1)
end
end Go.Proofs.YtdcdmojbkmedpaaDoor
end
section
namespace Go.Proofs.YtdcdmojbkmedpaaDoor
open Go Go.SX Go.Ck Go.Vl Go.Ut Go.Ty
set_option maxRecDepth 100000
set_option maxHeartbeats 4000000
def kindsF (k:Int):Int:=if k = 1 then 127 else if k = 6∨k = 7 then 16 else if k = 8 then 32 else if k = 9∨k = 10 then 64 else 2 ^ (k - 2).toNat
section
variable [G:Globs]
theorem w_check1 (s:SchemaR) (k:Nat) (h1:k < s.defs.length):vc Tryd.prog Γ 10 [0,1,3] (Tryd.f95.body.getD .skip) (postK Γ [.tmp 3] (fun v=>v = .s (s.defs.getD k (dflt .dfn)).name)) ⟨argSlots 0 [.i .i64 (k:Int),.rp (encSch s)],[]⟩:=by
 (repeat' (first | (refine And.intro (fun h=>?_) (fun h=>?_)<;>(try simp [-List.getD_eq_getElem?_getD,-Int.pred_toNat] at h)<;>(try (exfalso; first | omega | contradiction))) | (refine And.intro (rng64 (by omega) (by omega)) ?_) | (refine And.intro ⟨by omega,by omega⟩ ?_) | (refine And.intro ⟨by omega,by omega,by omega⟩ ?_) | (intro _)))
 rfl
theorem s_check1 (s:SchemaR) (k:Nat) (h1:k < s.defs.length):PSpec Tryd.prog 95 [.i .i64 (k:Int),.rp (encSch s)] (.s (s.defs.getD k (dflt .dfn)).name) :=
 pspec_of_vc Γ_good Tryd.func95 rfl Tryd.call95 Tryd.results95 Tryd.ntmps95 (Nat.le_of_ble_eq_true rfl) (w_check1 s k h1)
theorem w_kinds (t:TypR) (h1:1≤t.kind) (h2:t.kind≤10):vc Tryd.prog Γ 19 [1,2,4,5,7,10,12] (Tryd.f93.body.getD .skip) (postK Γ [.tmp 2] (fun v=>v = .i .i64 (kindsF t.kind))) ⟨argSlots 0 [.agg (encTyp t)],[]⟩:=by
 have hk:t.kind = 1∨t.kind = 2∨t.kind = 3∨t.kind = 4∨t.kind = 5∨t.kind = 6∨t.kind = 7∨t.kind = 8∨t.kind = 9∨t.kind = 10:=by omega
 rcases hk with hh | hh | hh | hh | hh | hh | hh | hh | hh | hh
 all_goals rw [hh]
 all_goals (repeat' (first | (refine And.intro (fun h=>?_) (fun h=>?_)<;>(try simp [-List.getD_eq_getElem?_getD,-Int.pred_toNat] at h)<;>(try (exfalso; first | omega | contradiction))) | (refine And.intro (rng64 (by omega) (by omega)) ?_) | (refine And.intro ⟨by omega,by omega⟩ ?_) | (refine And.intro ⟨by omega,by omega,by omega⟩ ?_) | (intro _)))
 all_goals first | rfl | skip
 all_goals (refine And.intro (by omega) ?_)
 all_goals (repeat' (first | (refine And.intro (fun h=>?_) (fun h=>?_)<;>(try simp [-List.getD_eq_getElem?_getD,-Int.pred_toNat] at h)<;>(try (exfalso; first | omega | contradiction))) | (refine And.intro (rng64 (by omega) (by omega)) ?_) | (refine And.intro ⟨by omega,by omega⟩ ?_) | (refine And.intro ⟨by omega,by omega,by omega⟩ ?_) | (intro _)))
 all_goals rw [hh]
 all_goals rfl
theorem s_kinds (t:TypR) (h1:1≤t.kind) (h2:t.kind≤10):PSpec Tryd.prog 93 [.agg (encTyp t)] (.i .i64 (kindsF t.kind)) :=
 pspec_of_vc Γ_good Tryd.func93 rfl Tryd.call93 Tryd.results93 Tryd.ntmps93 (Nat.le_of_ble_eq_true rfl) (w_kinds t h1 h2)
theorem w_part0 (t:TypR):vc Tryd.prog Γ 2 [1] (Tryd.f164.body.getD .skip) (postBK Γ [] (.tup []) []) ⟨argSlots 0 [.agg (encTyp t)],[]⟩:=by
 (repeat' (first | (refine And.intro (fun h=>?_) (fun h=>?_)<;>(try simp [-List.getD_eq_getElem?_getD,-Int.pred_toNat] at h)<;>(try (exfalso; first | omega | contradiction))) | (refine And.intro (rng64 (by omega) (by omega)) ?_) | (refine And.intro ⟨by omega,by omega⟩ ?_) | (refine And.intro ⟨by omega,by omega,by omega⟩ ?_) | (intro _)))
 exact Exists.intro [] (And.intro rfl (by (repeat' (first | exact trivial | exact Or.inl rfl | exact Or.inr (Or.inl ⟨rfl,_,rfl⟩) | exact Or.inr (Or.inr (Or.inr ⟨_,_,_,rfl,rfl⟩)) | refine And.intro ?_ ?_))))
theorem s_part0 (t:TypR):CSpec Tryd.prog 164 [.agg (encTyp t)] [] (.tup []) [] :=
 cspec_of_vc Γ_good Tryd.func164 rfl Tryd.call164 Tryd.results164 Tryd.ntmps164 (Nat.le_of_ble_eq_true rfl) (Nat.le_of_ble_eq_true rfl) (by rfl) (w_part0 t)
theorem w_part1 (t:TypR) (h1:1≤t.kind) (h2:t.kind≤10) (a:Int):vc Tryd.prog Γ 7 [1,2,1000] (Tryd.f212.body.getD .skip) (postBK Γ [] (.tup []) [(1000,[.i .i64 (bits .or .i64 a (kindsF t.kind))])]) ⟨argSlots 0 [.agg (encTyp t),.pt 1000 0],[(1000,[.i .i64 a])]⟩:=by
 have hk:=s_kinds t h1 h2
 (repeat' (first | (refine And.intro (fun h=>?_) (fun h=>?_)<;>(try simp [-List.getD_eq_getElem?_getD,-Int.pred_toNat] at h)<;>(try (exfalso; first | omega | contradiction))) | (refine And.intro (rng64 (by omega) (by omega)) ?_) | (refine And.intro ⟨by omega,by omega⟩ ?_) | (refine And.intro ⟨by omega,by omega,by omega⟩ ?_) | (intro _)))
 refine Exists.intro [.tree 3 [0,1,2] (.opt 0 (.opt 1 (.opt 2 .fin .non) .non) (.opt 1 (.opt 0 (.opt 2 .fin .non) (.opt 2 (.opt 0 .fin .non) .non)) .non)),.take 3,.one 4] (And.intro (by kernel_rfl) ?_)
 refine Exists.intro ⟨[(1,.pt 1000 0),(2,.pt 2 0),(3,.i .i64 a),(5,.i .i64 (kindsF t.kind))],[(1000,[.i .i64 a]),(2,encTyp t)]⟩ (And.intro ?_ ?_)
 ·repeat' (first | exact trivial | exact Or.inl rfl | refine Or.inl (Exists.intro _ (And.intro hk ?_)) | refine And.intro ?_ ?_)
 (repeat' (first | (refine And.intro (fun h=>?_) (fun h=>?_)<;>(try simp [-List.getD_eq_getElem?_getD,-Int.pred_toNat] at h)<;>(try (exfalso; first | omega | contradiction))) | (refine And.intro (rng64 (by omega) (by omega)) ?_) | (refine And.intro ⟨by omega,by omega⟩ ?_) | (refine And.intro ⟨by omega,by omega,by omega⟩ ?_) | (intro _)))
 exact Exists.intro [] (And.intro rfl (by (repeat' (first | exact trivial | exact Or.inl rfl | exact Or.inr (Or.inl ⟨rfl,_,rfl⟩) | exact Or.inr (Or.inr (Or.inr ⟨_,_,_,rfl,rfl⟩)) | refine And.intro ?_ ?_))))
theorem s_part1 (t:TypR) (h1:1≤t.kind) (h2:t.kind≤10) (a:Int):CSpec Tryd.prog 212 [.agg (encTyp t),.pt 1000 0] [(1000,[.i .i64 a])] (.tup []) [(1000,[.i .i64 (bits .or .i64 a (kindsF t.kind))])] :=
 cspec_of_vc Γ_good Tryd.func212 rfl Tryd.call212 Tryd.results212 Tryd.ntmps212 (Nat.le_of_ble_eq_true rfl) (Nat.le_of_ble_eq_true rfl) (by rfl) (w_part1 t h1 h2 a)
theorem w_part2 (t:TypR) (l:List TypR) (hl:l.length≤2000000):vc Tryd.prog Γ 9 [1,2,1000,1001] (Tryd.f157.body.getD .skip) (postBK Γ [] (.tup []) [(1000,[.vec 1001 .typ (l++[t])])]) ⟨argSlots 0 [.agg (encTyp t),.pt 1000 0],[(1000,[.vec 1001 .typ l])]⟩:=by
 (repeat' (first | (refine And.intro (fun h=>?_) (fun h=>?_)<;>(try simp [-List.getD_eq_getElem?_getD,-Int.pred_toNat] at h)<;>(try (exfalso; first | omega | contradiction))) | (refine And.intro (rng64 (by omega) (by omega)) ?_) | (refine And.intro ⟨by omega,by omega⟩ ?_) | (refine And.intro ⟨by omega,by omega,by omega⟩ ?_) | (intro _)))
 refine Exists.intro [.tree 4 [0,1,2,3] (.opt 0 (.opt 1 (.opt 2 (.opt 3 .fin .non) (.opt 3 (.opt 2 .fin .non) .non)) (.opt 2 (.opt 1 (.opt 3 .fin .non) (.opt 3 (.opt 1 .fin .non) .non)) (.opt 3 (.opt 1 (.opt 2 .fin .non) (.opt 2 (.opt 1 .fin .non) .non)) .non))) (.opt 1 (.opt 0 (.opt 2 (.opt 3 .fin .non) (.opt 3 (.opt 2 .fin .non) .non)) (.opt 3 (.opt 0 (.opt 2 .fin .non) .non) .non)) (.opt 3 (.opt 0 (.opt 1 (.opt 2 .fin .non) (.opt 2 (.opt 1 .fin .non) .non)) (.opt 1 (.opt 0 (.opt 2 .fin .non) .non) .non)) .non))),.one 4,.take 5,.two 6 7] (And.intro (by kernel_rfl) ?_)
 refine Exists.intro ⟨[(1,.pt 1000 0),(2,.pt 2 0),(3,.vec 1001 .typ l),(4,.agg (encTyp t)),(5,.i .i64 l.length),(6,.vec 6 .typ [⟨0,0,0,[],[],[],[]⟩])],[(1000,[.vec 1001 .typ l]),(2,encTyp t)]⟩ (And.intro ?_ ?_)
 ·repeat' (first | exact trivial | exact Or.inl rfl | intro _ | refine And.intro ?_ ?_)
 refine And.intro (show (l.length + 1) * 112≤140737488355328 by omega) ?_
 (repeat' (first | (refine And.intro (fun h=>?_) (fun h=>?_)<;>(try simp [-List.getD_eq_getElem?_getD,-Int.pred_toNat] at h)<;>(try (exfalso; first | omega | contradiction))) | (refine And.intro (rng64 (by omega) (by omega)) ?_) | (refine And.intro ⟨by omega,by omega⟩ ?_) | (refine And.intro ⟨by omega,by omega,by omega⟩ ?_) | (intro _)))
 refine And.intro (show (0:Int)≤(l.length:Int)∧(l.length:Int) < ((l++[(⟨0,0,0,[],[],[],[]⟩:TypR)]).length:Nat) by rw [List.length_append]; simp only [List.length_cons,List.length_nil]; omega) ?_
 (repeat' (first | (refine And.intro (fun h=>?_) (fun h=>?_)<;>(try simp [-List.getD_eq_getElem?_getD,-Int.pred_toNat] at h)<;>(try (exfalso; first | omega | contradiction))) | (refine And.intro (rng64 (by omega) (by omega)) ?_) | (refine And.intro ⟨by omega,by omega⟩ ?_) | (refine And.intro ⟨by omega,by omega,by omega⟩ ?_) | (intro _)))
 have hE:(l++[(⟨0,0,0,[],[],[],[]⟩:TypR)]).set l.length ⟨t.kind,t.lo,t.hi,t.texts,t.t,t.f,t.name⟩ = l++[t]:=by
  rw [etaT,List.set_append_right _ _ (Nat.le_refl _),Nat.sub_self]
  rfl
 refine Exists.intro ⟨[(1,.pt 1000 0)],[(1000,[.vec 7 .typ ((l++[(⟨0,0,0,[],[],[],[]⟩:TypR)]).set l.length ⟨t.kind,t.lo,t.hi,t.texts,t.t,t.f,t.name⟩)])]⟩ (And.intro ?_ (And.intro ?_ ?_))
 ·(repeat' (first | exact trivial | exact Or.inl rfl | exact Or.inr (Or.inl ⟨rfl,_,rfl⟩) | exact Or.inr (Or.inr (Or.inr ⟨_,_,_,rfl,rfl⟩)) | refine And.intro ?_ ?_))
 ·(repeat' (first | exact trivial | exact Or.inl rfl | exact Or.inr (Or.inl ⟨rfl,_,rfl⟩) | exact Or.inr (Or.inr (Or.inr ⟨_,_,_,rfl,rfl⟩)) | refine And.intro ?_ ?_))
 rw [hE]
 (repeat' (first | (refine And.intro (fun h=>?_) (fun h=>?_)<;>(try simp [-List.getD_eq_getElem?_getD,-Int.pred_toNat] at h)<;>(try (exfalso; first | omega | contradiction))) | (refine And.intro (rng64 (by omega) (by omega)) ?_) | (refine And.intro ⟨by omega,by omega⟩ ?_) | (refine And.intro ⟨by omega,by omega,by omega⟩ ?_) | (intro _)))
 exact Exists.intro [(7,1001)] (And.intro rfl (by (repeat' (first | exact trivial | exact Or.inl rfl | exact Or.inr (Or.inl ⟨rfl,_,rfl⟩) | exact Or.inr (Or.inr (Or.inr ⟨_,_,_,rfl,rfl⟩)) | refine And.intro ?_ ?_))))
theorem s_part2 (t:TypR) (l:List TypR) (hl:l.length≤2000000):CSpec Tryd.prog 157 [.agg (encTyp t),.pt 1000 0] [(1000,[.vec 1001 .typ l])] (.tup []) [(1000,[.vec 1001 .typ (l++[t])])] :=
 cspec_of_vc Γ_good Tryd.func157 rfl Tryd.call157 Tryd.results157 Tryd.ntmps157 (Nat.le_of_ble_eq_true rfl) (Nat.le_of_ble_eq_true rfl) (by rfl) (w_part2 t l hl)
end
end Go.Proofs.YtdcdmojbkmedpaaDoor
end
section
namespace Go.Ty
open Go Go.SX Go.Ck Go.Vl Go.Ut
abbrev Met:=List (Str × Bool)
def met (es:Met) (n:Str):Bool:=(mpGet (κ:=.str) (τ:=.bool) es n).getD false
def meet (es:Met) (n:Str):Met:=mpSet (κ:=.str) (τ:=.bool) es n true
theorem keq_str (a b:Str):keq .str a b = decide (a = b):=rfl
theorem met_meet (es:Met) (n k:Str):met (meet es n) k = (decide (k = n) || met es k):=by
 induction es with
 | nil =>
  show (mpGet (κ:=.str) (τ:=.bool) [(n,true)] k).getD false = _
  rw [mpGet,keq_str]
  by_cases h:k = n
  ·rw [decide_eq_true h]; rfl
  ·rw [decide_eq_false h]; rfl
 | cons p r ih =>
  obtain ⟨a,u⟩:=p
  unfold meet met at *
  rw [mpSet,keq_str]
  by_cases h:n = a
  ·rw [decide_eq_true h]
   simp only [cond_true]
   rw [mpGet,mpGet,keq_str,keq_str]
   by_cases h1:k = n
   ·rw [decide_eq_true h1]; rfl
   ·rw [decide_eq_false h1,decide_eq_false (fun h2=>h1 (h2.trans h.symm))]; rfl
  ·rw [decide_eq_false h]
   simp only [cond_false]
   rw [mpGet,mpGet,keq_str]
   by_cases h1:k = a
   ·rw [decide_eq_true h1,decide_eq_false (fun h2=>h (h2.symm.trans h1))]
    simp
   ·rw [decide_eq_false h1]
    simp only [cond_false]
    exact ih
theorem meet_len (es:Met) (n:Str):(meet es n).length≤es.length + 1:=mpSet_len (κ:=.str) (τ:=.bool) es n true
def rest (w:DefR→Nat):List DefR→Met→Nat
 | [],_=>0
 | d::r,es=>(if met es d.name = true then 0 else w d) + rest w r es
theorem rest_le {w:DefR→Nat} {l:List DefR} {es fs:Met} (h:∀ n,met es n = true→met fs n = true):rest w l fs≤rest w l es:=by
 induction l with
 | nil=>exact Nat.le_refl _
 | cons d r ih =>
  unfold rest
  by_cases h1:met es d.name = true
  ·rw [if_pos h1,if_pos (h _ h1)]; omega
  ·rw [if_neg h1]
   split<;>omega
theorem met_mono {es:Met} {n k:Str} (h:met es k = true):met (meet es n) k = true:=by rw [met_meet,h,Bool.or_true]
theorem rest_meet {w:DefR→Nat} {l:List DefR} {es:Met} {d:DefR} (hd:d ∈ l) (hn:met es d.name = false):rest w l (meet es d.name) + w d≤rest w l es:=by
 induction l with
 | nil=>cases hd
 | cons e r ih =>
  unfold rest
  rcases List.mem_cons.1 hd with rfl | hd
  ·have e1:met (meet es d.name) d.name = true:=by rw [met_meet,decide_eq_true rfl]; rfl
   have e2:¬ met es d.name = true:=by rw [hn]; decide
   rw [if_pos e1,if_neg e2]
   have:=rest_le (w:=w) (l:=r) (es:=es) (fs:=meet es d.name) fun n h=>met_mono h
   omega
  ·have:=ih hd
   by_cases h1:met es e.name = true
   ·rw [if_pos h1,if_pos (met_mono h1)]; omega
   ·rw [if_neg h1]
    split<;>omega
def comeL (f:TypR→Met→List TypR × Met):List TypR→Met→List TypR × Met
 | [],es=>([],es)
 | x::r,es=>((f x es).1++(comeL f r (f x es).2).1,(comeL f r (f x es).2).2)
def defT (l:List DefR) (n:Str):TypR:=(l.getD (defI l n).toNat (dflt .dfn)).t
def comeF (l:List DefR):Nat→TypR→Met→List TypR × Met
 | 0,_,es=>([],es)
 | n + 1,t,es =>
  if t.kind = 12 then (if met es t.name = true then ([],es) else comeF l n (defT l t.name) (meet es t.name))
  else if t.kind = 11 then comeL (comeF l n) t.t es else ([t],es)
noncomputable def need (l:List DefR) (t:TypR) (es:Met):Nat:=SizeOf.sizeOf t + rest (fun d=>SizeOf.sizeOf d.t + 1) l es
def cnt (l:List DefR) (es:Met):Nat:=rest (fun _=>1) l es
theorem comeL_met {f:TypR→Met→List TypR × Met} (h:∀ x es n,met es n = true→met (f x es).2 n = true):∀ (r:List TypR) (es:Met) (n:Str),met es n = true→met (comeL f r es).2 n = true
 | [],_,_,h1=>h1
 | x::r,es,n,h1=>comeL_met h r (f x es).2 n (h x es n h1)
theorem come_met (l:List DefR):∀ (k:Nat) (t:TypR) (es:Met) (n:Str),met es n = true→met (comeF l k t es).2 n = true:=by
 intro k
 induction k with
 | zero=>intro t es n h; exact h
 | succ k ih =>
  intro t es n h
  unfold comeF
  split
  ·split
   ·exact h
   ·exact ih _ _ _ (met_mono h)
  ·split
   ·exact comeL_met ih _ _ _ h
   ·exact h
/-! how many types -/
theorem size_inside {t x:TypR} (h:x ∈ inside t):SizeOf.sizeOf x < SizeOf.sizeOf t:=by
 unfold inside at h
 obtain ⟨k,lo,hi,tx,tt,ff,n⟩:=t
 rcases List.mem_append.1 h with h | h
 ·have h1:=List.sizeOf_lt_of_mem h
  simp only at h1
  simp only [TypR.mk.sizeOf_spec]
  omega
 ·obtain ⟨f,hf,rfl⟩:=List.mem_map.1 h
  have h1:=List.sizeOf_lt_of_mem hf
  obtain ⟨a,b,c,d,e⟩:=f
  simp only [FldP.mk.sizeOf_spec] at h1
  simp only [TypR.mk.sizeOf_spec]
  omega
theorem preT_len:∀ (k:Nat) (t:TypR),SizeOf.sizeOf t < k→∀ a b:Int,(preT t a).length = (preT t b).length:=by
 intro k
 induction k with
 | zero=>intro t h; exact absurd h (Nat.not_lt_zero _)
 | succ k ih =>
  intro t h a b
  rw [preT_eq t a,preT_eq t b,List.length_cons,List.length_cons,List.length_flatMap,List.length_flatMap]
  refine congrArg (fun l:List Nat=>l.sum + 1) (List.map_congr_left fun x hx=>?_)
  exact ih x (by have:=size_inside hx; omega) (a + 1) (b + 1)
def tyN (t:TypR):Nat:=(preT t 0).length
def sumN (l:List TypR):Nat:=(l.map tyN).sum
theorem sumN_cons (x:TypR) (l:List TypR):sumN (x::l) = tyN x + sumN l:=by unfold sumN; rw [List.map_cons,List.sum_cons]
theorem tyN_eq (t:TypR):tyN t = sumN (inside t) + 1:=by
 unfold tyN sumN
 rw [preT_eq t 0,List.length_cons,List.length_flatMap]
 refine congrArg (fun l:List Nat=>l.sum + 1) (List.map_congr_left fun x _=>?_)
 exact preT_len _ x (Nat.lt_succ_self _) _ _
theorem sumN_part (t:TypR):sumN t.t + 1≤tyN t:=by
 rw [tyN_eq]
 unfold inside sumN
 rw [List.map_append,List.sum_append]
 omega
inductive CT (l:List DefR):TypR→Prop
 | mk (t:TypR):(1≤t.kind∧t.kind≤12)→(t.kind = 12→0≤defI l t.name)→(∀ x ∈ inside t,CT l x)→CT l t
theorem CT.part {l:List DefR} {t:TypR} (h:CT l t):∀ x ∈ t.t,CT l x:=by
 cases h with
 | mk _ _ _ h1=>exact fun x hx=>h1 x (List.mem_append_left _ hx)
theorem defI_get {l:List DefR} {n:Str} (h:0≤defI l n):∃ h1:(defI l n).toNat < l.length,l[(defI l n).toNat].name = n:=by
 unfold defI at h ⊢
 by_cases c:l.findIdx (fun d=>d.name == n) < l.length
 ·have e:(if l.findIdx (fun d=>d.name == n) < l.length then ((l.findIdx (fun d=>d.name == n):Nat):Int) else -1).toNat = l.findIdx (fun d=>d.name == n):=by rw [if_pos c]; rfl
  have h2:=List.findIdx_getElem (xs:=l) (p:=fun d=>d.name == n) (w:=c)
  simp only [e]
  exact ⟨c,eq_of_beq h2⟩
 ·rw [if_neg c] at h
  exact absurd h (by decide)
theorem defT_mem {l:List DefR} {n:Str} (h:0≤defI l n):∃ d ∈ l,d.name = n∧d.t = defT l n:=by
 obtain ⟨h1,h2⟩:=defI_get h
 refine ⟨_,List.getElem_mem h1,h2,?_⟩
 unfold defT
 rw [List.getD_eq_getElem?_getD,List.getElem?_eq_getElem h1]
 rfl
theorem need_ref {l:List DefR} {t:TypR} {es:Met} (h:0≤defI l t.name) (hm:met es t.name = false):need l (defT l t.name) (meet es t.name) < need l t es:=by
 obtain ⟨d,hd,hn,ht⟩:=defT_mem h
 have:=rest_meet (w:=fun d=>SizeOf.sizeOf d.t + 1) hd (hn ▸ hm)
 rw [hn] at this
 simp only [ht] at this
 unfold need
 have:0 < SizeOf.sizeOf t:=by cases t; simp only [TypR.mk.sizeOf_spec]; omega
 omega
theorem need_part {l:List DefR} {t x:TypR} {es fs:Met} (h:x ∈ t.t) (hm:∀ n,met es n = true→met fs n = true):need l x fs < need l t es:=by
 have h1:=rest_le (w:=fun d=>SizeOf.sizeOf d.t + 1) (l:=l) hm
 have h2:SizeOf.sizeOf x < SizeOf.sizeOf t:=by
  obtain ⟨k,lo,hi,tx,tt,ff,n⟩:=t
  have h3:=List.sizeOf_lt_of_mem h
  simp only at h3
  simp only [TypR.mk.sizeOf_spec]
  omega
 unfold need
 omega
theorem comeL_cnt {l:List DefR} {f:TypR→Met→List TypR × Met}:∀ (r:List TypR) (es:Met),(∀ x ∈ r,∀ es:Met,(f x es).2.length + cnt l (f x es).2≤es.length + cnt l es)→(comeL f r es).2.length + cnt l (comeL f r es).2≤es.length + cnt l es
 | [],_,_=>Nat.le_refl _
 | x::r,es,h=>Nat.le_trans (comeL_cnt r (f x es).2 fun y hy=>h y (List.mem_cons_of_mem _ hy)) (h x (List.mem_cons_self ..) es)
theorem CT.defT {l:List DefR} (hl:∀ d ∈ l,CT l d.t) {n:Str} (h:0≤defI l n):CT l (Ty.defT l n):=by
 obtain ⟨d,hd,_,ht⟩:=defT_mem h
 rw [← ht]
 exact hl d hd
theorem cnt_ref {l:List DefR} {n:Str} {es:Met} (h:0≤defI l n) (hm:met es n = false):(meet es n).length + cnt l (meet es n)≤es.length + cnt l es:=by
 obtain ⟨d,hd,hn,ht⟩:=defT_mem h
 have:=rest_meet (w:=fun _=>1) hd (hn ▸ hm)
 rw [hn] at this
 have h2:=meet_len es n
 unfold cnt
 omega
theorem come_cnt {l:List DefR} (hl:∀ d ∈ l,CT l d.t):∀ (k:Nat) (t:TypR) (es:Met),CT l t→(comeF l k t es).2.length + cnt l (comeF l k t es).2≤es.length + cnt l es:=by
 intro k
 induction k with
 | zero=>intro t es _; exact Nat.le_refl _
 | succ k ih =>
  intro t es ht
  unfold comeF
  split
  ·rename_i hk
   split
   ·exact Nat.le_refl _
   ·rename_i hm
    have h0:0≤defI l t.name:=by cases ht with | mk _ _ h _=>exact h hk
    exact Nat.le_trans (ih _ _ (CT.defT hl h0)) (cnt_ref h0 (by simpa using hm))
  ·split
   ·exact comeL_cnt _ _ fun x hx es=>ih x es (ht.part x hx)
   ·exact Nat.le_refl _
abbrev restN (l:List DefR) (es:Met):Nat:=rest (fun d=>tyN d.t) l es
theorem restN_ref {l:List DefR} {n:Str} {es:Met} (h:0≤defI l n) (hm:met es n = false):tyN (Ty.defT l n) + restN l (meet es n)≤restN l es:=by
 obtain ⟨d,hd,hn,ht⟩:=defT_mem h
 have:=rest_meet (w:=fun d=>tyN d.t) hd (hn ▸ hm)
 rw [hn] at this
 simp only [ht] at this
 unfold restN
 omega
theorem comeL_wt {l:List DefR} {f:TypR→Met→List TypR × Met}:∀ (r:List TypR) (es:Met),(∀ x ∈ r,∀ es:Met,(f x es).1.length + restN l (f x es).2≤tyN x + restN l es)→(comeL f r es).1.length + restN l (comeL f r es).2≤sumN r + restN l es
 | [],es,_=>by unfold comeL; show 0 + restN l es≤sumN [] + restN l es; omega
 | x::r,es,h=>by
  have h1:=comeL_wt (l:=l) (f:=f) r (f x es).2 fun y hy=>h y (List.mem_cons_of_mem _ hy)
  have h2:=h x (List.mem_cons_self ..) es
  rw [sumN_cons]
  unfold comeL
  rw [List.length_append]
  dsimp only
  omega
theorem come_wt {l:List DefR} (hl:∀ d ∈ l,CT l d.t):∀ (k:Nat) (t:TypR) (es:Met),CT l t→(comeF l k t es).1.length + restN l (comeF l k t es).2≤tyN t + restN l es:=by
 intro k
 induction k with
 | zero=>intro t es _; unfold comeF; show 0 + restN l es≤tyN t + restN l es; omega
 | succ k ih =>
  intro t es ht
  have hs:=sumN_part t
  unfold comeF
  split
  ·rename_i hk
   split
   ·show 0 + restN l es≤tyN t + restN l es; omega
   ·rename_i hm
    have h0:0≤defI l t.name:=by cases ht with | mk _ _ h _=>exact h hk
    have h1:=ih _ (meet es t.name) (CT.defT hl h0)
    have h2:=restN_ref h0 (es:=es) (by simpa using hm)
    omega
  ·split
   ·have:=comeL_wt (l:=l) t.t es fun x hx es=>ih x es (ht.part x hx)
    omega
   ·show 1 + restN l es≤tyN t + restN l es; omega
def isPart (t:TypR):Prop:=1≤t.kind∧t.kind≤10
theorem comeL_part {f:TypR→Met→List TypR × Met}:∀ (r:List TypR) (es:Met),(∀ x ∈ r,∀ es,∀ y ∈ (f x es).1,isPart y)→∀ y ∈ (comeL f r es).1,isPart y
 | [],_,_,_,hy=>nomatch hy
 | x::r,es,h,y,hy=>by
  rcases List.mem_append.1 hy with hy | hy
  ·exact h x (List.mem_cons_self ..) es y hy
  ·exact comeL_part r _ (fun z hz=>h z (List.mem_cons_of_mem _ hz)) y hy
theorem come_part {l:List DefR} (hl:∀ d ∈ l,CT l d.t):∀ (k:Nat) (t:TypR) (es:Met),CT l t→∀ y ∈ (comeF l k t es).1,isPart y:=by
 intro k
 induction k with
 | zero=>intro t es _ y hy; exact nomatch hy
 | succ k ih =>
  intro t es ht y hy
  unfold comeF at hy
  split at hy
  ·rename_i hk
   split at hy
   ·exact nomatch hy
   ·have h0:0≤defI l t.name:=by cases ht with | mk _ _ h _=>exact h hk
    exact ih _ _ (CT.defT hl h0) y hy
  ·split at hy
   ·exact comeL_part _ _ (fun x hx es=>ih x es (ht.part x hx)) y hy
   ·rename_i h1 h2
    obtain rfl:y = t:=by simpa using hy
    cases ht with
    | mk _ h _ _=>exact ⟨h.1,by omega⟩
end Go.Ty
end
section
namespace Go.SX
variable [Globs]
def Kept (A:Nat) (a a':Act):Prop:=∀ j,j < A→a'.tmps.getD j undef = a.tmps.getD j undef
theorem Kept.refl (A:Nat) (a:Act):Kept A a a:=fun _ _=>rfl
theorem Kept.trans {A:Nat} {a b c:Act} (h:Kept A a b) (h2:Kept A b c):Kept A a c:=fun j hj=>(h2 j hj).trans (h j hj)
def dstOK (A:Nat) (o:Oper):Bool:=match o.dst with
 | none=>true
 | some d=>Nat.ble A d
theorem kept_put {A:Nat} {o:Oper} (h:dstOK A o = true) (a:Act) (v:Value):Kept A a (a.put o.dst v):=by
 intro j hj
 unfold dstOK at h
 cases hd:o.dst with
 | none=>rfl
 | some d =>
  rw [hd] at h
  have h2:A≤d:=Nat.le_of_ble_eq_true (show Nat.ble A d = true from h)
  have hne:¬ d = j:=fun e=>absurd (e ▸ h2:A≤j) (Nat.not_le_of_lt hj)
  simp only [Act.put,Array.getD_eq_getD_getElem?,Array.getElem?_setIfInBounds]
  rw [if_neg hne]
def keepsB (A:Nat):Code→Bool
 | .skip=>true
 | .region _ ops _=>ops.toList.all (dstOK A)
 | .seq x y=>keepsB A x && keepsB A y
 | .cond _ x y=>keepsB A x && keepsB A y
 | .block _ c=>keepsB A c
 | .loop c=>keepsB A c
 | .exit _=>true
 | .ret=>true
 | .label _=>true
 | _=>false
section
variable {P:Program} {N:Nat} {Γ:Ctx} {W0:World} {F:Fr} {X:Nat→Prop} {s:St} {β:Nat→Option Nat} {a:Act} {w:World} {A:Nat} {a0:Act}
def QK (A:Nat) (a0:Act) (Q:Exit→Act→World→Prop) (e:Exit) (a':Act) (w':World):Prop:=Q e a' w'∧(e = .normal→Kept A a0 a')
theorem letsOut_qk {Q:Exit→Act→World→Prop} (h:LetsOut Q):LetsOut (QK A a0 Q):=by
 obtain ⟨a,w,h⟩:=h
 exact ⟨a,w,h,fun h=>by cases h⟩
theorem wp_keep {o:Oper} {K:Act→World→Prop} {Q:Exit→Act→World→Prop} (hk:Kept A a0 a) (hd:dstOK A o = true) (hh:o.wp P a w K Q):o.wp P a w (fun a' w'=>K a' w'∧Kept A a0 a') (QK A a0 Q):=by
 unfold Oper.wp at *
 generalize (execOp a.eval o).run P w = r at *
 have hp:∀ v,Kept A a0 (a.put o.dst v):=fun v=>hk.trans (kept_put hd a v)
 cases r with
 | ok n w' =>
  cases n<;>simp only [Oper.upon] at hh ⊢
  all_goals first
   | exact ⟨hh,hp _⟩
   | exact ⟨hh,hk.trans (fun j hj=>(kept_put hd { a with defers:=_ } _ j hj))⟩
   | exact Calls.mono hh (fun e w'' he=>by cases e<;>first | exact ⟨he,hp _⟩ | exact ⟨he,fun h=>by cases h⟩ | exact letsOut_qk he)
   | exact Rows.mono hh (fun _ _ he=>⟨he,hp _⟩)
 | halt x w'=>cases x<;>simp only [Oper.upon] at hh ⊢ <;> first | exact ⟨hh,fun h=>by cases h⟩ | exact hh
theorem wpList_keep {ops:Array Oper} {Q:Exit→Act→World→Prop}:∀ (l:List Oper),(∀ o ∈ l,dstOK A o = true)→∀ (a:Act) (w:World),Kept A a0 a→wpList P ops Q l a w→wpList P ops (QK A a0 Q) l a w
 | [],_,a,w,hk,h=>⟨h,fun _=>hk⟩
 | o::r,hl,a,w,hk,h=>by
  have hd:=hl o (List.mem_cons_self ..)
  have ih:=wpList_keep (ops:=ops) (Q:=Q) r (fun o ho=>hl o (List.mem_cons_of_mem _ ho))
  unfold wpList at h ⊢
  split
  ·rename_i hw
   rw [if_pos hw] at h
   rcases h with h | ⟨h1,h2⟩
   ·exact .inl (Oper.wp_mono (fun a' w' h=>ih a' w' h.2 h.1) (wp_keep hk hd h))
   ·exact .inr ⟨h1,letsOut_qk h2⟩
  ·rename_i hw
   rw [if_neg hw] at h
   exact ih _ _ (hk.trans (kept_put hd a undef)) h
theorem wpAny_keep {ops:Array Oper} {md:Region.Mode} {Q:Exit→Act→World→Prop} (hl:∀ (i:Nat) o,ops[i]? = some o→dstOK A o = true):∀ (fuel:Nat) (listed:Array Bool) (a:Act) (w:World),Kept A a0 a→wpAny P md ops Q fuel listed a w→wpAny P md ops (QK A a0 Q) fuel listed a w
 | 0,listed,a,w,hk,h=>⟨h.1,h.2,fun _=>hk⟩
 | fuel + 1,listed,a,w,hk,h=>by
  refine ⟨fun hr=>⟨h.1 hr,fun _=>hk⟩,fun i hi=>?_⟩
  have h:=h.2 i hi
  unfold wpOp at h ⊢
  cases ho:ops[i]? with
  | none =>
   rw [ho] at h
   exact wpAny_keep hl fuel _ a w hk h
  | some o =>
   rw [ho] at h
   have hd:=hl i o ho
   simp only at h ⊢
   split
   ·rename_i hw
    rw [if_pos hw] at h
    rcases h with h | ⟨h1,h2⟩
    ·exact .inl (Oper.wp_mono (fun a' w' h=>wpAny_keep hl fuel _ a' w' h.2 h.1) (wp_keep hk hd h))
    ·exact .inr ⟨h1,letsOut_qk h2⟩
   ·rename_i hw
    rw [if_neg hw] at h
    exact wpAny_keep hl fuel _ _ w (hk.trans (kept_put hd a undef)) h
theorem vc_ok_keep (hΓ:Γ.good P) {L:List Nat} (c:Code):∀ (Q:Exit→St→Prop) (Q':Exit→Act→World→Prop) (s:St) (a:Act) (w:World),keepsB A c = true→(∀ e s a w,Q e s→Inv W0 F X N s a w→Kept A a0 a→Q' e a w)→vc P Γ N L c Q s→Inv W0 F X N s a w→Kept A a0 a→c.wp P Q' a w:=by
 induction c with
 | skip=>intro Q Q' s a w hc hQ h hI hk; exact wp_skip (hQ _ _ _ _ h hI hk)
 | region id ops draw =>
  intro Q Q' s a w hc hQ h hI hk
  have hl:∀ o ∈ ops.toList,dstOK A o = true:=List.all_eq_true.1 hc
  let Q2:Exit→Act→World→Prop:=fun e a w=>e = .normal∧∃ s',Q .normal s'∧Inv W0 F X N s' a w
  have hend:∀ e a' w',QK A a0 Q2 e a' w'→Q' e a' w':=fun e a' w' ⟨⟨he,s',h1,h2⟩,h3⟩=>by
   subst he
   exact hQ _ _ _ _ h1 h2 (h3 rfl)
  cases draw with
  | true =>
   obtain ⟨pl,hpl,h⟩:=(show ∃ pl,planOK ops pl = true∧vcPlan P Γ N ops.toList pl [] s fun s=>stKeepK L s (Q .normal) from h)
   simp only [planOK,Bool.and_eq_true,decide_eq_true_eq] at hpl
   obtain ⟨⟨h1,h2⟩,h3⟩:=hpl
   obtain ⟨β,hI⟩:=hI
   have hdr:Inv W0 F X N s a { w with drawn:=w.drawn + 1 }:=⟨β,hI.grow ⟨rfl,rfl,rfl,Nat.le_refl _,fun _ _ _=>rfl⟩⟩
   refine wp_mono (Q:=QK A a0 Q2) (wp_region_any hΓ.mixed (wpAny_keep (fun i o ho=>hl o (by rw [← Array.getElem?_toList] at ho; exact List.mem_of_getElem? ho)) _ _ _ _ hk (plan_ok hΓ (fun s a w hk ⟨β,hI⟩=>by
    obtain ⟨s',h1,h2⟩:=keep_ok hI hk
    exact ⟨rfl,s',h1,β,h2⟩) (fun c a a' w h=>by cases h.1) h1 pl _ [] s ops.size a _ (by simp) h2 h3 h hdr))) hend
  | false =>
   refine wp_mono (Q:=QK A a0 Q2) (wp_region_list (wpList_keep ops.toList hl a w hk ?_)) hend
   have:=vcOps_ok hΓ (Q':=Q2) (fun s a w hk ⟨β,hI⟩=>by
    obtain ⟨s',h1,h2⟩:=keep_ok hI hk
    exact ⟨rfl,s',h1,β,h2⟩) ops.toList [] s a w h hI
   simpa using this
 | seq x y ihx ihy =>
  intro Q Q' s a w hc hQ h hI hk
  simp only [keepsB,Bool.and_eq_true] at hc
  refine wp_seq (ihx _ _ s a w hc.1 (fun e s' a' w' hq hI' hk'=>?_) h hI hk)
  cases e with
  | normal=>exact ihy Q Q' s' a' w' hc.2 hQ hq hI' hk'
  | _=>exact hQ _ _ _ _ hq hI' hk'
 | cond c x y ihx ihy =>
  intro Q Q' s a w hc hQ h hI hk
  simp only [keepsB,Bool.and_eq_true] at hc
  have h:evK s c fun v=>match v with
   | .b t=>(t = true→vc P Γ N L x Q s)∧(t = false→vc P Γ N L y Q s)
   | _=>False:=h
  rw [evK_eq] at h
  obtain ⟨β,hI⟩:=hI
  have hr:=(ev_rel hI c).1
  cases hv:ev s c with
  | b t =>
   rw [hv] at h hr
   exact wp_cond_split hr.inv_b (fun ht=>ihx Q Q' s a w hc.1 hQ (h.1 ht) ⟨β,hI⟩ hk) (fun ht=>ihy Q Q' s a w hc.2 hQ (h.2 ht) ⟨β,hI⟩ hk)
  | _=>rw [hv] at h; exact h.elim
 | block id c ih =>
  intro Q Q' s a w hc hQ h hI hk
  refine wp_block (ih _ _ s a w hc (fun e s' a' w' hq hI' hk'=>?_) h hI hk)
  cases e with
  | exit id' =>
   have hq:bif Nat.beq id' id then Q .normal s' else Q (.exit id') s':=hq
   cases hb:Nat.beq id' id with
   | true =>
    rw [hb] at hq
    have hq1:Q .normal s':=hq
    have e:=Nat.eq_of_beq_eq_true hb
    subst e
    simp only [Exit.inBlock,if_true]
    exact hQ _ _ _ _ hq1 hI' hk'
   | false =>
    rw [hb] at hq
    have hne:id'≠id:=fun e=>by subst e; rw [Nat.beq_refl] at hb; cases hb
    simp only [Exit.inBlock,hne,if_false]; exact hQ _ _ _ _ hq hI' hk'
  | _=>exact hQ _ _ _ _ hq hI' hk'
 | loop c ih =>
  intro Q Q' s a w hc hQ h ⟨β,hI⟩ hk
  obtain ⟨cv,cb,rn,h⟩:=(show LoopVC N (vc P Γ N L c) Q s from h)
  obtain ⟨s00,β00,h,hI00⟩:=nlVec_ok cv hI h
  obtain ⟨s0,β0,h,hI0⟩:=nlBox_ok cb hI00 h
  obtain ⟨s1,β1,⟨σ,I,S,μ,x,hix,hwk,hround⟩,hI1⟩:=renSt_ok rn hI0 h
  refine wp_loop' (fun x a w=>(I x∧Inv W0 F X N (S x) a w)∧Kept A a0 a) μ (fun x a w hIx=>?_) (x:=x) ⟨⟨hix,β1,hI1.wk hwk⟩,hk⟩
  refine ih _ _ (S x) a w hc (fun e s' a' w' hq hI' hk'=>?_) (hround x hIx.1.1) hIx.1.2 hIx.2
  cases e with
  | normal =>
   obtain ⟨rn,hq⟩:=hq
   obtain ⟨β',hI'⟩:=hI'
   obtain ⟨s2,β2,⟨x',h0,h1,h2⟩,hI2⟩:=renSt_ok rn hI' hq
   exact ⟨x',⟨⟨h0,β2,hI2.wk h1⟩,hk'⟩,h2⟩
  | _=>exact hQ _ _ _ _ hq hI' hk'
 | exit id=>intro Q Q' s a w _ hQ h hI hk; exact wp_exit (hQ _ _ _ _ h hI hk)
 | ret=>intro Q Q' s a w _ hQ h hI hk; exact wp_ret (hQ _ _ _ _ h hI hk)
 | label l=>intro Q Q' s a w _ hQ h hI hk; exact wp_label (hQ _ _ _ _ h hI hk)
 | _=>intro Q Q' s a w hc; exact absurd hc (by simp [keepsB])
def endMK (Γ:Ctx) (rs:List ResultVar) (r:AV) (j:Nat) (g:AV) (boxes':List (Nat × List AV)) (s:St):Prop :=
 retK Γ s rs (fun v=>chkK (grB v) (v = r))∧∃ rn,renStK rn s fun s=>lookK s.slots j (fun v=>v = g)∧wkB s boxes'
def postMK (Γ:Ctx) (rs:List ResultVar) (r:AV) (j:Nat) (g:AV) (boxes':List (Nat × List AV)) (e:Exit) (s:St):Prop :=
 match e with
 | .normal=>endMK Γ rs r j g boxes' s
 | .ret=>endMK Γ rs r j g boxes' s
 | _=>False
theorem cspecM_of_vc (hΓ : Γ.good P) {f : FuncId} {fn : Func} {c : Code} (hf : P.funcs[f]? = some fn) (hb : fn.body = some c) (hcall : ∀ (vs : Array Value) (w : World), (callFunc f vs).run P w = .ok (.enter f vs) w)
  {rs:Array ResultVar} (hrs:fn.results = rs) (hN:fn.ntmps = N) {args:List AV} {boxes:List (Nat × List AV)} {r:AV} {j:Nat} {g:AV} {boxes':List (Nat × List AV)} {L:List Nat} (hlen:args.length≤N) (hN1:1≤N)
  (hlow:(boxNames boxes).all (fun n=>Nat.ble N n) = true) (hj:j < args.length) (hkeep:keepsB args.length c = true) (hvc:vc P Γ N L c (postMK Γ rs.toList r j g boxes') ⟨argSlots 0 args,boxes⟩):CSpecM P f args boxes r j g boxes':=by
 refine ⟨hcall,fun F X β w vs hvs hpin hI0=>?_⟩
 refine calls_of_wp hf hb ?_
 have hget:∀ n,n < vs.length→(vs.toArray++Array.replicate (fn.ntmps - vs.toArray.size) undef).getD n undef = vs.toArray.getD n undef:=fun n hm=>by
  simp only [Array.getD_eq_getD_getElem?]
  rw [Array.getElem?_append_left (by simpa using hm)]
 have hpad:∀ n,(vs.toArray++Array.replicate (fn.ntmps - vs.toArray.size) undef).getD n undef = vs.toArray.getD n undef∨look (argSlots 0 args) n = .x:=fun n=>by
  by_cases hm:n < vs.length
  ·exact .inl (hget n hm)
  ·right
   have h1:=look_args args 0 n
   rw [Nat.zero_add] at h1
   rw [h1,List.getD_eq_getElem?_getD,List.getElem?_eq_none (by omega)]
   rfl
 have hI:InvB w F X N ⟨argSlots 0 args,boxes⟩ β { tmps:=vs.toArray++Array.replicate (fn.ntmps - vs.toArray.size) undef,defers:=[] } w:=by
  refine ⟨hI0.ext,fun n=>?_,?_,hI0.boxes,hI0.inj,hI0.own,hI0.defers,hI0.ext2,hI0.pin,fun n hn=>?_,hI0.gl⟩
  ·rcases hpad n with h1 | h1
   ·show Rel _ _ _ _ ((vs.toArray++Array.replicate (fn.ntmps - vs.toArray.size) undef).getD n undef)
    rw [h1]; exact hI0.slots n
   ·show Rel _ _ _ (look (argSlots 0 args) n) _
    rw [h1]; exact Rel.x
  ·simp only [Array.size_append,List.size_toArray,Array.size_replicate,hN,hvs]
   omega
  ·cases hp:F.pin n with
   | none=>rfl
   | some g =>
    have h1:=boxNames_mem.2 (hpin n g hp)
    have:=Nat.le_of_ble_eq_true (List.all_eq_true.1 hlow n h1)
    omega
 refine vc_ok_keep (W0:=w) (F:=F) (X:=X) (A:=args.length) (a0:={ tmps:=vs.toArray++Array.replicate (fn.ntmps - vs.toArray.size) undef,defers:=[] }) hΓ c _ _ _ _ _ hkeep (fun e s a w' hq ⟨β',hI'⟩ hk=>?_) hvc ⟨_,hI⟩ (Kept.refl _ _)
 have key:endMK Γ rs.toList r j g boxes' s→a.defers = []∧∃ v,(results fn a.tmps).run P w' = .ok v w'∧∃ v' u β'',Ending.returned v = .returned v'∧vs[j]? = some u∧grB r = true∧Im (fun _=>False) w' r v'∧InvB w F X 1 ⟨[(0,g)],boxes'⟩ β'' ⟨#[u],[]⟩ w':=by
  rintro ⟨h,rn,h2⟩
  rw [← hrs] at h
  obtain ⟨v,u,hv,k1,k2⟩:=ret_ok hΓ hI' h
  obtain ⟨hg,rfl⟩:=(chkK_iff _ _).1 hv
  obtain ⟨s1,β1,⟨h3,hwk⟩,hI1⟩:=renSt_ok rn hI' h2
  rw [lookK_eq] at h3
  have hju:a.tmps.getD j undef = vs[j]'(by omega):=by
   rw [hk j hj]
   show (vs.toArray++Array.replicate (fn.ntmps - vs.toArray.size) undef).getD j undef = _
   rw [hget j (by omega)]
   have hm:j < vs.length:=by omega
   simp [hm]
  have hd:F.dfr = []:=hI0.defers.symm
  refine ⟨hI'.defers.trans hd,u,k2,u,_,β1,rfl,List.getElem?_eq_getElem (by omega),hg,gr_im hg k1,?_⟩
  have hr:=hI1.slots j
  rw [h3,hju] at hr
  have hrn:∀ n ∈ ids g,Nm s1 n:=fun n hn=>.inr (.inl ⟨j,by rw [h3]; exact hn⟩)
  have hNm:∀ n,Nm ⟨[(0,g)],boxes'⟩ n→Nm s1 n:=by
   rintro n (⟨cs,hc⟩ | ⟨q,hq⟩ | ⟨b,cs,hb,c,hc,hn⟩)
   ·obtain ⟨us',hu',_⟩:=wkB_look hwk n cs hc
    exact .inl ⟨us',hu'⟩
   ·simp only [look] at hq
    cases hb:Nat.beq 0 q with
    | true=>rw [hb] at hq; exact hrn n hq
    | false=>rw [hb] at hq; cases hq
   ·obtain ⟨us',hu',hw⟩:=wkB_look hwk b cs hb
    obtain ⟨g,us2,e,k1,k2,k3⟩:=hI1.boxes b us' hu'
    obtain ⟨u',hu2,hn'⟩:=(wkC_rel hw k3).2 c hc n hn
    exact .inr (.inr ⟨b,us',hu',u',hu2,hn'⟩)
  have hO:∀ k,Own X ⟨[(0,g)],boxes'⟩ β1 k→Own X s1 β1 k:=fun k hk=>hk.imp id fun ⟨n,hn,hb⟩=>⟨n,hNm n hn,hb⟩
  refine ⟨hI1.ext,fun n=>?_,rfl,fun n cs hc=>?_,fun n m g hn hm=>hI1.inj n m g (hNm n hn) (hNm m hm),fun n g hn hg=>hI1.own n g (hNm n hn) hg,hd.symm,hI1.ext2,fun n cs g hc hp=>?_,fun n hn=>hI1.pinN n (by omega),hI1.gl⟩
  ·simp only [look]
   cases hb:Nat.beq 0 n with
   | true=>have:=Nat.eq_of_beq_eq_true hb; subst this; exact hr.mono hO
   | false=>exact Rel.x
  ·obtain ⟨us',hu',hw⟩:=wkB_look hwk n cs hc
   obtain ⟨g,us2,e,k1,k2,k3⟩:=hI1.boxes n us' hu'
   exact ⟨g,us2,e,k1,k2,(wkC_rel hw k3).1.mono fun _ _ _ _ hr=>⟨hr.1.mono hO,hr.2⟩⟩
  ·obtain ⟨us',hu',_⟩:=wkB_look hwk n cs hc
   exact hI1.pin n us' g hu' hp
 cases e with
 | normal=>exact key hq
 | ret=>exact key hq
 | _=>exact hq.elim
end
end Go.SX
end
section
namespace Go.Proofs.YtdcdmojbkmedpaaDoor
open Go Go.SX Go.Ck Go.Vl Go.Ut Go.Ty
set_option maxRecDepth 100000
set_option maxHeartbeats 4000000
def orL (a:Int) (l:List TypR):Int:=l.foldl (fun a t=>bits .or .i64 a (kindsF t.kind)) a
theorem orL_append (a:Int) (l m:List TypR):orL a (l++m) = orL (orL a l) m:=List.foldl_append ..
def appL (a:List TypR):List TypR→List TypR
 | []=>a
 | x::r=>a++(x::r)
theorem appL_eq (a l:List TypR):appL a l = a++l:=by
 cases l with
 | nil=>exact (List.append_nil a).symm
 | cons x r=>rfl
theorem appL_append (a l m:List TypR):appL a (l++m) = appL (appL a l) m:=by rw [appL_eq,appL_eq,appL_eq,List.append_assoc]
theorem appL_len (a l:List TypR):(appL a l).length = a.length + l.length:=by rw [appL_eq,List.length_append]
section
variable [G:Globs]
theorem w_come0 (s:SchemaR) (m:Int) (hl:∀ d ∈ s.defs,CT s.defs d.t∧TB d.t) (k:Nat) (ih:∀ (x:TypR) (fs:Met),CT s.defs x→TB x→need s.defs x fs < k→fs.length + cnt s.defs fs≤1000→CSpecM Tryd.prog 156 [.rp (chkC s m),.agg (encTyp x),.ob 1001 1001 (.mp .str .bool fs),.fn 164 []] [] (.tup []) 2 (.ob 1001 1001 (.mp .str .bool (comeF s.defs k x fs).2)) []) (t:TypR) (es:Met) (ht:CT s.defs t) (hb:TB t) (hk:need s.defs t es < k + 1) (hc:es.length + cnt s.defs es≤1000):vc Tryd.prog Γ 56 [0,2,3,5,9,11,15,21,41,44,45,46,47,1001] (Tryd.f156.body.getD .skip) (postMK Γ [] (.tup []) 2 (.ob 1001 1001 (.mp .str .bool (comeF s.defs (k + 1) t es).2)) []) ⟨argSlots 0 [.rp (chkC s m),.agg (encTyp t),.ob 1001 1001 (.mp .str .bool es),.fn 164 []],[]⟩:=by
 have hF:comeF s.defs (k + 1) t es = if t.kind = 12 then (if met es t.name = true then ([],es) else comeF s.defs k (defT s.defs t.name) (meet es t.name)) else if t.kind = 11 then comeL (comeF s.defs k) t.t es else ([t],es):=rfl
 generalize comeF s.defs (k + 1) t es = R at hF ⊢
 by_cases c1:t.kind = 12
 ·rw [if_pos c1] at hF
  by_cases c2:met es t.name = true
  ·rw [if_pos c2] at hF
   subst hF
   have c2:(mpGet (κ:=.str) (τ:=.bool) es t.name).getD false = true:=c2
   (repeat' (first | (refine And.intro (fun h=>?_) (fun h=>?_)<;>(try simp [-List.getD_eq_getElem?_getD,-Int.pred_toNat] at h)<;>(try (exfalso; first | omega | contradiction))) | (refine And.intro (rng64 (by omega) (by omega)) ?_) | (refine And.intro ⟨by omega,by omega⟩ ?_) | (refine And.intro ⟨by omega,by omega,by omega⟩ ?_) | (intro _)))
   ·exact absurd (show (mpGet (κ:=.str) (τ:=.bool) es t.name).getD false = false by assumption) (by rw [c2]; decide)
   (repeat' (first | (refine And.intro (fun h=>?_) (fun h=>?_)<;>(try simp [-List.getD_eq_getElem?_getD,-Int.pred_toNat] at h)<;>(try (exfalso; first | omega | contradiction))) | (refine And.intro (rng64 (by omega) (by omega)) ?_) | (refine And.intro ⟨by omega,by omega⟩ ?_) | (refine And.intro ⟨by omega,by omega,by omega⟩ ?_) | (intro _)))
   exact And.intro rfl (Exists.intro [] (And.intro rfl (by (repeat' (first | exact trivial | exact Or.inl rfl | exact Or.inr (Or.inl ⟨rfl,_,rfl⟩) | exact Or.inr (Or.inr (Or.inr ⟨_,_,_,rfl,rfl⟩)) | refine And.intro ?_ ?_)))))
  rw [if_neg c2] at hF
  subst hF
  have h0:0≤defI s.defs t.name:=by cases ht with | mk _ _ h _=>exact h c1
  have hD:=s_defP s m t.name
  have c2:(mpGet (κ:=.str) (τ:=.bool) es t.name).getD false = false:=Bool.eq_false_iff.2 c2
  (repeat' (first | (refine And.intro (fun h=>?_) (fun h=>?_)<;>(try simp [-List.getD_eq_getElem?_getD,-Int.pred_toNat] at h)<;>(try (exfalso; first | omega | contradiction))) | (refine And.intro (rng64 (by omega) (by omega)) ?_) | (refine And.intro ⟨by omega,by omega⟩ ?_) | (refine And.intro ⟨by omega,by omega,by omega⟩ ?_) | (intro _)))
  refine And.intro (show es.length < 9223372036854775807 by omega) ?_
  (repeat' (first | (refine And.intro (fun h=>?_) (fun h=>?_)<;>(try simp [-List.getD_eq_getElem?_getD,-Int.pred_toNat] at h)<;>(try (exfalso; first | omega | contradiction))) | (refine And.intro (rng64 (by omega) (by omega)) ?_) | (refine And.intro ⟨by omega,by omega⟩ ?_) | (refine And.intro ⟨by omega,by omega,by omega⟩ ?_) | (intro _)))
  refine Exists.intro [.blk [0,1,2,3,4,5,6,7,8,9,10,11,12,13,14],.one 15] (And.intro (by kernel_rfl) ?_)
  refine Exists.intro _ (And.intro (hD) ?_)
  obtain ⟨g1,g2⟩:=defI_get h0
  have gg:s.defs.getD (defI s.defs t.name).toNat (dflt .dfn) = s.defs[(defI s.defs t.name).toNat]:=by rw [List.getD_eq_getElem?_getD,List.getElem?_eq_getElem g1]; rfl
  refine And.intro ⟨h0,by omega⟩ ?_
  (repeat' (first | (refine And.intro (fun h=>?_) (fun h=>?_)<;>(try simp [-List.getD_eq_getElem?_getD,-Int.pred_toNat] at h)<;>(try (exfalso; first | omega | contradiction))) | (refine And.intro (rng64 (by omega) (by omega)) ?_) | (refine And.intro ⟨by omega,by omega⟩ ?_) | (refine And.intro ⟨by omega,by omega,by omega⟩ ?_) | (intro _)))
  refine Or.inr (Or.inr (Or.inr (Or.inr (Or.inr (Exists.intro [] (Exists.intro _ (Exists.intro _ (Exists.intro _ (Exists.intro _ (Exists.intro _ (Exists.intro _ (Exists.intro _ (Exists.intro [(1001,1001)] (Exists.intro [2] (And.intro ((ih (defT s.defs t.name) (meet es t.name) (CT.defT (fun d hd=>(hl d hd).1) h0) (by obtain ⟨d,hd,_,e⟩:=defT_mem h0; rw [← e]; exact (hl d hd).2) (by have:=need_ref h0 (es:=es) c2; omega) (by have:=cnt_ref h0 (es:=es) c2; omega))) ?_)))))))))))))))
  refine (And.intro rfl (And.intro rfl (And.intro rfl (And.intro rfl (And.intro rfl (And.intro (And.intro rfl trivial) ?_))))))
  (repeat' (first | (refine And.intro (fun h=>?_) (fun h=>?_)<;>(try simp [-List.getD_eq_getElem?_getD,-Int.pred_toNat] at h)<;>(try (exfalso; first | omega | contradiction))) | (refine And.intro (rng64 (by omega) (by omega)) ?_) | (refine And.intro ⟨by omega,by omega⟩ ?_) | (refine And.intro ⟨by omega,by omega,by omega⟩ ?_) | (intro _)))
  exact And.intro rfl (Exists.intro [] (And.intro rfl (by (repeat' (first | exact trivial | exact Or.inl rfl | exact Or.inr (Or.inl ⟨rfl,_,rfl⟩) | exact Or.inr (Or.inr (Or.inr ⟨_,_,_,rfl,rfl⟩)) | refine And.intro ?_ ?_)))))
 rw [if_neg c1] at hF
 by_cases c3:t.kind = 11
 ·rw [if_pos c3] at hF
  (repeat' (first | (refine And.intro (fun h=>?_) (fun h=>?_)<;>(try simp [-List.getD_eq_getElem?_getD,-Int.pred_toNat] at h)<;>(try (exfalso; first | omega | contradiction))) | (refine And.intro (rng64 (by omega) (by omega)) ?_) | (refine And.intro ⟨by omega,by omega⟩ ?_) | (refine And.intro ⟨by omega,by omega,by omega⟩ ?_) | (intro _)))
  refine Exists.intro [] (Exists.intro [] (Exists.intro [] (Exists.intro (Nat × Met × List TypR) (Exists.intro (fun x=>x.1≤t.t.length∧(∀ n,met es n = true→met x.2.1 n = true)∧x.2.1.length + cnt s.defs x.2.1≤1000∧(True)∧R = (x.2.2++(comeL (comeF s.defs k) (t.t.drop x.1) x.2.1).1,(comeL (comeF s.defs k) (t.t.drop x.1) x.2.1).2)) (Exists.intro (fun ⟨i,fs,pre⟩=>⟨[(0,.rp (chkC s m)),(2,.ob 1001 1001 (.mp .str .bool fs)),(3,.fn 164 []),(44,.rd .typ t.t),(45,.i .i64 t.t.length),(46,.i .i64 i)],[]⟩) (Exists.intro (fun x=>t.t.length - x.1) (Exists.intro (0,es,[]) (And.intro ⟨Nat.zero_le _,fun _ h=>h,hc,trivial,hF⟩ (And.intro ?_ ?_)))))))))
  ·(repeat' (first | exact trivial | exact Or.inl rfl | exact Or.inr (Or.inl ⟨rfl,_,rfl⟩) | exact Or.inr (Or.inr (Or.inr ⟨_,_,_,rfl,rfl⟩)) | refine And.intro ?_ ?_))
  rintro ⟨i,fs,pre⟩ ⟨hi,hm,hq,hw2,hI⟩
  dsimp only at hi hm hq hw2 hI
  refine And.intro (fun hz=>?_) (fun hz=>?_)
  ·have hi:=ltD hz
   have hg:=getI (τ:=.typ) hi
   refine And.intro ⟨by omega,by omega⟩ ?_
   rw [hg]
   have hx:=List.getElem_mem hi
   have hp:=ht.part _ hx
   have hq2:=come_cnt (fun d hd=>(hl d hd).1) k t.t[i] fs hp
   have hm2:∀ n,met es n = true→met (comeF s.defs k t.t[i] fs).2 n = true:=fun n h=>come_met s.defs k _ _ n (hm n h)
   skip
   have hC:=ih t.t[i] fs hp (by cases hb with | mk _ _ _ _ _ _ h _=>exact h _ hx) (by have:=need_part (l:=s.defs) hx hm; omega) hq
   rw [List.drop_eq_getElem_cons hi,comeL,← List.append_assoc] at hI
   have hll:=(by cases hb; omega:t.t.length≤2000000)
   (repeat' (first | (refine And.intro (fun h=>?_) (fun h=>?_)<;>(try simp [-List.getD_eq_getElem?_getD,-Int.pred_toNat] at h)<;>(try (exfalso; first | omega | contradiction))) | (refine And.intro (rng64 (by omega) (by omega)) ?_) | (refine And.intro ⟨by omega,by omega⟩ ?_) | (refine And.intro ⟨by omega,by omega,by omega⟩ ?_) | (intro _)))
   refine Or.inr (Or.inr (Or.inr (Or.inr (Or.inr (Exists.intro [] (Exists.intro _ (Exists.intro _ (Exists.intro _ (Exists.intro _ (Exists.intro _ (Exists.intro _ (Exists.intro _ (Exists.intro [(1001,1001)] (Exists.intro [2] (And.intro (hC) ?_)))))))))))))))
   refine (And.intro rfl (And.intro rfl (And.intro rfl (And.intro rfl (And.intro rfl (And.intro (And.intro rfl trivial) ?_))))))
   (repeat' (first | (refine And.intro (fun h=>?_) (fun h=>?_)<;>(try simp [-List.getD_eq_getElem?_getD,-Int.pred_toNat] at h)<;>(try (exfalso; first | omega | contradiction))) | (refine And.intro (rng64 (by omega) (by omega)) ?_) | (refine And.intro ⟨by omega,by omega⟩ ?_) | (refine And.intro ⟨by omega,by omega,by omega⟩ ?_) | (intro _)))
   refine Exists.intro [] (Exists.intro (i + 1,(comeF s.defs k t.t[i] fs).2,pre++(comeF s.defs k t.t[i] fs).1) (And.intro ⟨hi,hm2,by dsimp only; omega,trivial,hI⟩ (And.intro ?_ ?_)))
   ·(repeat' (first | exact trivial | exact Or.inl rfl | exact Or.inr (Or.inl ⟨rfl,_,rfl⟩) | exact Or.inr (Or.inr (Or.inr ⟨_,_,_,rfl,rfl⟩)) | refine And.intro ?_ ?_))
   ·(exact Nat.sub_lt_sub_left (by omega) (by omega))
  ·(have hi:=geD hi hz)
   rw [List.drop_eq_nil_of_le (by omega)] at hI
   have hI:R = (pre++[],fs):=hI
   rw [List.append_nil] at hI
   subst hI
   (repeat' (first | (refine And.intro (fun h=>?_) (fun h=>?_)<;>(try simp [-List.getD_eq_getElem?_getD,-Int.pred_toNat] at h)<;>(try (exfalso; first | omega | contradiction))) | (refine And.intro (rng64 (by omega) (by omega)) ?_) | (refine And.intro ⟨by omega,by omega⟩ ?_) | (refine And.intro ⟨by omega,by omega,by omega⟩ ?_) | (intro _)))
   exact And.intro rfl (Exists.intro [] (And.intro rfl (by (repeat' (first | exact trivial | exact Or.inl rfl | exact Or.inr (Or.inl ⟨rfl,_,rfl⟩) | exact Or.inr (Or.inr (Or.inr ⟨_,_,_,rfl,rfl⟩)) | refine And.intro ?_ ?_)))))
 rw [if_neg c3] at hF
 subst hF
 (repeat' (first | (refine And.intro (fun h=>?_) (fun h=>?_)<;>(try simp [-List.getD_eq_getElem?_getD,-Int.pred_toNat] at h)<;>(try (exfalso; first | omega | contradiction))) | (refine And.intro (rng64 (by omega) (by omega)) ?_) | (refine And.intro ⟨by omega,by omega⟩ ?_) | (refine And.intro ⟨by omega,by omega,by omega⟩ ?_) | (intro _)))
 refine Or.inr (Or.inl (Exists.intro [] (Exists.intro _ (Exists.intro _ (Exists.intro _ (Exists.intro _ (Exists.intro _ (Exists.intro [] (And.intro (s_part0 t) ?_)))))))))
 refine (And.intro rfl (And.intro rfl (And.intro rfl (And.intro rfl ?_))))
 (repeat' (first | (refine And.intro (fun h=>?_) (fun h=>?_)<;>(try simp [-List.getD_eq_getElem?_getD,-Int.pred_toNat] at h)<;>(try (exfalso; first | omega | contradiction))) | (refine And.intro (rng64 (by omega) (by omega)) ?_) | (refine And.intro ⟨by omega,by omega⟩ ?_) | (refine And.intro ⟨by omega,by omega,by omega⟩ ?_) | (intro _)))
 exact And.intro rfl (Exists.intro [] (And.intro rfl (by (repeat' (first | exact trivial | exact Or.inl rfl | exact Or.inr (Or.inl ⟨rfl,_,rfl⟩) | exact Or.inr (Or.inr (Or.inr ⟨_,_,_,rfl,rfl⟩)) | refine And.intro ?_ ?_)))))
theorem s_come0 (s:SchemaR) (m:Int) (hl:∀ d ∈ s.defs,CT s.defs d.t∧TB d.t) (k:Nat) (ih:∀ (x:TypR) (fs:Met),CT s.defs x→TB x→need s.defs x fs < k→fs.length + cnt s.defs fs≤1000→CSpecM Tryd.prog 156 [.rp (chkC s m),.agg (encTyp x),.ob 1001 1001 (.mp .str .bool fs),.fn 164 []] [] (.tup []) 2 (.ob 1001 1001 (.mp .str .bool (comeF s.defs k x fs).2)) []) (t:TypR) (es:Met) (ht:CT s.defs t) (hb:TB t) (hk:need s.defs t es < k + 1) (hc:es.length + cnt s.defs es≤1000):CSpecM Tryd.prog 156 [.rp (chkC s m),.agg (encTyp t),.ob 1001 1001 (.mp .str .bool es),.fn 164 []] [] (.tup []) 2 (.ob 1001 1001 (.mp .str .bool (comeF s.defs (k + 1) t es).2)) [] :=
 cspecM_of_vc Γ_good Tryd.func156 rfl Tryd.call156 Tryd.results156 Tryd.ntmps156 (Nat.le_of_ble_eq_true rfl) (Nat.le_of_ble_eq_true rfl) (by rfl) (Nat.lt_of_lt_of_le (Nat.lt_succ_self _) (Nat.le_of_ble_eq_true rfl)) (by kernel_rfl) (w_come0 s m hl k ih t es ht hb hk hc)
theorem w_come1 (s:SchemaR) (m:Int) (hl:∀ d ∈ s.defs,CT s.defs d.t∧TB d.t) (k:Nat) (ih:∀ (x:TypR) (fs:Met) (a:Int),CT s.defs x→TB x→need s.defs x fs < k→fs.length + cnt s.defs fs≤1000→CSpecM Tryd.prog 156 [.rp (chkC s m),.agg (encTyp x),.ob 1001 1001 (.mp .str .bool fs),.fn 212 [.pt 1000 0]] [(1000,[.i .i64 a])] (.tup []) 2 (.ob 1001 1001 (.mp .str .bool (comeF s.defs k x fs).2)) [(1000,[.i .i64 (orL a (comeF s.defs k x fs).1)])]) (t:TypR) (es:Met) (a:Int) (ht:CT s.defs t) (hb:TB t) (hk:need s.defs t es < k + 1) (hc:es.length + cnt s.defs es≤1000):vc Tryd.prog Γ 56 [0,2,3,5,9,11,15,21,41,44,45,46,47,1000,1001] (Tryd.f156.body.getD .skip) (postMK Γ [] (.tup []) 2 (.ob 1001 1001 (.mp .str .bool (comeF s.defs (k + 1) t es).2)) [(1000,[.i .i64 (orL a (comeF s.defs (k + 1) t es).1)])]) ⟨argSlots 0 [.rp (chkC s m),.agg (encTyp t),.ob 1001 1001 (.mp .str .bool es),.fn 212 [.pt 1000 0]],[(1000,[.i .i64 a])]⟩:=by
 have hF:comeF s.defs (k + 1) t es = if t.kind = 12 then (if met es t.name = true then ([],es) else comeF s.defs k (defT s.defs t.name) (meet es t.name)) else if t.kind = 11 then comeL (comeF s.defs k) t.t es else ([t],es):=rfl
 generalize comeF s.defs (k + 1) t es = R at hF ⊢
 by_cases c1:t.kind = 12
 ·rw [if_pos c1] at hF
  by_cases c2:met es t.name = true
  ·rw [if_pos c2] at hF
   subst hF
   have c2:(mpGet (κ:=.str) (τ:=.bool) es t.name).getD false = true:=c2
   (repeat' (first | (refine And.intro (fun h=>?_) (fun h=>?_)<;>(try simp [-List.getD_eq_getElem?_getD,-Int.pred_toNat] at h)<;>(try (exfalso; first | omega | contradiction))) | (refine And.intro (rng64 (by omega) (by omega)) ?_) | (refine And.intro ⟨by omega,by omega⟩ ?_) | (refine And.intro ⟨by omega,by omega,by omega⟩ ?_) | (intro _)))
   ·exact absurd (show (mpGet (κ:=.str) (τ:=.bool) es t.name).getD false = false by assumption) (by rw [c2]; decide)
   (repeat' (first | (refine And.intro (fun h=>?_) (fun h=>?_)<;>(try simp [-List.getD_eq_getElem?_getD,-Int.pred_toNat] at h)<;>(try (exfalso; first | omega | contradiction))) | (refine And.intro (rng64 (by omega) (by omega)) ?_) | (refine And.intro ⟨by omega,by omega⟩ ?_) | (refine And.intro ⟨by omega,by omega,by omega⟩ ?_) | (intro _)))
   exact And.intro rfl (Exists.intro [] (And.intro rfl (by (repeat' (first | exact trivial | exact Or.inl rfl | exact Or.inr (Or.inl ⟨rfl,_,rfl⟩) | exact Or.inr (Or.inr (Or.inr ⟨_,_,_,rfl,rfl⟩)) | refine And.intro ?_ ?_)))))
  rw [if_neg c2] at hF
  subst hF
  have h0:0≤defI s.defs t.name:=by cases ht with | mk _ _ h _=>exact h c1
  have hD:=s_defP s m t.name
  have c2:(mpGet (κ:=.str) (τ:=.bool) es t.name).getD false = false:=Bool.eq_false_iff.2 c2
  (repeat' (first | (refine And.intro (fun h=>?_) (fun h=>?_)<;>(try simp [-List.getD_eq_getElem?_getD,-Int.pred_toNat] at h)<;>(try (exfalso; first | omega | contradiction))) | (refine And.intro (rng64 (by omega) (by omega)) ?_) | (refine And.intro ⟨by omega,by omega⟩ ?_) | (refine And.intro ⟨by omega,by omega,by omega⟩ ?_) | (intro _)))
  refine And.intro (show es.length < 9223372036854775807 by omega) ?_
  (repeat' (first | (refine And.intro (fun h=>?_) (fun h=>?_)<;>(try simp [-List.getD_eq_getElem?_getD,-Int.pred_toNat] at h)<;>(try (exfalso; first | omega | contradiction))) | (refine And.intro (rng64 (by omega) (by omega)) ?_) | (refine And.intro ⟨by omega,by omega⟩ ?_) | (refine And.intro ⟨by omega,by omega,by omega⟩ ?_) | (intro _)))
  refine Exists.intro [.blk [0,1,2,3,4,5,6,7,8,9,10,11,12,13,14],.one 15] (And.intro (by kernel_rfl) ?_)
  refine Exists.intro _ (And.intro (hD) ?_)
  obtain ⟨g1,g2⟩:=defI_get h0
  have gg:s.defs.getD (defI s.defs t.name).toNat (dflt .dfn) = s.defs[(defI s.defs t.name).toNat]:=by rw [List.getD_eq_getElem?_getD,List.getElem?_eq_getElem g1]; rfl
  refine And.intro ⟨h0,by omega⟩ ?_
  (repeat' (first | (refine And.intro (fun h=>?_) (fun h=>?_)<;>(try simp [-List.getD_eq_getElem?_getD,-Int.pred_toNat] at h)<;>(try (exfalso; first | omega | contradiction))) | (refine And.intro (rng64 (by omega) (by omega)) ?_) | (refine And.intro ⟨by omega,by omega⟩ ?_) | (refine And.intro ⟨by omega,by omega,by omega⟩ ?_) | (intro _)))
  refine Or.inr (Or.inr (Or.inr (Or.inr (Or.inr (Exists.intro [] (Exists.intro _ (Exists.intro _ (Exists.intro _ (Exists.intro _ (Exists.intro _ (Exists.intro _ (Exists.intro _ (Exists.intro [(1001,1001),(1000,1000)] (Exists.intro [2] (And.intro ((ih (defT s.defs t.name) (meet es t.name) a (CT.defT (fun d hd=>(hl d hd).1) h0) (by obtain ⟨d,hd,_,e⟩:=defT_mem h0; rw [← e]; exact (hl d hd).2) (by have:=need_ref h0 (es:=es) c2; omega) (by have:=cnt_ref h0 (es:=es) c2; omega))) ?_)))))))))))))))
  refine (And.intro rfl (And.intro rfl (And.intro rfl (And.intro rfl (And.intro rfl (And.intro rfl (And.intro (And.intro rfl trivial) ?_)))))))
  (repeat' (first | (refine And.intro (fun h=>?_) (fun h=>?_)<;>(try simp [-List.getD_eq_getElem?_getD,-Int.pred_toNat] at h)<;>(try (exfalso; first | omega | contradiction))) | (refine And.intro (rng64 (by omega) (by omega)) ?_) | (refine And.intro ⟨by omega,by omega⟩ ?_) | (refine And.intro ⟨by omega,by omega,by omega⟩ ?_) | (intro _)))
  exact And.intro rfl (Exists.intro [] (And.intro rfl (by (repeat' (first | exact trivial | exact Or.inl rfl | exact Or.inr (Or.inl ⟨rfl,_,rfl⟩) | exact Or.inr (Or.inr (Or.inr ⟨_,_,_,rfl,rfl⟩)) | refine And.intro ?_ ?_)))))
 rw [if_neg c1] at hF
 by_cases c3:t.kind = 11
 ·rw [if_pos c3] at hF
  (repeat' (first | (refine And.intro (fun h=>?_) (fun h=>?_)<;>(try simp [-List.getD_eq_getElem?_getD,-Int.pred_toNat] at h)<;>(try (exfalso; first | omega | contradiction))) | (refine And.intro (rng64 (by omega) (by omega)) ?_) | (refine And.intro ⟨by omega,by omega⟩ ?_) | (refine And.intro ⟨by omega,by omega,by omega⟩ ?_) | (intro _)))
  refine Exists.intro [] (Exists.intro [] (Exists.intro [] (Exists.intro (Nat × Met × List TypR) (Exists.intro (fun x=>x.1≤t.t.length∧(∀ n,met es n = true→met x.2.1 n = true)∧x.2.1.length + cnt s.defs x.2.1≤1000∧(True)∧R = (x.2.2++(comeL (comeF s.defs k) (t.t.drop x.1) x.2.1).1,(comeL (comeF s.defs k) (t.t.drop x.1) x.2.1).2)) (Exists.intro (fun ⟨i,fs,pre⟩=>⟨[(0,.rp (chkC s m)),(2,.ob 1001 1001 (.mp .str .bool fs)),(3,.fn 212 [.pt 1000 0]),(44,.rd .typ t.t),(45,.i .i64 t.t.length),(46,.i .i64 i)],[(1000,[.i .i64 (orL a pre)])]⟩) (Exists.intro (fun x=>t.t.length - x.1) (Exists.intro (0,es,[]) (And.intro ⟨Nat.zero_le _,fun _ h=>h,hc,trivial,hF⟩ (And.intro ?_ ?_)))))))))
  ·(repeat' (first | exact trivial | exact Or.inl rfl | exact Or.inr (Or.inl ⟨rfl,_,rfl⟩) | exact Or.inr (Or.inr (Or.inr ⟨_,_,_,rfl,rfl⟩)) | refine And.intro ?_ ?_))
  rintro ⟨i,fs,pre⟩ ⟨hi,hm,hq,hw2,hI⟩
  dsimp only at hi hm hq hw2 hI
  refine And.intro (fun hz=>?_) (fun hz=>?_)
  ·have hi:=ltD hz
   have hg:=getI (τ:=.typ) hi
   refine And.intro ⟨by omega,by omega⟩ ?_
   rw [hg]
   have hx:=List.getElem_mem hi
   have hp:=ht.part _ hx
   have hq2:=come_cnt (fun d hd=>(hl d hd).1) k t.t[i] fs hp
   have hm2:∀ n,met es n = true→met (comeF s.defs k t.t[i] fs).2 n = true:=fun n h=>come_met s.defs k _ _ n (hm n h)
   skip
   have hC:=ih t.t[i] fs (orL a pre) hp (by cases hb with | mk _ _ _ _ _ _ h _=>exact h _ hx) (by have:=need_part (l:=s.defs) hx hm; omega) hq
   rw [List.drop_eq_getElem_cons hi,comeL,← List.append_assoc] at hI
   have hll:=(by cases hb; omega:t.t.length≤2000000)
   (repeat' (first | (refine And.intro (fun h=>?_) (fun h=>?_)<;>(try simp [-List.getD_eq_getElem?_getD,-Int.pred_toNat] at h)<;>(try (exfalso; first | omega | contradiction))) | (refine And.intro (rng64 (by omega) (by omega)) ?_) | (refine And.intro ⟨by omega,by omega⟩ ?_) | (refine And.intro ⟨by omega,by omega,by omega⟩ ?_) | (intro _)))
   refine Or.inr (Or.inr (Or.inr (Or.inr (Or.inr (Exists.intro [] (Exists.intro _ (Exists.intro _ (Exists.intro _ (Exists.intro _ (Exists.intro _ (Exists.intro _ (Exists.intro _ (Exists.intro [(1001,1001),(1000,1000)] (Exists.intro [2] (And.intro (hC) ?_)))))))))))))))
   refine (And.intro rfl (And.intro rfl (And.intro rfl (And.intro rfl (And.intro rfl (And.intro rfl (And.intro (And.intro rfl trivial) ?_)))))))
   (repeat' (first | (refine And.intro (fun h=>?_) (fun h=>?_)<;>(try simp [-List.getD_eq_getElem?_getD,-Int.pred_toNat] at h)<;>(try (exfalso; first | omega | contradiction))) | (refine And.intro (rng64 (by omega) (by omega)) ?_) | (refine And.intro ⟨by omega,by omega⟩ ?_) | (refine And.intro ⟨by omega,by omega,by omega⟩ ?_) | (intro _)))
   refine Exists.intro [] (Exists.intro (i + 1,(comeF s.defs k t.t[i] fs).2,pre++(comeF s.defs k t.t[i] fs).1) (And.intro ⟨hi,hm2,by dsimp only; omega,trivial,hI⟩ (And.intro ?_ ?_)))
   ·(repeat' (first | exact trivial | exact Or.inl rfl | exact Or.inl (congrArg (AV.i .i64) (orL_append ..).symm) | refine And.intro ?_ ?_))
   ·(exact Nat.sub_lt_sub_left (by omega) (by omega))
  ·(have hi:=geD hi hz)
   rw [List.drop_eq_nil_of_le (by omega)] at hI
   have hI:R = (pre++[],fs):=hI
   rw [List.append_nil] at hI
   subst hI
   (repeat' (first | (refine And.intro (fun h=>?_) (fun h=>?_)<;>(try simp [-List.getD_eq_getElem?_getD,-Int.pred_toNat] at h)<;>(try (exfalso; first | omega | contradiction))) | (refine And.intro (rng64 (by omega) (by omega)) ?_) | (refine And.intro ⟨by omega,by omega⟩ ?_) | (refine And.intro ⟨by omega,by omega,by omega⟩ ?_) | (intro _)))
   exact And.intro rfl (Exists.intro [] (And.intro rfl (by (repeat' (first | exact trivial | exact Or.inl rfl | exact Or.inr (Or.inl ⟨rfl,_,rfl⟩) | exact Or.inr (Or.inr (Or.inr ⟨_,_,_,rfl,rfl⟩)) | refine And.intro ?_ ?_)))))
 rw [if_neg c3] at hF
 subst hF
 (repeat' (first | (refine And.intro (fun h=>?_) (fun h=>?_)<;>(try simp [-List.getD_eq_getElem?_getD,-Int.pred_toNat] at h)<;>(try (exfalso; first | omega | contradiction))) | (refine And.intro (rng64 (by omega) (by omega)) ?_) | (refine And.intro ⟨by omega,by omega⟩ ?_) | (refine And.intro ⟨by omega,by omega,by omega⟩ ?_) | (intro _)))
 refine Or.inr (Or.inl (Exists.intro [] (Exists.intro _ (Exists.intro _ (Exists.intro _ (Exists.intro _ (Exists.intro _ (Exists.intro [(1000,1000)] (And.intro (s_part1 t (by cases ht with | mk _ h _ _=>exact h.1) (by cases ht with | mk _ h _ _=>omega) a) ?_)))))))))
 refine (And.intro rfl (And.intro rfl (And.intro rfl (And.intro rfl (And.intro rfl ?_)))))
 (repeat' (first | (refine And.intro (fun h=>?_) (fun h=>?_)<;>(try simp [-List.getD_eq_getElem?_getD,-Int.pred_toNat] at h)<;>(try (exfalso; first | omega | contradiction))) | (refine And.intro (rng64 (by omega) (by omega)) ?_) | (refine And.intro ⟨by omega,by omega⟩ ?_) | (refine And.intro ⟨by omega,by omega,by omega⟩ ?_) | (intro _)))
 exact And.intro rfl (Exists.intro [] (And.intro rfl (by (repeat' (first | exact trivial | exact Or.inl rfl | exact Or.inr (Or.inl ⟨rfl,_,rfl⟩) | exact Or.inr (Or.inr (Or.inr ⟨_,_,_,rfl,rfl⟩)) | refine And.intro ?_ ?_)))))
theorem s_come1 (s:SchemaR) (m:Int) (hl:∀ d ∈ s.defs,CT s.defs d.t∧TB d.t) (k:Nat) (ih:∀ (x:TypR) (fs:Met) (a:Int),CT s.defs x→TB x→need s.defs x fs < k→fs.length + cnt s.defs fs≤1000→CSpecM Tryd.prog 156 [.rp (chkC s m),.agg (encTyp x),.ob 1001 1001 (.mp .str .bool fs),.fn 212 [.pt 1000 0]] [(1000,[.i .i64 a])] (.tup []) 2 (.ob 1001 1001 (.mp .str .bool (comeF s.defs k x fs).2)) [(1000,[.i .i64 (orL a (comeF s.defs k x fs).1)])]) (t:TypR) (es:Met) (a:Int) (ht:CT s.defs t) (hb:TB t) (hk:need s.defs t es < k + 1) (hc:es.length + cnt s.defs es≤1000):CSpecM Tryd.prog 156 [.rp (chkC s m),.agg (encTyp t),.ob 1001 1001 (.mp .str .bool es),.fn 212 [.pt 1000 0]] [(1000,[.i .i64 a])] (.tup []) 2 (.ob 1001 1001 (.mp .str .bool (comeF s.defs (k + 1) t es).2)) [(1000,[.i .i64 (orL a (comeF s.defs (k + 1) t es).1)])] :=
 cspecM_of_vc Γ_good Tryd.func156 rfl Tryd.call156 Tryd.results156 Tryd.ntmps156 (Nat.le_of_ble_eq_true rfl) (Nat.le_of_ble_eq_true rfl) (by rfl) (Nat.lt_of_lt_of_le (Nat.lt_succ_self _) (Nat.le_of_ble_eq_true rfl)) (by kernel_rfl) (w_come1 s m hl k ih t es a ht hb hk hc)
theorem w_come2 (s:SchemaR) (m:Int) (hl:∀ d ∈ s.defs,CT s.defs d.t∧TB d.t) (k:Nat) (ih:∀ (x:TypR) (fs:Met) (a:List TypR),CT s.defs x→TB x→need s.defs x fs < k→fs.length + cnt s.defs fs≤1000→a.length + tyN x + restN s.defs fs≤100000→CSpecM Tryd.prog 156 [.rp (chkC s m),.agg (encTyp x),.ob 1001 1001 (.mp .str .bool fs),.fn 157 [.pt 1000 0]] [(1000,[.vec 1002 .typ a])] (.tup []) 2 (.ob 1001 1001 (.mp .str .bool (comeF s.defs k x fs).2)) [(1000,[.vec 1002 .typ (appL a (comeF s.defs k x fs).1)])]) (t:TypR) (es:Met) (a:List TypR) (ht:CT s.defs t) (hb:TB t) (hk:need s.defs t es < k + 1) (hc:es.length + cnt s.defs es≤1000) (hw:a.length + tyN t + restN s.defs es≤100000):vc Tryd.prog Γ 56 [0,2,3,5,9,11,15,21,41,44,45,46,47,1000,1001,1002] (Tryd.f156.body.getD .skip) (postMK Γ [] (.tup []) 2 (.ob 1001 1001 (.mp .str .bool (comeF s.defs (k + 1) t es).2)) [(1000,[.vec 1002 .typ (appL a (comeF s.defs (k + 1) t es).1)])]) ⟨argSlots 0 [.rp (chkC s m),.agg (encTyp t),.ob 1001 1001 (.mp .str .bool es),.fn 157 [.pt 1000 0]],[(1000,[.vec 1002 .typ a])]⟩:=by
 have hF:comeF s.defs (k + 1) t es = if t.kind = 12 then (if met es t.name = true then ([],es) else comeF s.defs k (defT s.defs t.name) (meet es t.name)) else if t.kind = 11 then comeL (comeF s.defs k) t.t es else ([t],es):=rfl
 generalize comeF s.defs (k + 1) t es = R at hF ⊢
 by_cases c1:t.kind = 12
 ·rw [if_pos c1] at hF
  by_cases c2:met es t.name = true
  ·rw [if_pos c2] at hF
   subst hF
   have c2:(mpGet (κ:=.str) (τ:=.bool) es t.name).getD false = true:=c2
   (repeat' (first | (refine And.intro (fun h=>?_) (fun h=>?_)<;>(try simp [-List.getD_eq_getElem?_getD,-Int.pred_toNat] at h)<;>(try (exfalso; first | omega | contradiction))) | (refine And.intro (rng64 (by omega) (by omega)) ?_) | (refine And.intro ⟨by omega,by omega⟩ ?_) | (refine And.intro ⟨by omega,by omega,by omega⟩ ?_) | (intro _)))
   ·exact absurd (show (mpGet (κ:=.str) (τ:=.bool) es t.name).getD false = false by assumption) (by rw [c2]; decide)
   (repeat' (first | (refine And.intro (fun h=>?_) (fun h=>?_)<;>(try simp [-List.getD_eq_getElem?_getD,-Int.pred_toNat] at h)<;>(try (exfalso; first | omega | contradiction))) | (refine And.intro (rng64 (by omega) (by omega)) ?_) | (refine And.intro ⟨by omega,by omega⟩ ?_) | (refine And.intro ⟨by omega,by omega,by omega⟩ ?_) | (intro _)))
   exact And.intro rfl (Exists.intro [] (And.intro rfl (by (repeat' (first | exact trivial | exact Or.inl rfl | exact Or.inr (Or.inl ⟨rfl,_,rfl⟩) | exact Or.inr (Or.inr (Or.inr ⟨_,_,_,rfl,rfl⟩)) | refine And.intro ?_ ?_)))))
  rw [if_neg c2] at hF
  subst hF
  have h0:0≤defI s.defs t.name:=by cases ht with | mk _ _ h _=>exact h c1
  have hD:=s_defP s m t.name
  have c2:(mpGet (κ:=.str) (τ:=.bool) es t.name).getD false = false:=Bool.eq_false_iff.2 c2
  (repeat' (first | (refine And.intro (fun h=>?_) (fun h=>?_)<;>(try simp [-List.getD_eq_getElem?_getD,-Int.pred_toNat] at h)<;>(try (exfalso; first | omega | contradiction))) | (refine And.intro (rng64 (by omega) (by omega)) ?_) | (refine And.intro ⟨by omega,by omega⟩ ?_) | (refine And.intro ⟨by omega,by omega,by omega⟩ ?_) | (intro _)))
  refine And.intro (show es.length < 9223372036854775807 by omega) ?_
  (repeat' (first | (refine And.intro (fun h=>?_) (fun h=>?_)<;>(try simp [-List.getD_eq_getElem?_getD,-Int.pred_toNat] at h)<;>(try (exfalso; first | omega | contradiction))) | (refine And.intro (rng64 (by omega) (by omega)) ?_) | (refine And.intro ⟨by omega,by omega⟩ ?_) | (refine And.intro ⟨by omega,by omega,by omega⟩ ?_) | (intro _)))
  refine Exists.intro [.blk [0,1,2,3,4,5,6,7,8,9,10,11,12,13,14],.one 15] (And.intro (by kernel_rfl) ?_)
  refine Exists.intro _ (And.intro (hD) ?_)
  obtain ⟨g1,g2⟩:=defI_get h0
  have gg:s.defs.getD (defI s.defs t.name).toNat (dflt .dfn) = s.defs[(defI s.defs t.name).toNat]:=by rw [List.getD_eq_getElem?_getD,List.getElem?_eq_getElem g1]; rfl
  refine And.intro ⟨h0,by omega⟩ ?_
  (repeat' (first | (refine And.intro (fun h=>?_) (fun h=>?_)<;>(try simp [-List.getD_eq_getElem?_getD,-Int.pred_toNat] at h)<;>(try (exfalso; first | omega | contradiction))) | (refine And.intro (rng64 (by omega) (by omega)) ?_) | (refine And.intro ⟨by omega,by omega⟩ ?_) | (refine And.intro ⟨by omega,by omega,by omega⟩ ?_) | (intro _)))
  refine Or.inr (Or.inr (Or.inr (Or.inr (Or.inr (Exists.intro [] (Exists.intro _ (Exists.intro _ (Exists.intro _ (Exists.intro _ (Exists.intro _ (Exists.intro _ (Exists.intro _ (Exists.intro [(1001,1001),(1000,1000),(1002,1002)] (Exists.intro [2] (And.intro ((ih (defT s.defs t.name) (meet es t.name) a (CT.defT (fun d hd=>(hl d hd).1) h0) (by obtain ⟨d,hd,_,e⟩:=defT_mem h0; rw [← e]; exact (hl d hd).2) (by have:=need_ref h0 (es:=es) c2; omega) (by have:=cnt_ref h0 (es:=es) c2; omega) (by have:=restN_ref h0 (es:=es) c2; have:=sumN_part t; omega))) ?_)))))))))))))))
  refine (And.intro rfl (And.intro rfl (And.intro rfl (And.intro rfl (And.intro rfl (And.intro rfl (And.intro (And.intro rfl trivial) ?_)))))))
  (repeat' (first | (refine And.intro (fun h=>?_) (fun h=>?_)<;>(try simp [-List.getD_eq_getElem?_getD,-Int.pred_toNat] at h)<;>(try (exfalso; first | omega | contradiction))) | (refine And.intro (rng64 (by omega) (by omega)) ?_) | (refine And.intro ⟨by omega,by omega⟩ ?_) | (refine And.intro ⟨by omega,by omega,by omega⟩ ?_) | (intro _)))
  exact And.intro rfl (Exists.intro [] (And.intro rfl (by (repeat' (first | exact trivial | exact Or.inl rfl | exact Or.inr (Or.inl ⟨rfl,_,rfl⟩) | exact Or.inr (Or.inr (Or.inr ⟨_,_,_,rfl,rfl⟩)) | refine And.intro ?_ ?_)))))
 rw [if_neg c1] at hF
 by_cases c3:t.kind = 11
 ·rw [if_pos c3] at hF
  (repeat' (first | (refine And.intro (fun h=>?_) (fun h=>?_)<;>(try simp [-List.getD_eq_getElem?_getD,-Int.pred_toNat] at h)<;>(try (exfalso; first | omega | contradiction))) | (refine And.intro (rng64 (by omega) (by omega)) ?_) | (refine And.intro ⟨by omega,by omega⟩ ?_) | (refine And.intro ⟨by omega,by omega,by omega⟩ ?_) | (intro _)))
  refine Exists.intro [] (Exists.intro [] (Exists.intro [] (Exists.intro (Nat × Met × List TypR) (Exists.intro (fun x=>x.1≤t.t.length∧(∀ n,met es n = true→met x.2.1 n = true)∧x.2.1.length + cnt s.defs x.2.1≤1000∧(a.length + x.2.2.length + sumN (t.t.drop x.1) + restN s.defs x.2.1≤100000)∧R = (x.2.2++(comeL (comeF s.defs k) (t.t.drop x.1) x.2.1).1,(comeL (comeF s.defs k) (t.t.drop x.1) x.2.1).2)) (Exists.intro (fun ⟨i,fs,pre⟩=>⟨[(0,.rp (chkC s m)),(2,.ob 1001 1001 (.mp .str .bool fs)),(3,.fn 157 [.pt 1000 0]),(44,.rd .typ t.t),(45,.i .i64 t.t.length),(46,.i .i64 i)],[(1000,[.vec 1002 .typ (appL a pre)])]⟩) (Exists.intro (fun x=>t.t.length - x.1) (Exists.intro (0,es,[]) (And.intro ⟨Nat.zero_le _,fun _ h=>h,hc,(by have:=sumN_part t; show a.length + 0 + sumN t.t + restN s.defs es≤100000; omega),hF⟩ (And.intro ?_ ?_)))))))))
  ·(repeat' (first | exact trivial | exact Or.inl rfl | exact Or.inr (Or.inl ⟨rfl,_,rfl⟩) | exact Or.inr (Or.inr (Or.inr ⟨_,_,_,rfl,rfl⟩)) | refine And.intro ?_ ?_))
  rintro ⟨i,fs,pre⟩ ⟨hi,hm,hq,hw2,hI⟩
  dsimp only at hi hm hq hw2 hI
  refine And.intro (fun hz=>?_) (fun hz=>?_)
  ·have hi:=ltD hz
   have hg:=getI (τ:=.typ) hi
   refine And.intro ⟨by omega,by omega⟩ ?_
   rw [hg]
   have hx:=List.getElem_mem hi
   have hp:=ht.part _ hx
   have hq2:=come_cnt (fun d hd=>(hl d hd).1) k t.t[i] fs hp
   have hm2:∀ n,met es n = true→met (comeF s.defs k t.t[i] fs).2 n = true:=fun n h=>come_met s.defs k _ _ n (hm n h)
   rw [List.drop_eq_getElem_cons hi,sumN_cons] at hw2
   have hw3:=come_wt (fun d hd=>(hl d hd).1) k t.t[i] fs hp
   have hC:=ih t.t[i] fs (appL a pre) hp (by cases hb with | mk _ _ _ _ _ _ h _=>exact h _ hx) (by have:=need_part (l:=s.defs) hx hm; omega) hq (by rw [appL_len]; omega)
   rw [List.drop_eq_getElem_cons hi,comeL,← List.append_assoc] at hI
   have hll:=(by cases hb; omega:t.t.length≤2000000)
   (repeat' (first | (refine And.intro (fun h=>?_) (fun h=>?_)<;>(try simp [-List.getD_eq_getElem?_getD,-Int.pred_toNat] at h)<;>(try (exfalso; first | omega | contradiction))) | (refine And.intro (rng64 (by omega) (by omega)) ?_) | (refine And.intro ⟨by omega,by omega⟩ ?_) | (refine And.intro ⟨by omega,by omega,by omega⟩ ?_) | (intro _)))
   refine Or.inr (Or.inr (Or.inr (Or.inr (Or.inr (Exists.intro [] (Exists.intro _ (Exists.intro _ (Exists.intro _ (Exists.intro _ (Exists.intro _ (Exists.intro _ (Exists.intro _ (Exists.intro [(1001,1001),(1000,1000),(1002,1002)] (Exists.intro [2] (And.intro (hC) ?_)))))))))))))))
   refine (And.intro rfl (And.intro rfl (And.intro rfl (And.intro rfl (And.intro rfl (And.intro rfl (And.intro (And.intro rfl trivial) ?_)))))))
   (repeat' (first | (refine And.intro (fun h=>?_) (fun h=>?_)<;>(try simp [-List.getD_eq_getElem?_getD,-Int.pred_toNat] at h)<;>(try (exfalso; first | omega | contradiction))) | (refine And.intro (rng64 (by omega) (by omega)) ?_) | (refine And.intro ⟨by omega,by omega⟩ ?_) | (refine And.intro ⟨by omega,by omega,by omega⟩ ?_) | (intro _)))
   refine Exists.intro [] (Exists.intro (i + 1,(comeF s.defs k t.t[i] fs).2,pre++(comeF s.defs k t.t[i] fs).1) (And.intro ⟨hi,hm2,by dsimp only; omega,by dsimp only; rw [List.length_append]; omega,hI⟩ (And.intro ?_ ?_)))
   ·(repeat' (first | exact trivial | exact Or.inl rfl | exact Or.inl (congrArg (AV.vec 1002 .typ) (appL_append ..).symm) | refine And.intro ?_ ?_))
   ·(exact Nat.sub_lt_sub_left (by omega) (by omega))
  ·(have hi:=geD hi hz)
   rw [List.drop_eq_nil_of_le (by omega)] at hI
   have hI:R = (pre++[],fs):=hI
   rw [List.append_nil] at hI
   subst hI
   (repeat' (first | (refine And.intro (fun h=>?_) (fun h=>?_)<;>(try simp [-List.getD_eq_getElem?_getD,-Int.pred_toNat] at h)<;>(try (exfalso; first | omega | contradiction))) | (refine And.intro (rng64 (by omega) (by omega)) ?_) | (refine And.intro ⟨by omega,by omega⟩ ?_) | (refine And.intro ⟨by omega,by omega,by omega⟩ ?_) | (intro _)))
   exact And.intro rfl (Exists.intro [] (And.intro rfl (by (repeat' (first | exact trivial | exact Or.inl rfl | exact Or.inr (Or.inl ⟨rfl,_,rfl⟩) | exact Or.inr (Or.inr (Or.inr ⟨_,_,_,rfl,rfl⟩)) | refine And.intro ?_ ?_)))))
 rw [if_neg c3] at hF
 subst hF
 (repeat' (first | (refine And.intro (fun h=>?_) (fun h=>?_)<;>(try simp [-List.getD_eq_getElem?_getD,-Int.pred_toNat] at h)<;>(try (exfalso; first | omega | contradiction))) | (refine And.intro (rng64 (by omega) (by omega)) ?_) | (refine And.intro ⟨by omega,by omega⟩ ?_) | (refine And.intro ⟨by omega,by omega,by omega⟩ ?_) | (intro _)))
 refine Or.inr (Or.inl (Exists.intro [] (Exists.intro _ (Exists.intro _ (Exists.intro _ (Exists.intro _ (Exists.intro _ (Exists.intro [(1000,1000),(1001,1002)] (And.intro (s_part2 t a (by omega)) ?_)))))))))
 refine (And.intro rfl (And.intro rfl (And.intro rfl (And.intro rfl (And.intro rfl ?_)))))
 (repeat' (first | (refine And.intro (fun h=>?_) (fun h=>?_)<;>(try simp [-List.getD_eq_getElem?_getD,-Int.pred_toNat] at h)<;>(try (exfalso; first | omega | contradiction))) | (refine And.intro (rng64 (by omega) (by omega)) ?_) | (refine And.intro ⟨by omega,by omega⟩ ?_) | (refine And.intro ⟨by omega,by omega,by omega⟩ ?_) | (intro _)))
 exact And.intro rfl (Exists.intro [] (And.intro rfl (by (repeat' (first | exact trivial | exact Or.inl rfl | exact Or.inr (Or.inl ⟨rfl,_,rfl⟩) | exact Or.inr (Or.inr (Or.inr ⟨_,_,_,rfl,rfl⟩)) | refine And.intro ?_ ?_)))))
theorem s_come2 (s:SchemaR) (m:Int) (hl:∀ d ∈ s.defs,CT s.defs d.t∧TB d.t) (k:Nat) (ih:∀ (x:TypR) (fs:Met) (a:List TypR),CT s.defs x→TB x→need s.defs x fs < k→fs.length + cnt s.defs fs≤1000→a.length + tyN x + restN s.defs fs≤100000→CSpecM Tryd.prog 156 [.rp (chkC s m),.agg (encTyp x),.ob 1001 1001 (.mp .str .bool fs),.fn 157 [.pt 1000 0]] [(1000,[.vec 1002 .typ a])] (.tup []) 2 (.ob 1001 1001 (.mp .str .bool (comeF s.defs k x fs).2)) [(1000,[.vec 1002 .typ (appL a (comeF s.defs k x fs).1)])]) (t:TypR) (es:Met) (a:List TypR) (ht:CT s.defs t) (hb:TB t) (hk:need s.defs t es < k + 1) (hc:es.length + cnt s.defs es≤1000) (hw:a.length + tyN t + restN s.defs es≤100000):CSpecM Tryd.prog 156 [.rp (chkC s m),.agg (encTyp t),.ob 1001 1001 (.mp .str .bool es),.fn 157 [.pt 1000 0]] [(1000,[.vec 1002 .typ a])] (.tup []) 2 (.ob 1001 1001 (.mp .str .bool (comeF s.defs (k + 1) t es).2)) [(1000,[.vec 1002 .typ (appL a (comeF s.defs (k + 1) t es).1)])] :=
 cspecM_of_vc Γ_good Tryd.func156 rfl Tryd.call156 Tryd.results156 Tryd.ntmps156 (Nat.le_of_ble_eq_true rfl) (Nat.le_of_ble_eq_true rfl) (by rfl) (Nat.lt_of_lt_of_le (Nat.lt_succ_self _) (Nat.le_of_ble_eq_true rfl)) (by kernel_rfl) (w_come2 s m hl k ih t es a ht hb hk hc hw)
end
end Go.Proofs.YtdcdmojbkmedpaaDoor
end
section
namespace Go.Proofs.YtdcdmojbkmedpaaDoor
open Go Go.SX Go.Ck Go.Vl Go.Ut Go.Ty
set_option maxRecDepth 100000
set_option maxHeartbeats 4000000
noncomputable def comeA (l:List DefR) (t:TypR):List TypR × Met:=comeF l (need l t [] + 1) t []
structure SB (s:SchemaR):Prop where
 defs:∀ d ∈ s.defs,CT s.defs d.t∧TB d.t
 root:CT s.defs s.root∧TB s.root
 many:s.defs.length≤1000
 types:restN s.defs [] + tyN s.root≤50000
theorem rest_all (w:DefR→Nat):∀ l:List DefR,rest w l [] = (l.map w).sum
 | []=>rfl
 | d::r=>by
  unfold rest
  rw [rest_all w r,List.map_cons,List.sum_cons,if_neg (by intro h; cases h)]
theorem cnt_all (l:List DefR):Ty.cnt l [] = l.length:=by
 unfold Ty.cnt
 rw [rest_all]
 induction l with
 | nil=>rfl
 | cons d r ih=>rw [List.map_cons,List.sum_cons,ih,List.length_cons]; omega
section
variable [G:Globs]
theorem come0 {s:SchemaR} (hs:SB s) (m:Int):∀ (k:Nat) (t:TypR) (es:Met),CT s.defs t→TB t→need s.defs t es < k→es.length + Ty.cnt s.defs es≤1000→CSpecM Tryd.prog 156 [.rp (chkC s m),.agg (encTyp t),.ob 1001 1001 (.mp .str .bool es),.fn 164 []] [] (.tup []) 2 (.ob 1001 1001 (.mp .str .bool (comeF s.defs k t es).2)) []:=by
 intro k
 induction k with
 | zero=>intro t es _ _ h; exact absurd h (Nat.not_lt_zero _)
 | succ k ih=>exact fun t es h1 h2 h3 h4=>s_come0 s m hs.defs k ih t es h1 h2 h3 h4
theorem come1 {s:SchemaR} (hs:SB s) (m:Int):∀ (k:Nat) (t:TypR) (es:Met) (a:Int),CT s.defs t→TB t→need s.defs t es < k→es.length + Ty.cnt s.defs es≤1000→CSpecM Tryd.prog 156 [.rp (chkC s m),.agg (encTyp t),.ob 1001 1001 (.mp .str .bool es),.fn 212 [.pt 1000 0]] [(1000,[.i .i64 a])] (.tup []) 2 (.ob 1001 1001 (.mp .str .bool (comeF s.defs k t es).2)) [(1000,[.i .i64 (orL a (comeF s.defs k t es).1)])]:=by
 intro k
 induction k with
 | zero=>intro t es a _ _ h; exact absurd h (Nat.not_lt_zero _)
 | succ k ih=>exact fun t es a h1 h2 h3 h4=>s_come1 s m hs.defs k ih t es a h1 h2 h3 h4
theorem come2 {s:SchemaR} (hs:SB s) (m:Int):∀ (k:Nat) (t:TypR) (es:Met) (a:List TypR),CT s.defs t→TB t→need s.defs t es < k→es.length + Ty.cnt s.defs es≤1000→a.length + tyN t + restN s.defs es≤100000→CSpecM Tryd.prog 156 [.rp (chkC s m),.agg (encTyp t),.ob 1001 1001 (.mp .str .bool es),.fn 157 [.pt 1000 0]] [(1000,[.vec 1002 .typ a])] (.tup []) 2 (.ob 1001 1001 (.mp .str .bool (comeF s.defs k t es).2)) [(1000,[.vec 1002 .typ (appL a (comeF s.defs k t es).1)])]:=by
 intro k
 induction k with
 | zero=>intro t es a _ _ h; exact absurd h (Nat.not_lt_zero _)
 | succ k ih=>exact fun t es a h1 h2 h3 h4 h5=>s_come2 s m hs.defs k ih t es a h1 h2 h3 h4 h5
theorem w_circle (s:SchemaR) (hs:SB s) (m:Int) (d:DefR) (h1:CT s.defs d.t) (h2:TB d.t):vc Tryd.prog Γ 16 [0,3,4,5] (Tryd.f98.body.getD .skip) (postK Γ [.tmp 4] (fun v=>v = .b (met (comeA s.defs d.t).2 d.name))) ⟨argSlots 0 [.rp (chkC s m),.agg (enc .dfn d)],[]⟩:=by
 have hC:=come0 hs m (need s.defs d.t [] + 1) d.t [] h1 h2 (Nat.lt_succ_self _) (by have:=hs.many; rw [cnt_all]; show 0 + _≤_; omega)
 (repeat' (first | (refine And.intro (fun h=>?_) (fun h=>?_)<;>(try simp [-List.getD_eq_getElem?_getD,-Int.pred_toNat] at h)<;>(try (exfalso; first | omega | contradiction))) | (refine And.intro (rng64 (by omega) (by omega)) ?_) | (refine And.intro ⟨by omega,by omega⟩ ?_) | (refine And.intro ⟨by omega,by omega,by omega⟩ ?_) | (intro _)))
 refine Or.inr (Or.inr (Or.inr (Or.inr (Or.inr (Exists.intro [] (Exists.intro _ (Exists.intro _ (Exists.intro _ (Exists.intro _ (Exists.intro _ (Exists.intro _ (Exists.intro _ (Exists.intro [(1001,6)] (Exists.intro [5] (And.intro (hC) ?_)))))))))))))))
 refine (And.intro rfl (And.intro rfl (And.intro rfl (And.intro rfl (And.intro rfl (And.intro (And.intro rfl trivial) ?_))))))
 (repeat' (first | (refine And.intro (fun h=>?_) (fun h=>?_)<;>(try simp [-List.getD_eq_getElem?_getD,-Int.pred_toNat] at h)<;>(try (exfalso; first | omega | contradiction))) | (refine And.intro (rng64 (by omega) (by omega)) ?_) | (refine And.intro ⟨by omega,by omega⟩ ?_) | (refine And.intro ⟨by omega,by omega,by omega⟩ ?_) | (intro _)))
 rfl
theorem s_circle (s:SchemaR) (hs:SB s) (m:Int) (d:DefR) (h1:CT s.defs d.t) (h2:TB d.t):PSpec Tryd.prog 98 [.rp (chkC s m),.agg (enc .dfn d)] (.b (met (comeA s.defs d.t).2 d.name)) :=
 pspec_of_vc Γ_good Tryd.func98 rfl Tryd.call98 Tryd.results98 Tryd.ntmps98 (Nat.le_of_ble_eq_true rfl) (w_circle s hs m d h1 h2)
theorem w_told (s:SchemaR) (hs:SB s) (m:Int) (t:TypR) (h1:CT s.defs t) (h2:TB t):vc Tryd.prog Γ 12 [0,3,4,5] (Tryd.f165.body.getD .skip) (postK Γ [.tmp 4] (fun v=>v = .i .i64 (orL 0 (comeA s.defs t).1))) ⟨argSlots 0 [.rp (chkC s m),.agg (encTyp t)],[]⟩:=by
 have hC:=come1 hs m (need s.defs t [] + 1) t [] 0 h1 h2 (Nat.lt_succ_self _) (by have:=hs.many; rw [cnt_all]; show 0 + _≤_; omega)
 (repeat' (first | (refine And.intro (fun h=>?_) (fun h=>?_)<;>(try simp [-List.getD_eq_getElem?_getD,-Int.pred_toNat] at h)<;>(try (exfalso; first | omega | contradiction))) | (refine And.intro (rng64 (by omega) (by omega)) ?_) | (refine And.intro ⟨by omega,by omega⟩ ?_) | (refine And.intro ⟨by omega,by omega,by omega⟩ ?_) | (intro _)))
 refine Or.inr (Or.inr (Or.inr (Or.inr (Or.inr (Exists.intro [] (Exists.intro _ (Exists.intro _ (Exists.intro _ (Exists.intro _ (Exists.intro _ (Exists.intro _ (Exists.intro _ (Exists.intro [(1001,8),(1000,5)] (Exists.intro [] (And.intro (hC) ?_)))))))))))))))
 refine (And.intro rfl (And.intro rfl (And.intro rfl (And.intro rfl (And.intro rfl (And.intro rfl (And.intro trivial ?_)))))))
 (repeat' (first | (refine And.intro (fun h=>?_) (fun h=>?_)<;>(try simp [-List.getD_eq_getElem?_getD,-Int.pred_toNat] at h)<;>(try (exfalso; first | omega | contradiction))) | (refine And.intro (rng64 (by omega) (by omega)) ?_) | (refine And.intro ⟨by omega,by omega⟩ ?_) | (refine And.intro ⟨by omega,by omega,by omega⟩ ?_) | (intro _)))
 rfl
theorem s_told (s:SchemaR) (hs:SB s) (m:Int) (t:TypR) (h1:CT s.defs t) (h2:TB t):PSpec Tryd.prog 165 [.rp (chkC s m),.agg (encTyp t)] (.i .i64 (orL 0 (comeA s.defs t).1)) :=
 pspec_of_vc Γ_good Tryd.func165 rfl Tryd.call165 Tryd.results165 Tryd.ntmps165 (Nat.le_of_ble_eq_true rfl) (w_told s hs m t h1 h2)
theorem w_tparts (s:SchemaR) (hs:SB s) (m:Int) (t:TypR) (h1:CT s.defs t) (h2:TB t) (h3:tyN t + restN s.defs []≤100000):vc Tryd.prog Γ 12 [0,3,4,5] (Tryd.f91.body.getD .skip) (postK Γ [.tmp 4] (fun v=>v = .rd .typ (comeA s.defs t).1)) ⟨argSlots 0 [.rp (chkC s m),.agg (encTyp t)],[]⟩:=by
 have hC:=come2 hs m (need s.defs t [] + 1) t [] [] h1 h2 (Nat.lt_succ_self _) (by have:=hs.many; rw [cnt_all]; show 0 + _≤_; omega) (by show 0 + _ + _≤_; omega)
 (repeat' (first | (refine And.intro (fun h=>?_) (fun h=>?_)<;>(try simp [-List.getD_eq_getElem?_getD,-Int.pred_toNat] at h)<;>(try (exfalso; first | omega | contradiction))) | (refine And.intro (rng64 (by omega) (by omega)) ?_) | (refine And.intro ⟨by omega,by omega⟩ ?_) | (refine And.intro ⟨by omega,by omega,by omega⟩ ?_) | (intro _)))
 refine Or.inr (Or.inr (Or.inr (Or.inr (Or.inr (Exists.intro [(5,0,11,.typ)] (Exists.intro _ (Exists.intro _ (Exists.intro _ (Exists.intro _ (Exists.intro _ (Exists.intro _ (Exists.intro _ (Exists.intro [(1001,8),(1000,5),(1002,11)] (Exists.intro [] (And.intro (hC) ?_)))))))))))))))
 refine (And.intro rfl (And.intro rfl (And.intro rfl (And.intro rfl (And.intro rfl (And.intro rfl (And.intro trivial ?_)))))))
 (repeat' (first | (refine And.intro (fun h=>?_) (fun h=>?_)<;>(try simp [-List.getD_eq_getElem?_getD,-Int.pred_toNat] at h)<;>(try (exfalso; first | omega | contradiction))) | (refine And.intro (rng64 (by omega) (by omega)) ?_) | (refine And.intro ⟨by omega,by omega⟩ ?_) | (refine And.intro ⟨by omega,by omega,by omega⟩ ?_) | (intro _)))
 rw [appL_eq,List.nil_append]
 rfl
theorem s_tparts (s:SchemaR) (hs:SB s) (m:Int) (t:TypR) (h1:CT s.defs t) (h2:TB t) (h3:tyN t + restN s.defs []≤100000):PSpec Tryd.prog 91 [.rp (chkC s m),.agg (encTyp t)] (.rd .typ (comeA s.defs t).1) :=
 pspec_of_vc Γ_good Tryd.func91 rfl Tryd.call91 Tryd.results91 Tryd.ntmps91 (Nat.le_of_ble_eq_true rfl) (w_tparts s hs m t h1 h2 h3)
noncomputable def clF (l:List DefR):Int→List TypR→Int
 | _,[]=>0
 | a,x::r=>if bits .and .i64 a (orL 0 (comeA l x).1)≠0 then 13 else clF l (bits .or .i64 a (orL 0 (comeA l x).1)) r
noncomputable def clashF (l:List DefR) (t:TypR):Int:=if t.kind = 11 then clF l 0 t.t else 0
theorem w_clash (s:SchemaR) (hs:SB s) (m:Int) (t:TypR) (h1:CT s.defs t) (h2:TB t) (a:Int):vc Tryd.prog Γ 32 [0,4,6,7,9,12,14,15,16,17,25] (Tryd.f99.body.getD .skip) (postK Γ [.tmp 6] (fun v=>v = .i .i64 (clashF s.defs t))) ⟨argSlots 0 [.rp (chkC s m),.agg (encTyp t),.i .i64 a],[]⟩:=by
 unfold clashF
 by_cases c1:t.kind = 11
 rotate_left
 ·rw [if_neg c1]
  (repeat' (first | (refine And.intro (fun h=>?_) (fun h=>?_)<;>(try simp [-List.getD_eq_getElem?_getD,-Int.pred_toNat] at h)<;>(try (exfalso; first | omega | contradiction))) | (refine And.intro (rng64 (by omega) (by omega)) ?_) | (refine And.intro ⟨by omega,by omega⟩ ?_) | (refine And.intro ⟨by omega,by omega,by omega⟩ ?_) | (intro _)))
  rfl
 rw [if_pos c1]
 have hA:clF s.defs 0 t.t = clF s.defs 0 (t.t.drop 0):=rfl
 generalize clF s.defs 0 t.t = R at hA ⊢
 (repeat' (first | (refine And.intro (fun h=>?_) (fun h=>?_)<;>(try simp [-List.getD_eq_getElem?_getD,-Int.pred_toNat] at h)<;>(try (exfalso; first | omega | contradiction))) | (refine And.intro (rng64 (by omega) (by omega)) ?_) | (refine And.intro ⟨by omega,by omega⟩ ?_) | (refine And.intro ⟨by omega,by omega,by omega⟩ ?_) | (intro _)))
 refine Exists.intro [] (Exists.intro [] (Exists.intro [] (Exists.intro (Nat × Int) (Exists.intro (fun x=>x.1≤t.t.length∧R = clF s.defs x.2 (t.t.drop x.1)) (Exists.intro (fun ⟨i,b⟩=>⟨[(0,.rp (chkC s m)),(7,.i .i64 b),(14,.rd .typ t.t),(15,.i .i64 t.t.length),(16,.i .i64 i)],[]⟩) (Exists.intro (fun x=>t.t.length - x.1) (Exists.intro (0,0) (And.intro ⟨Nat.zero_le _,hA⟩ (And.intro ?_ ?_)))))))))
 ·(repeat' (first | exact trivial | exact Or.inl rfl | exact Or.inr (Or.inl ⟨rfl,_,rfl⟩) | exact Or.inr (Or.inr (Or.inr ⟨_,_,_,rfl,rfl⟩)) | refine And.intro ?_ ?_))
 rintro ⟨i,b⟩ ⟨hi,hI⟩
 dsimp only at hi hI
 refine And.intro (fun hz=>?_) (fun hz=>?_)
 ·have hi:=ltD hz
  have hg:=getI (τ:=.typ) hi
  refine And.intro ⟨by omega,by omega⟩ ?_
  rw [hg]
  have hx:=List.getElem_mem hi
  have hC:=s_told s hs m t.t[i] (h1.part _ hx) (by cases h2 with | mk _ _ _ _ _ _ h _=>exact h _ hx)
  have hll:=(by cases h2; omega:t.t.length≤2000000)
  rw [List.drop_eq_getElem_cons hi,clF] at hI
  generalize orL 0 (comeA s.defs t.t[i]).1 = q at hI hC
  (repeat' (first | (refine And.intro (fun h=>?_) (fun h=>?_)<;>(try simp [-List.getD_eq_getElem?_getD,-Int.pred_toNat] at h)<;>(try (exfalso; first | omega | contradiction))) | (refine And.intro (rng64 (by omega) (by omega)) ?_) | (refine And.intro ⟨by omega,by omega⟩ ?_) | (refine And.intro ⟨by omega,by omega,by omega⟩ ?_) | (intro _)))
  refine Or.inl (Exists.intro _ (And.intro (hC) ?_))
  (repeat' (first | (refine And.intro (fun h=>?_) (fun h=>?_)<;>(try simp [-List.getD_eq_getElem?_getD,-Int.pred_toNat] at h)<;>(try (exfalso; first | omega | contradiction))) | (refine And.intro (rng64 (by omega) (by omega)) ?_) | (refine And.intro ⟨by omega,by omega⟩ ?_) | (refine And.intro ⟨by omega,by omega,by omega⟩ ?_) | (intro _)))
  ·rw [if_pos (by assumption)] at hI
   rw [hI]
   rfl
  rw [if_neg (by simpa using ‹bits .and .i64 b q = 0›)] at hI
  (repeat' (first | (refine And.intro (fun h=>?_) (fun h=>?_)<;>(try simp [-List.getD_eq_getElem?_getD,-Int.pred_toNat] at h)<;>(try (exfalso; first | omega | contradiction))) | (refine And.intro (rng64 (by omega) (by omega)) ?_) | (refine And.intro ⟨by omega,by omega⟩ ?_) | (refine And.intro ⟨by omega,by omega,by omega⟩ ?_) | (intro _)))
  refine Or.inl (Exists.intro _ (And.intro (hC) ?_))
  (repeat' (first | (refine And.intro (fun h=>?_) (fun h=>?_)<;>(try simp [-List.getD_eq_getElem?_getD,-Int.pred_toNat] at h)<;>(try (exfalso; first | omega | contradiction))) | (refine And.intro (rng64 (by omega) (by omega)) ?_) | (refine And.intro ⟨by omega,by omega⟩ ?_) | (refine And.intro ⟨by omega,by omega,by omega⟩ ?_) | (intro _)))
  refine Exists.intro [] (Exists.intro (i + 1,bits .or .i64 b q) (And.intro ⟨hi,hI⟩ (And.intro ?_ ?_)))
  ·(repeat' (first | exact trivial | exact Or.inl rfl | exact Or.inr (Or.inl ⟨rfl,_,rfl⟩) | exact Or.inr (Or.inr (Or.inr ⟨_,_,_,rfl,rfl⟩)) | refine And.intro ?_ ?_))
  ·(exact Nat.sub_lt_sub_left (by omega) (by omega))
 ·(have hi:=geD hi hz)
  rw [List.drop_eq_nil_of_le (by omega)] at hI
  rw [hI]
  rfl
theorem s_clash (s:SchemaR) (hs:SB s) (m:Int) (t:TypR) (h1:CT s.defs t) (h2:TB t) (a:Int):PSpec Tryd.prog 99 [.rp (chkC s m),.agg (encTyp t),.i .i64 a] (.i .i64 (clashF s.defs t)) :=
 pspec_of_vc Γ_good Tryd.func99 rfl Tryd.call99 Tryd.results99 Tryd.ntmps99 (Nat.le_of_ble_eq_true rfl) (w_clash s hs m t h1 h2 a)
end
end Go.Proofs.YtdcdmojbkmedpaaDoor
end
section
namespace Go.Proofs.YtdcdmojbkmedpaaDoor
open Go Go.SX Go.Ck Go.Vl Go.Ut Go.Ty
set_option maxRecDepth 100000
set_option maxHeartbeats 4000000
noncomputable def clsF (l:List DefR):List TPlace→Int
 | []=>0
 | p::r=>if clashF l p.t≠0 then clashF l p.t else clsF l r
theorem clsF_append (l:List DefR) (a b:List TPlace):clsF l (a++b) = if clsF l a≠0 then clsF l a else clsF l b:=by
 induction a with
 | nil=>exact (if_neg (fun h=>h rfl)).symm
 | cons p r ih =>
  rw [List.cons_append,clsF,clsF]
  by_cases h:clashF l p.t≠0
  ·rw [if_pos h,if_pos h,if_pos h]
  ·rw [if_neg h,if_neg h,ih]
theorem clsF_drop (l:List DefR) (f:TypR→List TPlace) {L:List TypR} {i:Nat} (h:i < L.length):clsF l ((L.drop i).flatMap f) = if clsF l (f L[i])≠0 then clsF l (f L[i]) else clsF l ((L.drop (i + 1)).flatMap f):=by
 rw [List.drop_eq_getElem_cons h,List.flatMap_cons,clsF_append]
theorem clsF_dropD (l:List DefR) (f:DefR→List TPlace) (z:List TPlace) {L:List DefR} {i:Nat} (h:i < L.length):clsF l ((L.drop i).flatMap f++z) = if clsF l (f L[i])≠0 then clsF l (f L[i]) else clsF l ((L.drop (i + 1)).flatMap f++z):=by
 rw [List.drop_eq_getElem_cons h,List.flatMap_cons,List.append_assoc,clsF_append]
def Low (l:List TPlace):Prop:=∀ p ∈ l,p.around < 20
theorem Low.part {t x:TypR} {a:Int} (h:Low (preT t a)) (hx:x ∈ Ty.inside t):Low (preT x (a + 1)):=fun p hp=>h p (by
 rw [preT_eq]
 exact List.mem_cons_of_mem _ (List.mem_flatMap.2 ⟨x,hx,hp⟩))
theorem Low.top {t:TypR} {a:Int} (h:Low (preT t a)):a < 20:=h ⟨t,a⟩ (by rw [preT_eq]; exact List.mem_cons_self ..)
theorem CT.inside {l:List DefR} {t:TypR} (h:CT l t):∀ x ∈ Ty.inside t,CT l x:=by
 cases h with
 | mk _ _ _ h1=>exact h1
section
variable [G:Globs]
theorem w_walk2 (s:SchemaR) (hs:SB s) (m:Int) (t:TypR) (h1:CT s.defs t) (h2:TB t) (a:Int) (h0:0≤a) (hL:Low (preT t a)) (ih:∀ x ∈ Ty.inside t,PSpec Tryd.prog 159 [.rp (chkC s m),.agg (encTyp x),.i .i64 (a + 1),.fn 99 [.np,.rp (chkC s m)]] (.i .i64 (clsF s.defs (preT x (a + 1))))):vc Tryd.prog Γ 37 [0,2,3,5,8,9,11,12,18,21,22,23,24,34] (Tryd.f159.body.getD .skip) (postK Γ [.tmp 8] (fun v=>v = .i .i64 (clsF s.defs (preT t a)))) ⟨argSlots 0 [.rp (chkC s m),.agg (encTyp t),.i .i64 a,.fn 99 [.np,.rp (chkC s m)]],[]⟩:=by
 have hC:=s_clash s hs m t h1 h2 a
 have hW:clsF s.defs (preT t a) = if clashF s.defs t≠0 then clashF s.defs t else clsF s.defs ((Ty.inside t).flatMap fun x=>preT x (a + 1)):=by rw [preT_eq,clsF]
 have hN:=s_inside t (by cases h2; omega) (by cases h2; omega)
 have ha:=hL.top
 have hlen:(Ty.inside t).length≤4000000:=by
  unfold Ty.inside
  rw [List.length_append,List.length_map]
  cases h2
  omega
 generalize clsF s.defs (preT t a) = R at hW ⊢
 generalize clashF s.defs t = q at hC hW
 (repeat' (first | (refine And.intro (fun h=>?_) (fun h=>?_)<;>(try simp [-List.getD_eq_getElem?_getD,-Int.pred_toNat] at h)<;>(try (exfalso; first | omega | contradiction))) | (refine And.intro (rng64 (by omega) (by omega)) ?_) | (refine And.intro ⟨by omega,by omega⟩ ?_) | (refine And.intro ⟨by omega,by omega,by omega⟩ ?_) | (intro _)))
 refine Or.inl (Exists.intro _ (And.intro (hC) ?_))
 by_cases c1:q = 0
 rotate_left
 ·rw [if_pos c1] at hW
  rw [hW]
  (repeat' (first | (refine And.intro (fun h=>?_) (fun h=>?_)<;>(try simp [-List.getD_eq_getElem?_getD,-Int.pred_toNat] at h)<;>(try (exfalso; first | omega | contradiction))) | (refine And.intro (rng64 (by omega) (by omega)) ?_) | (refine And.intro ⟨by omega,by omega⟩ ?_) | (refine And.intro ⟨by omega,by omega,by omega⟩ ?_) | (intro _)))
  rfl
 rw [if_neg (fun h=>h c1)] at hW
 rw [c1]
 (repeat' (first | (refine And.intro (fun h=>?_) (fun h=>?_)<;>(try simp [-List.getD_eq_getElem?_getD,-Int.pred_toNat] at h)<;>(try (exfalso; first | omega | contradiction))) | (refine And.intro (rng64 (by omega) (by omega)) ?_) | (refine And.intro ⟨by omega,by omega⟩ ?_) | (refine And.intro ⟨by omega,by omega,by omega⟩ ?_) | (intro _)))
 refine Or.inr (Or.inl (Exists.intro [] (Exists.intro _ (Exists.intro _ (Exists.intro _ (Exists.intro _ (Exists.intro _ (Exists.intro [(1000,21)] (And.intro (hN) ?_)))))))))
 refine (And.intro rfl (And.intro rfl (And.intro rfl (And.intro rfl ?_))))
 (repeat' (first | (refine And.intro (fun h=>?_) (fun h=>?_)<;>(try simp [-List.getD_eq_getElem?_getD,-Int.pred_toNat] at h)<;>(try (exfalso; first | omega | contradiction))) | (refine And.intro (rng64 (by omega) (by omega)) ?_) | (refine And.intro ⟨by omega,by omega⟩ ?_) | (refine And.intro ⟨by omega,by omega,by omega⟩ ?_) | (intro _)))
 refine Exists.intro [] (Exists.intro [] (Exists.intro [(999,21)] (Exists.intro Nat (Exists.intro (fun i=>i≤(Ty.inside t).length∧R = clsF s.defs (((Ty.inside t).drop i).flatMap fun y=>preT y (a + 1))) (Exists.intro (fun i=>⟨[(0,.rp (chkC s m)),(2,.i .i64 a),(3,.fn 99 [.np,.rp (chkC s m)]),(21,.rd .typ (Ty.inside t)),(22,.i .i64 (Ty.inside t).length),(23,.i .i64 i)],[]⟩) (Exists.intro (fun i=>(Ty.inside t).length - i) (Exists.intro 0 (And.intro ⟨Nat.zero_le _,hW⟩ (And.intro ?_ ?_)))))))))
 ·(repeat' (first | exact trivial | exact Or.inl rfl | exact Or.inr (Or.inl ⟨rfl,_,rfl⟩) | exact Or.inr (Or.inr (Or.inr ⟨_,_,_,rfl,rfl⟩)) | refine And.intro ?_ ?_))
 rintro i ⟨hi,hI⟩
 refine And.intro (fun hz=>?_) (fun hz=>?_)
 ·have hi:=ltD hz
  have hg:=getI (τ:=.typ) hi
  refine And.intro ⟨by omega,by omega⟩ ?_
  rw [hg]
  have hC:=ih (Ty.inside t)[i] (List.getElem_mem hi)
  rw [clsF_drop s.defs _ hi] at hI
  generalize clsF s.defs (preT (Ty.inside t)[i] (a + 1)) = q at hI hC
  (repeat' (first | (refine And.intro (fun h=>?_) (fun h=>?_)<;>(try simp [-List.getD_eq_getElem?_getD,-Int.pred_toNat] at h)<;>(try (exfalso; first | omega | contradiction))) | (refine And.intro (rng64 (by omega) (by omega)) ?_) | (refine And.intro ⟨by omega,by omega⟩ ?_) | (refine And.intro ⟨by omega,by omega,by omega⟩ ?_) | (intro _)))
  refine Or.inl (Exists.intro _ (And.intro (hC) ?_))
  by_cases k1:q = 0
  rotate_left
  ·rw [if_pos k1] at hI
   rw [hI]
   (repeat' (first | (refine And.intro (fun h=>?_) (fun h=>?_)<;>(try simp [-List.getD_eq_getElem?_getD,-Int.pred_toNat] at h)<;>(try (exfalso; first | omega | contradiction))) | (refine And.intro (rng64 (by omega) (by omega)) ?_) | (refine And.intro ⟨by omega,by omega⟩ ?_) | (refine And.intro ⟨by omega,by omega,by omega⟩ ?_) | (intro _)))
   rfl
  ·rw [if_neg (fun h=>h k1)] at hI
   rw [k1]
   (repeat' (first | (refine And.intro (fun h=>?_) (fun h=>?_)<;>(try simp [-List.getD_eq_getElem?_getD,-Int.pred_toNat] at h)<;>(try (exfalso; first | omega | contradiction))) | (refine And.intro (rng64 (by omega) (by omega)) ?_) | (refine And.intro ⟨by omega,by omega⟩ ?_) | (refine And.intro ⟨by omega,by omega,by omega⟩ ?_) | (intro _)))
   refine Exists.intro [] (Exists.intro (i + 1) (And.intro ⟨hi,hI⟩ (And.intro ?_ ?_)))
   ·(repeat' (first | exact trivial | exact Or.inl rfl | exact Or.inr (Or.inl ⟨rfl,_,rfl⟩) | exact Or.inr (Or.inr (Or.inr ⟨_,_,_,rfl,rfl⟩)) | refine And.intro ?_ ?_))
   ·(exact Nat.sub_lt_sub_left (by omega) (by omega))
 ·(have hi:=geD hi hz)
  rw [hI,List.drop_eq_nil_of_le (by omega)]
  rfl
theorem s_walk2 (s:SchemaR) (hs:SB s) (m:Int) (t:TypR) (h1:CT s.defs t) (h2:TB t) (a:Int) (h0:0≤a) (hL:Low (preT t a)) (ih:∀ x ∈ Ty.inside t,PSpec Tryd.prog 159 [.rp (chkC s m),.agg (encTyp x),.i .i64 (a + 1),.fn 99 [.np,.rp (chkC s m)]] (.i .i64 (clsF s.defs (preT x (a + 1))))):PSpec Tryd.prog 159 [.rp (chkC s m),.agg (encTyp t),.i .i64 a,.fn 99 [.np,.rp (chkC s m)]] (.i .i64 (clsF s.defs (preT t a))) :=
 pspec_of_vc Γ_good Tryd.func159 rfl Tryd.call159 Tryd.results159 Tryd.ntmps159 (Nat.le_of_ble_eq_true rfl) (w_walk2 s hs m t h1 h2 a h0 hL ih)
theorem walk2 {s:SchemaR} (hs:SB s) (m:Int):∀ (k:Nat) (t:TypR),SizeOf.sizeOf t < k→CT s.defs t→TB t→∀ a:Int,0≤a→Low (preT t a)→PSpec Tryd.prog 159 [.rp (chkC s m),.agg (encTyp t),.i .i64 a,.fn 99 [.np,.rp (chkC s m)]] (.i .i64 (clsF s.defs (preT t a))):=by
 intro k
 induction k with
 | zero=>intro t h; exact absurd h (Nat.not_lt_zero _)
 | succ k ih =>
  intro t h h1 h2 a h0 hL
  exact s_walk2 s hs m t h1 h2 a h0 hL fun x hx=>ih x (by have:=size_in hx; omega) (CT.inside h1 x hx) (h2.inside x hx) (a + 1) (by omega) (hL.part hx)
theorem w_all2 (s:SchemaR) (hs:SB s) (m:Int) (hL:Low (allP s)):vc Tryd.prog Γ 35 [0,1,4,6,7,12,13,14,15,24] (Tryd.f96.body.getD .skip) (postK Γ [.tmp 4] (fun v=>v = .i .i64 (clsF s.defs (allP s)))) ⟨argSlots 0 [.rp (chkC s m),.fn 99 [.np,.rp (chkC s m)]],[]⟩:=by
 have hA:clsF s.defs (allP s) = clsF s.defs ((s.defs.drop 0).flatMap (fun d=>preT d.t 0)++preT s.root 0):=rfl
 have hn:=hs.many
 generalize clsF s.defs (allP s) = R at hA ⊢
 (repeat' (first | (refine And.intro (fun h=>?_) (fun h=>?_)<;>(try simp [-List.getD_eq_getElem?_getD,-Int.pred_toNat] at h)<;>(try (exfalso; first | omega | contradiction))) | (refine And.intro (rng64 (by omega) (by omega)) ?_) | (refine And.intro ⟨by omega,by omega⟩ ?_) | (refine And.intro ⟨by omega,by omega,by omega⟩ ?_) | (intro _)))
 refine Exists.intro [] (Exists.intro [] (Exists.intro [] (Exists.intro Nat (Exists.intro (fun i=>i≤(s.defs).length∧(R = clsF s.defs ((s.defs.drop i).flatMap (fun d=>preT d.t 0)++preT s.root 0))) (Exists.intro (fun i=>⟨[(0,.rp (chkC s m)),(1,.fn 99 [.np,.rp (chkC s m)]),(12,.rd .dfn s.defs),(13,.i .i64 s.defs.length),(14,.i .i64 i)],[]⟩) (Exists.intro (fun i=>(s.defs).length - i) (Exists.intro 0 (And.intro ⟨Nat.zero_le _,hA⟩ (And.intro ?_ ?_)))))))))
 ·(repeat' (first | exact trivial | exact Or.inl rfl | exact Or.inr (Or.inl ⟨rfl,_,rfl⟩) | exact Or.inr (Or.inr (Or.inr ⟨_,_,_,rfl,rfl⟩)) | refine And.intro ?_ ?_))
 rintro i ⟨hi,hI⟩
 refine And.intro (fun hz=>?_) (fun hz=>?_)
 ·have hi:=ltD hz
  have hg:=getI (τ:=.dfn) hi
  refine And.intro ⟨by omega,by omega⟩ ?_
  rw [hg]
  have hd:=List.getElem_mem hi
  have hC:=walk2 hs m _ s.defs[i].t (Nat.lt_succ_self _) (hs.defs _ hd).1 (hs.defs _ hd).2 0 (by decide) (fun p hp=>hL p (List.mem_append_left _ (List.mem_flatMap.2 ⟨_,hd,hp⟩)))
  rw [clsF_dropD s.defs _ _ hi] at hI
  generalize clsF s.defs (preT s.defs[i].t 0) = q at hI hC
  (repeat' (first | (refine And.intro (fun h=>?_) (fun h=>?_)<;>(try simp [-List.getD_eq_getElem?_getD,-Int.pred_toNat] at h)<;>(try (exfalso; first | omega | contradiction))) | (refine And.intro (rng64 (by omega) (by omega)) ?_) | (refine And.intro ⟨by omega,by omega⟩ ?_) | (refine And.intro ⟨by omega,by omega,by omega⟩ ?_) | (intro _)))
  refine Or.inl (Exists.intro _ (And.intro (hC) ?_))
  by_cases k1:q = 0
  rotate_left
  ·rw [if_pos k1] at hI
   rw [hI]
   (repeat' (first | (refine And.intro (fun h=>?_) (fun h=>?_)<;>(try simp [-List.getD_eq_getElem?_getD,-Int.pred_toNat] at h)<;>(try (exfalso; first | omega | contradiction))) | (refine And.intro (rng64 (by omega) (by omega)) ?_) | (refine And.intro ⟨by omega,by omega⟩ ?_) | (refine And.intro ⟨by omega,by omega,by omega⟩ ?_) | (intro _)))
   rfl
  ·rw [if_neg (fun h=>h k1)] at hI
   rw [k1]
   (repeat' (first | (refine And.intro (fun h=>?_) (fun h=>?_)<;>(try simp [-List.getD_eq_getElem?_getD,-Int.pred_toNat] at h)<;>(try (exfalso; first | omega | contradiction))) | (refine And.intro (rng64 (by omega) (by omega)) ?_) | (refine And.intro ⟨by omega,by omega⟩ ?_) | (refine And.intro ⟨by omega,by omega,by omega⟩ ?_) | (intro _)))
   refine Exists.intro [] (Exists.intro (i + 1) (And.intro ⟨hi,hI⟩ (And.intro ?_ ?_)))
   ·(repeat' (first | exact trivial | exact Or.inl rfl | exact Or.inr (Or.inl ⟨rfl,_,rfl⟩) | exact Or.inr (Or.inr (Or.inr ⟨_,_,_,rfl,rfl⟩)) | refine And.intro ?_ ?_))
   ·(exact Nat.sub_lt_sub_left (by omega) (by omega))
 ·(have hi:=geD hi hz)
  rw [List.drop_eq_nil_of_le (by omega)] at hI
  have hI:R = clsF s.defs (preT s.root 0):=hI
  have hC:=walk2 hs m _ s.root (Nat.lt_succ_self _) hs.root.1 hs.root.2 0 (by decide) (fun p hp=>hL p (List.mem_append_right _ hp))
  rw [← hI] at hC
  (repeat' (first | (refine And.intro (fun h=>?_) (fun h=>?_)<;>(try simp [-List.getD_eq_getElem?_getD,-Int.pred_toNat] at h)<;>(try (exfalso; first | omega | contradiction))) | (refine And.intro (rng64 (by omega) (by omega)) ?_) | (refine And.intro ⟨by omega,by omega⟩ ?_) | (refine And.intro ⟨by omega,by omega,by omega⟩ ?_) | (intro _)))
  refine Or.inl (Exists.intro _ (And.intro (hC) ?_))
  rfl
theorem s_all2 (s:SchemaR) (hs:SB s) (m:Int) (hL:Low (allP s)):PSpec Tryd.prog 96 [.rp (chkC s m),.fn 99 [.np,.rp (chkC s m)]] (.i .i64 (clsF s.defs (allP s))) :=
 pspec_of_vc Γ_good Tryd.func96 rfl Tryd.call96 Tryd.results96 Tryd.ntmps96 (Nat.le_of_ble_eq_true rfl) (w_all2 s hs m hL)
end
end Go.Proofs.YtdcdmojbkmedpaaDoor
end
section
namespace Go.Proofs.YtdcdmojbkmedpaaDoor
open Go Go.SX Go.Ck Go.Vl Go.Ut Go.Ty
set_option maxRecDepth 100000
set_option maxHeartbeats 4000000
theorem scan_zero {l:List DefR}:∀ (ps:List TPlace) (m:Int),m≤200→(scan l ps m).1 = 0→(∀ p ∈ ps,typeF l p.t = 0∧p.around < 20)∧m + ps.length≤200:=by
 intro ps
 induction ps with
 | nil=>intro m h _; exact ⟨fun _ h=>(nomatch h),by show m + 0≤200; omega⟩
 | cons p r ih =>
  intro m hm h
  rw [scan] at h
  by_cases c:lookF l p m≠0
  ·rw [if_pos c] at h
   exact absurd h c
  ·rw [if_neg c] at h
   have c:lookF l p m = 0:=by omega
   unfold lookF at c
   split at c
   ·cases c
   ·split at c
    ·cases c
    ·rename_i h1 h2
     obtain ⟨g1,g2⟩:=ih (m + 1) (by omega) h
     refine ⟨fun q hq=>?_,by rw [List.length_cons]; omega⟩
     rcases List.mem_cons.1 hq with rfl | hq
     ·exact ⟨c,by omega⟩
     ·exact g1 q hq
theorem ct_of {l:List DefR}:∀ (k:Nat) (t:TypR),SizeOf.sizeOf t < k→∀ a,(∀ p ∈ preT t a,typeF l p.t = 0)→CT l t:=by
 intro k
 induction k with
 | zero=>intro t h; exact absurd h (Nat.not_lt_zero _)
 | succ k ih =>
  intro t h a hp
  have h0:typeF l t = 0:=hp ⟨t,a⟩ (by rw [preT_eq]; exact List.mem_cons_self ..)
  unfold typeF at h0
  split at h0
  ·cases h0
  rename_i c1
  have c1:okKind t:=Decidable.not_not.1 c1
  refine CT.mk t c1.1 (fun hk=>?_) fun x hx=>ih x (by have:=size_inside hx; omega) (a + 1) fun p h2=>hp p (by rw [preT_eq]; exact List.mem_cons_of_mem _ (List.mem_flatMap.2 ⟨x,hx,h2⟩))
  split at h0
  ·cases h0
  rw [if_neg (show ¬ t.kind = 7 by omega),if_neg (show ¬ t.kind = 10 by omega)] at h0
  split at h0
  ·cases h0
  ·omega
theorem allP_len (s:SchemaR):(allP s).length = restN s.defs [] + tyN s.root:=by
 unfold allP restN tyN
 rw [List.length_append,List.length_flatMap,rest_all]
theorem sb_of {s:SchemaR} (hd:∀ d ∈ s.defs,TB d.t) (hr:TB s.root) (hl:s.defs.length≤1000) (h:(scan s.defs (allP s) 0).1 = 0):SB s∧Low (allP s):=by
 obtain ⟨h1,h2⟩:=scan_zero (allP s) 0 (by decide) h
 refine ⟨⟨fun d h3=>⟨ct_of _ d.t (Nat.lt_succ_self _) 0 fun p hp=>(h1 p (List.mem_append_left _ (List.mem_flatMap.2 ⟨d,h3,hp⟩))).1,hd d h3⟩,⟨ct_of _ s.root (Nat.lt_succ_self _) 0 fun p hp=>(h1 p (List.mem_append_right _ hp)).1,hr⟩,hl,?_⟩,fun p hp=>(h1 p hp).2⟩
 have:=allP_len s
 omega
noncomputable def cirF (l:List DefR) (d:DefR):Bool:=met (comeA l d.t).2 d.name
noncomputable def checkS (s:SchemaR):Int :=
 if 50 < s.defs.length then 2 else orI (nmsF none (s.defs.map (·.name))) (orI (scan s.defs (allP s) 0).1 (if s.defs.any (cirF s.defs) = true then 11 else clsF s.defs (allP s)))
section
variable [G:Globs]
theorem w_tcheck (hu:HasU8) (s:SchemaR) (hd:∀ d ∈ s.defs,TB d.t) (hr:TB s.root):vc Tryd.prog Γ 45 [1,2,3,4,5,7,10,14,21,28,31,32,33,34,39] (Tryd.f36.body.getD .skip) (postK Γ [.tmp 2] (fun v=>v = .i .i64 (checkS s))) ⟨argSlots 0 [.agg (encSch s)],[]⟩:=by
 by_cases c1:50 < s.defs.length
 ·have hR:checkS s = 2:=if_pos c1
  rw [hR]
  (repeat' (first | (refine And.intro (fun h=>?_) (fun h=>?_)<;>(try simp [-List.getD_eq_getElem?_getD,-Int.pred_toNat] at h)<;>(try (exfalso; first | omega | contradiction))) | (refine And.intro (rng64 (by omega) (by omega)) ?_) | (refine And.intro ⟨by omega,by omega⟩ ?_) | (refine And.intro ⟨by omega,by omega,by omega⟩ ?_) | (intro _)))
  rfl
 have hR:checkS s = orI (nmsF none (s.defs.map (·.name))) (orI (scan s.defs (allP s) 0).1 (if s.defs.any (cirF s.defs) = true then 11 else clsF s.defs (allP s))):=if_neg c1
 generalize checkS s = R at hR ⊢
 have hN:=s_names1 hu (s.defs.map (·.name)) 95 (encSch s) (fun k hk=>by
  rw [List.length_map] at hk
  have h9:=s_check1 s k hk
  have e:(s.defs.map (·.name)).getD k [] = (s.defs.getD k (dflt .dfn)).name:=by
   rw [List.getD_eq_getElem?_getD,List.getD_eq_getElem?_getD,List.getElem?_map,List.getElem?_eq_getElem hk]
   rfl
  rw [e]
  exact h9) (by rw [List.length_map]; omega)
 rw [List.length_map] at hN
 have hA:=s_all1 hu s hd hr (by omega) 0 (by decide) (by decide)
 have hS:=scan_le s.defs (allP s) 0 (by decide) (by decide)
 generalize nmsF none (s.defs.map (·.name)) = n at hN hR
 (repeat' (first | (refine And.intro (fun h=>?_) (fun h=>?_)<;>(try simp [-List.getD_eq_getElem?_getD,-Int.pred_toNat] at h)<;>(try (exfalso; first | omega | contradiction))) | (refine And.intro (rng64 (by omega) (by omega)) ?_) | (refine And.intro ⟨by omega,by omega⟩ ?_) | (refine And.intro ⟨by omega,by omega,by omega⟩ ?_) | (intro _)))
 refine Or.inr (Or.inr (Or.inr (Or.inl (Exists.intro [1] (Exists.intro _ (And.intro (hN) ?_))))))
 by_cases c2:n = 0
 rotate_left
 ·rw [orI_ne c2] at hR
  rw [hR]
  (repeat' (first | (refine And.intro (fun h=>?_) (fun h=>?_)<;>(try simp [-List.getD_eq_getElem?_getD,-Int.pred_toNat] at h)<;>(try (exfalso; first | omega | contradiction))) | (refine And.intro (rng64 (by omega) (by omega)) ?_) | (refine And.intro ⟨by omega,by omega⟩ ?_) | (refine And.intro ⟨by omega,by omega,by omega⟩ ?_) | (intro _)))
  rfl
 rw [c2,orI_zero] at hR
 rw [c2]
 (repeat' (first | (refine And.intro (fun h=>?_) (fun h=>?_)<;>(try simp [-List.getD_eq_getElem?_getD,-Int.pred_toNat] at h)<;>(try (exfalso; first | omega | contradiction))) | (refine And.intro (rng64 (by omega) (by omega)) ?_) | (refine And.intro ⟨by omega,by omega⟩ ?_) | (refine And.intro ⟨by omega,by omega,by omega⟩ ?_) | (intro _)))
 refine Or.inr (Or.inl (Exists.intro [] (Exists.intro _ (Exists.intro _ (Exists.intro _ (Exists.intro _ (Exists.intro _ (Exists.intro [(1000,10)] (And.intro (hA) ?_)))))))))
 refine (And.intro rfl (And.intro rfl (And.intro rfl (And.intro rfl (And.intro rfl ?_)))))
 by_cases c3:(scan s.defs (allP s) 0).1 = 0
 rotate_left
 ·rw [orI_ne c3] at hR
  rw [hR]
  (repeat' (first | (refine And.intro (fun h=>?_) (fun h=>?_)<;>(try simp [-List.getD_eq_getElem?_getD,-Int.pred_toNat] at h)<;>(try (exfalso; first | omega | contradiction))) | (refine And.intro (rng64 (by omega) (by omega)) ?_) | (refine And.intro ⟨by omega,by omega⟩ ?_) | (refine And.intro ⟨by omega,by omega,by omega⟩ ?_) | (intro _)))
  rfl
 rw [c3,orI_zero] at hR
 obtain ⟨hB,hL⟩:=sb_of hd hr (by omega) c3
 rw [c3]
 generalize (scan s.defs (allP s) 0).2 = m at hS
 (repeat' (first | (refine And.intro (fun h=>?_) (fun h=>?_)<;>(try simp [-List.getD_eq_getElem?_getD,-Int.pred_toNat] at h)<;>(try (exfalso; first | omega | contradiction))) | (refine And.intro (rng64 (by omega) (by omega)) ?_) | (refine And.intro ⟨by omega,by omega⟩ ?_) | (refine And.intro ⟨by omega,by omega,by omega⟩ ?_) | (intro _)))
 refine Exists.intro [] (Exists.intro [] (Exists.intro [] (Exists.intro Nat (Exists.intro (fun i=>i≤s.defs.length∧s.defs.any (cirF s.defs) = (s.defs.drop i).any (cirF s.defs)) (Exists.intro (fun | 0=>⟨[(3,.pt 10 0),(31,.rd .dfn s.defs),(32,.i .i64 s.defs.length),(33,.i .i64 ((0:Nat):Int))],[(10,chkC s m)]⟩ | (j + 1)=>⟨[(3,.rp (chkC s m)),(31,.rd .dfn s.defs),(32,.i .i64 s.defs.length),(33,.i .i64 ((j + 1:Nat):Int))],[]⟩) (Exists.intro (fun i=>s.defs.length - i) (Exists.intro 0 (And.intro ⟨Nat.zero_le _,rfl⟩ (And.intro ?_ ?_)))))))))
 ·(repeat' (first | exact trivial | exact Or.inl rfl | exact Or.inr (Or.inl ⟨rfl,_,rfl⟩) | exact Or.inr (Or.inr (Or.inr ⟨_,_,_,rfl,rfl⟩)) | refine And.intro ?_ ?_))
 rintro i ⟨hi,hI⟩
 cases i with
 | zero =>
  refine And.intro (fun hz=>?_) (fun hz=>?_)
  ·have hi:=ltD hz
   have hg:=getI (τ:=.dfn) hi
   refine And.intro ⟨by omega,by omega⟩ ?_
   rw [hg]
   have hx:=List.getElem_mem hi
   have hC:PSpec Tryd.prog 98 [.rp (chkC s m),.agg (enc .dfn s.defs[0])] (.b (cirF s.defs s.defs[0])):=s_circle s hB m s.defs[0] (hB.defs _ hx).1 (hB.defs _ hx).2
   rw [List.drop_eq_getElem_cons hi,List.any_cons] at hI
   generalize cirF s.defs s.defs[0] = q at hI hC
   (repeat' (first | (refine And.intro (fun h=>?_) (fun h=>?_)<;>(try simp [-List.getD_eq_getElem?_getD,-Int.pred_toNat] at h)<;>(try (exfalso; first | omega | contradiction))) | (refine And.intro (rng64 (by omega) (by omega)) ?_) | (refine And.intro ⟨by omega,by omega⟩ ?_) | (refine And.intro ⟨by omega,by omega,by omega⟩ ?_) | (intro _)))
   refine Or.inr (Or.inr (Or.inr (Or.inl (Exists.intro [10] (Exists.intro _ (And.intro (hC) ?_))))))
   cases q with
   | true =>
    rw [hI,Bool.true_or,if_pos rfl] at hR
    rw [hR]
    (repeat' (first | (refine And.intro (fun h=>?_) (fun h=>?_)<;>(try simp [-List.getD_eq_getElem?_getD,-Int.pred_toNat] at h)<;>(try (exfalso; first | omega | contradiction))) | (refine And.intro (rng64 (by omega) (by omega)) ?_) | (refine And.intro ⟨by omega,by omega⟩ ?_) | (refine And.intro ⟨by omega,by omega,by omega⟩ ?_) | (intro _)))
    rfl
   | false =>
    rw [Bool.false_or] at hI
    (repeat' (first | (refine And.intro (fun h=>?_) (fun h=>?_)<;>(try simp [-List.getD_eq_getElem?_getD,-Int.pred_toNat] at h)<;>(try (exfalso; first | omega | contradiction))) | (refine And.intro (rng64 (by omega) (by omega)) ?_) | (refine And.intro ⟨by omega,by omega⟩ ?_) | (refine And.intro ⟨by omega,by omega,by omega⟩ ?_) | (intro _)))
    refine Exists.intro [] (Exists.intro (0 + 1) (And.intro ⟨hi,hI⟩ (And.intro ?_ ?_)))
    ·(repeat' (first | exact trivial | exact Or.inl rfl | exact Or.inr (Or.inl ⟨rfl,_,rfl⟩) | exact Or.inr (Or.inr (Or.inr ⟨_,_,_,rfl,rfl⟩)) | refine And.intro ?_ ?_))
    ·(exact Nat.sub_lt_sub_left (by omega) (by omega))
  ·(have hi:=geD hi hz)
   rw [List.drop_eq_nil_of_le (by omega)] at hI
   rw [hI,if_neg (by intro h; cases h)] at hR
   have hC:=s_all2 s hB m hL
   rw [← hR] at hC
   (repeat' (first | (refine And.intro (fun h=>?_) (fun h=>?_)<;>(try simp [-List.getD_eq_getElem?_getD,-Int.pred_toNat] at h)<;>(try (exfalso; first | omega | contradiction))) | (refine And.intro (rng64 (by omega) (by omega)) ?_) | (refine And.intro ⟨by omega,by omega⟩ ?_) | (refine And.intro ⟨by omega,by omega,by omega⟩ ?_) | (intro _)))
   refine Or.inr (Or.inr (Or.inr (Or.inl (Exists.intro [10] (Exists.intro _ (And.intro (hC) ?_))))))
   rfl
 | succ j =>
  refine And.intro (fun hz=>?_) (fun hz=>?_)
  ·have hi:=ltD hz
   have hg:=getI (τ:=.dfn) hi
   refine And.intro ⟨by omega,by omega⟩ ?_
   rw [hg]
   have hx:=List.getElem_mem hi
   have hC:PSpec Tryd.prog 98 [.rp (chkC s m),.agg (enc .dfn s.defs[j + 1])] (.b (cirF s.defs s.defs[j + 1])):=s_circle s hB m s.defs[j + 1] (hB.defs _ hx).1 (hB.defs _ hx).2
   rw [List.drop_eq_getElem_cons hi,List.any_cons] at hI
   generalize cirF s.defs s.defs[j + 1] = q at hI hC
   (repeat' (first | (refine And.intro (fun h=>?_) (fun h=>?_)<;>(try simp [-List.getD_eq_getElem?_getD,-Int.pred_toNat] at h)<;>(try (exfalso; first | omega | contradiction))) | (refine And.intro (rng64 (by omega) (by omega)) ?_) | (refine And.intro ⟨by omega,by omega⟩ ?_) | (refine And.intro ⟨by omega,by omega,by omega⟩ ?_) | (intro _)))
   refine Or.inl (Exists.intro _ (And.intro (hC) ?_))
   cases q with
   | true =>
    rw [hI,Bool.true_or,if_pos rfl] at hR
    rw [hR]
    (repeat' (first | (refine And.intro (fun h=>?_) (fun h=>?_)<;>(try simp [-List.getD_eq_getElem?_getD,-Int.pred_toNat] at h)<;>(try (exfalso; first | omega | contradiction))) | (refine And.intro (rng64 (by omega) (by omega)) ?_) | (refine And.intro ⟨by omega,by omega⟩ ?_) | (refine And.intro ⟨by omega,by omega,by omega⟩ ?_) | (intro _)))
    rfl
   | false =>
    rw [Bool.false_or] at hI
    (repeat' (first | (refine And.intro (fun h=>?_) (fun h=>?_)<;>(try simp [-List.getD_eq_getElem?_getD,-Int.pred_toNat] at h)<;>(try (exfalso; first | omega | contradiction))) | (refine And.intro (rng64 (by omega) (by omega)) ?_) | (refine And.intro ⟨by omega,by omega⟩ ?_) | (refine And.intro ⟨by omega,by omega,by omega⟩ ?_) | (intro _)))
    refine Exists.intro [] (Exists.intro (j + 1 + 1) (And.intro ⟨hi,hI⟩ (And.intro ?_ ?_)))
    ·(repeat' (first | exact trivial | exact Or.inl rfl | exact Or.inr (Or.inl ⟨rfl,_,rfl⟩) | exact Or.inr (Or.inr (Or.inr ⟨_,_,_,rfl,rfl⟩)) | refine And.intro ?_ ?_))
    ·(exact Nat.sub_lt_sub_left (by omega) (by omega))
  ·(have hi:=geD hi hz)
   rw [List.drop_eq_nil_of_le (by omega)] at hI
   rw [hI,if_neg (by intro h; cases h)] at hR
   have hC:=s_all2 s hB m hL
   rw [← hR] at hC
   (repeat' (first | (refine And.intro (fun h=>?_) (fun h=>?_)<;>(try simp [-List.getD_eq_getElem?_getD,-Int.pred_toNat] at h)<;>(try (exfalso; first | omega | contradiction))) | (refine And.intro (rng64 (by omega) (by omega)) ?_) | (refine And.intro ⟨by omega,by omega⟩ ?_) | (refine And.intro ⟨by omega,by omega,by omega⟩ ?_) | (intro _)))
   refine Or.inl (Exists.intro _ (And.intro (hC) ?_))
   rfl
theorem s_tcheck (hu:HasU8) (s:SchemaR) (hd:∀ d ∈ s.defs,TB d.t) (hr:TB s.root):PSpec Tryd.prog 36 [.agg (encSch s)] (.i .i64 (checkS s)) :=
 pspec_of_vc Γ_good Tryd.func36 rfl Tryd.call36 Tryd.results36 Tryd.ntmps36 (Nat.le_of_ble_eq_true rfl) (w_tcheck hu s hd hr)
end
end Go.Proofs.YtdcdmojbkmedpaaDoor
end
section
namespace Go.Proofs.YtdcdmojbkmedpaaDoor
open Go Go.SX Go.Ck Go.Vl Go.Ut Go.Ty
set_option maxRecDepth 100000
set_option maxHeartbeats 4000000
theorem check_sb {s:SchemaR} (hd:∀ d ∈ s.defs,TB d.t) (hr:TB s.root) (h:checkS s = 0):SB s∧Low (allP s):=by
 unfold checkS at h
 split at h
 ·cases h
 have h1:nmsF none (s.defs.map (·.name)) = 0:=Decidable.byContradiction fun c=>by rw [orI_ne c] at h; exact c h
 rw [h1,orI_zero] at h
 have h2:(scan s.defs (allP s) 0).1 = 0:=Decidable.byContradiction fun c=>by rw [orI_ne c] at h; exact c h
 exact sb_of hd hr (by omega) h2
def bitF (a:Int) (k:Nat):Bool:=bits .and .i64 (a.fdiv (2 ^ min k IntKind.i64.bits)) 1 == 1
def kindsL (a:Int):Nat→List Int
 | 0=>[]
 | k + 1=>if bitF a k = true then kindsL a k++[(k:Int)] else kindsL a k
theorem kindsL_len (a:Int) (k:Nat):(kindsL a k).length≤k:=by
 induction k with
 | zero=>exact Nat.le_refl _
 | succ k ih =>
  unfold kindsL
  split
  ·rw [List.length_append]; simp only [List.length_cons,List.length_nil]; omega
  ·omega
section
variable [G:Globs]
theorem w_tkinds (hu:HasU8) (s:SchemaR) (hd:∀ d ∈ s.defs,TB d.t) (hr:TB s.root):vc Tryd.prog Γ 45 [1,2,3,4,5,7,8,9,13,17,20,21,22,23,32,39] (Tryd.f35.body.getD .skip) (postK Γ [.tmp 2,.tmp 3] (fun v=>RL v (.tup [.rd .int (if checkS s = 0 then kindsL (orL 0 (comeA s.defs s.root).1) 7 else []),.i .i64 (checkS s)]))) ⟨argSlots 0 [.agg (encSch s)],[]⟩:=by
 have hC:=s_tcheck hu s hd hr
 have hB:=check_sb hd hr
 generalize checkS s = e at hC hB ⊢
 (repeat' (first | (refine And.intro (fun h=>?_) (fun h=>?_)<;>(try simp [-List.getD_eq_getElem?_getD,-Int.pred_toNat] at h)<;>(try (exfalso; first | omega | contradiction))) | (refine And.intro (rng64 (by omega) (by omega)) ?_) | (refine And.intro ⟨by omega,by omega⟩ ?_) | (refine And.intro ⟨by omega,by omega,by omega⟩ ?_) | (intro _)))
 refine Or.inl (Exists.intro _ (And.intro (hC) ?_))
 by_cases c1:e = 0
 rotate_left
 ·rw [if_neg c1]
  (repeat' (first | (refine And.intro (fun h=>?_) (fun h=>?_)<;>(try simp [-List.getD_eq_getElem?_getD,-Int.pred_toNat] at h)<;>(try (exfalso; first | omega | contradiction))) | (refine And.intro (rng64 (by omega) (by omega)) ?_) | (refine And.intro ⟨by omega,by omega⟩ ?_) | (refine And.intro ⟨by omega,by omega,by omega⟩ ?_) | (intro _)))
  (repeat' (first | exact trivial | exact Or.inl rfl | exact Or.inr ⟨rfl,_,rfl⟩ | refine And.intro ?_ ?_))
 have hQ:=hB c1
 clear hB
 obtain ⟨hB,hL⟩:=hQ
 have hP:=s_tparts s hB 0 s.root hB.root.1 hB.root.2 (by have:=hB.types; omega)
 subst c1
 rw [if_pos rfl]
 (repeat' (first | (refine And.intro (fun h=>?_) (fun h=>?_)<;>(try simp [-List.getD_eq_getElem?_getD,-Int.pred_toNat] at h)<;>(try (exfalso; first | omega | contradiction))) | (refine And.intro (rng64 (by omega) (by omega)) ?_) | (refine And.intro ⟨by omega,by omega⟩ ?_) | (refine And.intro ⟨by omega,by omega,by omega⟩ ?_) | (intro _)))
 refine Or.inr (Or.inr (Or.inr (Or.inl (Exists.intro [17] (Exists.intro _ (And.intro (hP) ?_))))))
 have hp:=come_part (fun d hd=>(hB.defs d hd).1) (need s.defs s.root [] + 1) s.root [] hB.root.1
 have hlen:=come_wt (fun d hd=>(hB.defs d hd).1) (need s.defs s.root [] + 1) s.root [] hB.root.1
 have hty:=hB.types
 generalize hL9:(comeA s.defs s.root).1 = L
 have hp:∀ y ∈ L,isPart y:=hL9 ▸ hp
 have hlen:L.length≤100000:=by
  have:(comeA s.defs s.root).1.length + _≤_:=hlen
  rw [hL9] at this
  omega
 have hA:orL 0 L = orL 0 (L.drop 0):=rfl
 generalize orL 0 L = T at hA ⊢
 (repeat' (first | (refine And.intro (fun h=>?_) (fun h=>?_)<;>(try simp [-List.getD_eq_getElem?_getD,-Int.pred_toNat] at h)<;>(try (exfalso; first | omega | contradiction))) | (refine And.intro (rng64 (by omega) (by omega)) ?_) | (refine And.intro ⟨by omega,by omega⟩ ?_) | (refine And.intro ⟨by omega,by omega,by omega⟩ ?_) | (intro _)))
 refine Exists.intro [] (Exists.intro [] (Exists.intro [] (Exists.intro (Nat × Int) (Exists.intro (fun x=>x.1≤L.length∧T = orL x.2 (L.drop x.1)) (Exists.intro (fun ⟨i,a⟩=>⟨[(5,.i .i64 a),(20,.rd .typ L),(21,.i .i64 L.length),(22,.i .i64 i)],[]⟩) (Exists.intro (fun x=>L.length - x.1) (Exists.intro (0,0) (And.intro ⟨Nat.zero_le _,hA⟩ (And.intro ?_ ?_)))))))))
 ·(repeat' (first | exact trivial | exact Or.inl rfl | exact Or.inr (Or.inl ⟨rfl,_,rfl⟩) | exact Or.inr (Or.inr (Or.inr ⟨_,_,_,rfl,rfl⟩)) | refine And.intro ?_ ?_))
 rintro ⟨i,a⟩ ⟨hi,hI⟩
 dsimp only at hi hI
 refine And.intro (fun hz=>?_) (fun hz=>?_)
 ·have hi:=ltD hz
  have hg:=getI (τ:=.typ) hi
  refine And.intro ⟨by omega,by omega⟩ ?_
  rw [hg]
  have hq:=hp _ (List.getElem_mem hi)
  have hK:=s_kinds L[i] hq.1 hq.2
  rw [List.drop_eq_getElem_cons hi] at hI
  (repeat' (first | (refine And.intro (fun h=>?_) (fun h=>?_)<;>(try simp [-List.getD_eq_getElem?_getD,-Int.pred_toNat] at h)<;>(try (exfalso; first | omega | contradiction))) | (refine And.intro (rng64 (by omega) (by omega)) ?_) | (refine And.intro ⟨by omega,by omega⟩ ?_) | (refine And.intro ⟨by omega,by omega,by omega⟩ ?_) | (intro _)))
  refine Or.inl (Exists.intro _ (And.intro (hK) ?_))
  (repeat' (first | (refine And.intro (fun h=>?_) (fun h=>?_)<;>(try simp [-List.getD_eq_getElem?_getD,-Int.pred_toNat] at h)<;>(try (exfalso; first | omega | contradiction))) | (refine And.intro (rng64 (by omega) (by omega)) ?_) | (refine And.intro ⟨by omega,by omega⟩ ?_) | (refine And.intro ⟨by omega,by omega,by omega⟩ ?_) | (intro _)))
  refine Exists.intro [] (Exists.intro (i + 1,bits .or .i64 a (kindsF L[i].kind)) (And.intro ⟨hi,hI⟩ (And.intro ?_ ?_)))
  ·(repeat' (first | exact trivial | exact Or.inl rfl | exact Or.inr (Or.inl ⟨rfl,_,rfl⟩) | exact Or.inr (Or.inr (Or.inr ⟨_,_,_,rfl,rfl⟩)) | refine And.intro ?_ ?_))
  ·(exact Nat.sub_lt_sub_left (by omega) (by omega))
 (have hi:=geD hi hz)
 rw [List.drop_eq_nil_of_le (by omega)] at hI
 have hI:T = a:=hI
 subst hI
 (repeat' (first | (refine And.intro (fun h=>?_) (fun h=>?_)<;>(try simp [-List.getD_eq_getElem?_getD,-Int.pred_toNat] at h)<;>(try (exfalso; first | omega | contradiction))) | (refine And.intro (rng64 (by omega) (by omega)) ?_) | (refine And.intro ⟨by omega,by omega⟩ ?_) | (refine And.intro ⟨by omega,by omega,by omega⟩ ?_) | (intro _)))
 refine Exists.intro [(8,8,.int)] (Exists.intro [] (Exists.intro [] (Exists.intro Nat (Exists.intro (fun k=>k≤7) (Exists.intro (fun k=>⟨[(5,.i .i64 T),(8,.vec 8 .int (kindsL T k)),(9,.i .i64 k)],[]⟩) (Exists.intro (fun k=>7 - k) (Exists.intro 0 (And.intro (by decide) (And.intro ?_ ?_)))))))))
 ·(repeat' (first | exact trivial | exact Or.inl rfl | exact Or.inr (Or.inl ⟨rfl,_,rfl⟩) | exact Or.inr (Or.inr (Or.inr ⟨_,_,_,rfl,rfl⟩)) | refine And.intro ?_ ?_))
 rintro k hk
 refine And.intro (fun hz=>?_) (fun hz=>?_)
 ·have hk6:(k:Int)≤6:=of_decide_eq_true hz
  have hk:k≤7:=hk
  have hkl:=kindsL_len T k
  (repeat' (first | (refine And.intro (fun h=>?_) (fun h=>?_)<;>(try simp [-List.getD_eq_getElem?_getD,-Int.pred_toNat] at h)<;>(try (exfalso; first | omega | contradiction))) | (refine And.intro (rng64 (by omega) (by omega)) ?_) | (refine And.intro ⟨by omega,by omega⟩ ?_) | (refine And.intro ⟨by omega,by omega,by omega⟩ ?_) | (intro _)))
  refine And.intro (by omega) ?_
  (repeat' (first | (refine And.intro (fun h=>?_) (fun h=>?_)<;>(try simp [-List.getD_eq_getElem?_getD,-Int.pred_toNat] at h)<;>(try (exfalso; first | omega | contradiction))) | (refine And.intro (rng64 (by omega) (by omega)) ?_) | (refine And.intro ⟨by omega,by omega⟩ ?_) | (refine And.intro ⟨by omega,by omega,by omega⟩ ?_) | (intro _)))
  ·have hb:bitF T k = true:=beq_iff_eq.2 (by assumption)
   have hs:kindsL T (k + 1) = kindsL T k++[(k:Int)]:=by rw [kindsL,if_pos hb]
   refine And.intro (show ((kindsL T k).length + 1) * 8≤140737488355328 by omega) ?_
   (repeat' (first | (refine And.intro (fun h=>?_) (fun h=>?_)<;>(try simp [-List.getD_eq_getElem?_getD,-Int.pred_toNat] at h)<;>(try (exfalso; first | omega | contradiction))) | (refine And.intro (rng64 (by omega) (by omega)) ?_) | (refine And.intro ⟨by omega,by omega⟩ ?_) | (refine And.intro ⟨by omega,by omega,by omega⟩ ?_) | (intro _)))
   refine Exists.intro [(43,8)] (Exists.intro (k + 1) (And.intro (by omega) (And.intro ?_ ?_)))
   ·(repeat' (first | exact trivial | exact Or.inl rfl | exact Or.inl (congrArg (AV.vec 8 .int) hs.symm) | refine And.intro ?_ ?_))
   ·(exact Nat.sub_lt_sub_left (by omega) (by omega))
  ·have hb:¬ bitF T k = true:=fun h9=>absurd (beq_iff_eq.1 h9) (by assumption)
   have hs:kindsL T (k + 1) = kindsL T k:=by rw [kindsL,if_neg hb]
   (repeat' (first | (refine And.intro (fun h=>?_) (fun h=>?_)<;>(try simp [-List.getD_eq_getElem?_getD,-Int.pred_toNat] at h)<;>(try (exfalso; first | omega | contradiction))) | (refine And.intro (rng64 (by omega) (by omega)) ?_) | (refine And.intro ⟨by omega,by omega⟩ ?_) | (refine And.intro ⟨by omega,by omega,by omega⟩ ?_) | (intro _)))
   refine Exists.intro [] (Exists.intro (k + 1) (And.intro (by omega) (And.intro ?_ ?_)))
   ·(repeat' (first | exact trivial | exact Or.inl rfl | exact Or.inl (congrArg (AV.vec 8 .int) hs.symm) | refine And.intro ?_ ?_))
   ·(exact Nat.sub_lt_sub_left (by omega) (by omega))
 ·have hk6:¬ (k:Int)≤6:=of_decide_eq_false hz
  have hk:k≤7:=hk
  obtain rfl:k = 7:=by omega
  (repeat' (first | (refine And.intro (fun h=>?_) (fun h=>?_)<;>(try simp [-List.getD_eq_getElem?_getD,-Int.pred_toNat] at h)<;>(try (exfalso; first | omega | contradiction))) | (refine And.intro (rng64 (by omega) (by omega)) ?_) | (refine And.intro ⟨by omega,by omega⟩ ?_) | (refine And.intro ⟨by omega,by omega,by omega⟩ ?_) | (intro _)))
  (repeat' (first | exact trivial | exact Or.inl rfl | exact Or.inr ⟨rfl,_,rfl⟩ | refine And.intro ?_ ?_))
theorem s_tkinds (hu:HasU8) (s:SchemaR) (hd:∀ d ∈ s.defs,TB d.t) (hr:TB s.root):PSpec Tryd.prog 35 [.agg (encSch s)] (.tup [.rd .int (if checkS s = 0 then kindsL (orL 0 (comeA s.defs s.root).1) 7 else []),.i .i64 (checkS s)]) :=
 pspec_of_vcL Γ_good Tryd.func35 rfl Tryd.call35 Tryd.results35 Tryd.ntmps35 (Nat.le_of_ble_eq_true rfl) (w_tkinds hu s hd hr)
end
end Go.Proofs.YtdcdmojbkmedpaaDoor
end
section
namespace Go.Proofs.YtdcdmojbkmedpaaDoor
open Go Go.SX Go.Ck Go.Vl Go.Ut Go.Ty
set_option maxRecDepth 100000
set_option maxHeartbeats 4000000
theorem etaF (x:Fld):(⟨x.name,x.opt,x.hasDef,⟨x.t.kind,x.t.lo,x.t.hi,x.t.texts,x.t.t,x.t.f,x.t.name⟩,⟨x.dflt.kind,x.dflt.n,x.dflt.f,x.dflt.s,x.dflt.l,x.dflt.e⟩⟩:Fld) = x:=by
 obtain ⟨a,b,c,t,d⟩:=x
 cases t
 cases d
 rfl
section
variable [G:Globs]
theorem w_cloneX (l:List Str) (h:l.length≤2000000):vc Tryd.prog Γ 8 [0,2,4] (Tryd.f158.body.getD .skip) (postNK (τ:=.str) Γ [.tmp 2] 1000 (l) []) ⟨argSlots 0 [.rd .str l],[]⟩:=by
 intro x hx
 refine And.intro (fun hq=>?_) (fun hq=>?_)
 ·have hq:x = true:=hq
  have he:l = []:=by
   cases l with
   | nil=>rfl
   | cons y r=>exact absurd (hx rfl) (by rw [hq]; decide)
  subst he
  refine Or.inr (And.intro rfl ?_)
  refine Exists.intro [] (And.intro rfl (by (repeat' (first | exact trivial | exact Or.inl rfl | exact Or.inr (Or.inl ⟨rfl,_,rfl⟩) | exact Or.inr (Or.inr (Or.inr ⟨_,_,_,rfl,rfl⟩)) | refine And.intro ?_ ?_))))
 ·refine And.intro (show (([]:List Str).length + l.length) * 16≤140737488355328 by simp only [List.length_nil]; omega) ?_
  refine Or.inl ?_
  refine Exists.intro [(7,1000)] (And.intro rfl (by (repeat' (first | exact trivial | exact Or.inl rfl | exact Or.inr (Or.inl ⟨rfl,_,rfl⟩) | exact Or.inr (Or.inr (Or.inr ⟨_,_,_,rfl,rfl⟩)) | refine And.intro ?_ ?_))))
theorem s_cloneX (l:List Str) (h:l.length≤2000000):CSpec Tryd.prog 158 [.rd .str l] [] (.vec 1000 .str (l)) [] :=
 cspec_of_vcN Γ_good Tryd.func158 rfl Tryd.call158 Tryd.results158 Tryd.ntmps158 (Nat.le_of_ble_eq_true rfl) (Nat.le_of_ble_eq_true rfl) (by rfl) (by rfl) (w_cloneX l h)
theorem w_town (t:TypR) (h1:t.texts.length≤2000000) (h2:t.t.length≤2000000) (h3:t.f.length≤2000000) (hc:∀ x ∈ t.t,PSpec Tryd.prog 92 [.agg (encTyp x)] (.agg (encTyp x))) (hf:∀ x ∈ t.f,PSpec Tryd.prog 92 [.agg (encTyp x.t)] (.agg (encTyp x.t))) (hv:∀ x ∈ t.f,PSpec Tryd.prog 76 [.agg (encVal x.dflt)] (.agg (encVal x.dflt))):vc Tryd.prog Γ 55 [1,2,3,4,6,8,19,20,21,22,33,34,35,36] (Tryd.f92.body.getD .skip) (postK Γ [.cell 2 69] (fun v=>v = .agg (encTyp t))) ⟨argSlots 0 [.agg (encTyp t)],[]⟩:=by
 have hC:=s_cloneX t.texts h1
 (repeat' (first | (refine And.intro (fun h=>?_) (fun h=>?_)<;>(try simp [-List.getD_eq_getElem?_getD,-Int.pred_toNat] at h)<;>(try (exfalso; first | omega | contradiction))) | (refine And.intro (rng64 (by omega) (by omega)) ?_) | (refine And.intro ⟨by omega,by omega⟩ ?_) | (refine And.intro ⟨by omega,by omega,by omega⟩ ?_) | (intro _)))
 refine Or.inr (Or.inl (Exists.intro [] (Exists.intro _ (Exists.intro _ (Exists.intro _ (Exists.intro _ (Exists.intro _ (Exists.intro [(1000,11)] (And.intro (hC) ?_)))))))))
 refine (And.intro rfl (And.intro rfl (And.intro rfl (And.intro rfl ?_))))
 (repeat' (first | (refine And.intro (fun h=>?_) (fun h=>?_)<;>(try simp [-List.getD_eq_getElem?_getD,-Int.pred_toNat] at h)<;>(try (exfalso; first | omega | contradiction))) | (refine And.intro (rng64 (by omega) (by omega)) ?_) | (refine And.intro ⟨by omega,by omega⟩ ?_) | (refine And.intro ⟨by omega,by omega,by omega⟩ ?_) | (intro _)))
 refine Exists.intro [.blk [0,1,2,3,4,5]] (And.intro (by kernel_rfl) ?_)
 (repeat' (first | (refine And.intro (fun h=>?_) (fun h=>?_)<;>(try simp [-List.getD_eq_getElem?_getD,-Int.pred_toNat] at h)<;>(try (exfalso; first | omega | contradiction))) | (refine And.intro (rng64 (by omega) (by omega)) ?_) | (refine And.intro ⟨by omega,by omega⟩ ?_) | (refine And.intro ⟨by omega,by omega,by omega⟩ ?_) | (intro _)))
 refine Exists.intro [] (Exists.intro [(1,4,46,.typ)] (Exists.intro [] (Exists.intro Nat (Exists.intro (fun i=>i≤t.t.length) (Exists.intro (fun i=>⟨[(1,.pt 1 0),(2,.pt 2 0),(4,.rd .fld t.f),(19,.rd .typ t.t),(20,.i .i64 t.t.length),(21,.i .i64 i)],[(1,[.i .i64 t.kind,.i .i64 t.lo,.i .i64 t.hi,.vec 11 .str t.texts,.vec 46 .typ (t.t.take i),.nl,.s t.name]),(2,[.i .i64 0,.i .i64 0,.i .i64 0,.nl,.nl,.nl,.s []])]⟩) (Exists.intro (fun i=>t.t.length - i) (Exists.intro 0 (And.intro (Nat.zero_le _) (And.intro ?_ ?_)))))))))
 ·(repeat' (first | exact trivial | exact Or.inl rfl | exact Or.inr (Or.inl ⟨rfl,_,rfl⟩) | exact Or.inr (Or.inr (Or.inr ⟨_,_,_,rfl,rfl⟩)) | refine And.intro ?_ ?_))
 rintro i hi
 refine And.intro (fun hz=>?_) (fun hz=>?_)
 ·have hi:=ltD hz
  have hg:=getI (τ:=.typ) hi
  refine And.intro ⟨by omega,by omega⟩ ?_
  rw [hg]
  have hs:=hc t.t[i] (List.getElem_mem hi)
  have e:t.t.take i++[t.t[i]] = t.t.take (i + 1):=by rw [List.take_add_one,List.getElem?_eq_getElem hi]; rfl
  (repeat' (first | (refine And.intro (fun h=>?_) (fun h=>?_)<;>(try simp [-List.getD_eq_getElem?_getD,-Int.pred_toNat] at h)<;>(try (exfalso; first | omega | contradiction))) | (refine And.intro (rng64 (by omega) (by omega)) ?_) | (refine And.intro ⟨by omega,by omega⟩ ?_) | (refine And.intro ⟨by omega,by omega,by omega⟩ ?_) | (intro _)))
  refine Exists.intro [.blk [0,1,2,3,4] [29],.one 5,.take 6,.one 7] (And.intro (by kernel_rfl) ?_)
  refine Exists.intro _ (And.intro (hs) ?_)
  refine And.intro (show ((t.t.take i).length + 1) * 112≤140737488355328 by rw [List.length_take]; omega) ?_
  (repeat' (first | (refine And.intro (fun h=>?_) (fun h=>?_)<;>(try simp [-List.getD_eq_getElem?_getD,-Int.pred_toNat] at h)<;>(try (exfalso; first | omega | contradiction))) | (refine And.intro (rng64 (by omega) (by omega)) ?_) | (refine And.intro ⟨by omega,by omega⟩ ?_) | (refine And.intro ⟨by omega,by omega,by omega⟩ ?_) | (intro _)))
  refine Exists.intro [(30,46)] (Exists.intro (i + 1) (And.intro hi (And.intro ?_ ?_)))
  ·dsimp only
   rw [etaT,e]
   (repeat' (first | exact trivial | exact Or.inl rfl | exact Or.inr (Or.inl ⟨rfl,_,rfl⟩) | exact Or.inr (Or.inr (Or.inr ⟨_,_,_,rfl,rfl⟩)) | refine And.intro ?_ ?_))
  ·(exact Nat.sub_lt_sub_left (by omega) (by omega))
 (have hi:=geD hi hz)
 subst hi
 rw [List.take_length]
 (repeat' (first | (refine And.intro (fun h=>?_) (fun h=>?_)<;>(try simp [-List.getD_eq_getElem?_getD,-Int.pred_toNat] at h)<;>(try (exfalso; first | omega | contradiction))) | (refine And.intro (rng64 (by omega) (by omega)) ?_) | (refine And.intro ⟨by omega,by omega⟩ ?_) | (refine And.intro ⟨by omega,by omega,by omega⟩ ?_) | (intro _)))
 refine Exists.intro [] (Exists.intro [(1,5,45,.fld)] (Exists.intro [] (Exists.intro Nat (Exists.intro (fun i=>i≤t.f.length) (Exists.intro (fun i=>⟨[(1,.pt 1 0),(2,.pt 2 0),(33,.rd .fld t.f),(34,.i .i64 t.f.length),(35,.i .i64 i)],[(1,[.i .i64 t.kind,.i .i64 t.lo,.i .i64 t.hi,.vec 11 .str t.texts,.vec 46 .typ t.t,.vec 45 .fld (t.f.take i),.s t.name]),(2,[.i .i64 0,.i .i64 0,.i .i64 0,.nl,.nl,.nl,.s []])]⟩) (Exists.intro (fun i=>t.f.length - i) (Exists.intro 0 (And.intro (Nat.zero_le _) (And.intro ?_ ?_)))))))))
 ·(repeat' (first | exact trivial | exact Or.inl rfl | exact Or.inr (Or.inl ⟨rfl,_,rfl⟩) | exact Or.inr (Or.inr (Or.inr ⟨_,_,_,rfl,rfl⟩)) | refine And.intro ?_ ?_))
 rintro i hi
 refine And.intro (fun hz=>?_) (fun hz=>?_)
 ·have hi:=ltD hz
  have hg:=getI (τ:=.fld) hi
  refine And.intro ⟨by omega,by omega⟩ ?_
  rw [hg]
  have hs:=hf t.f[i] (List.getElem_mem hi)
  have hw:=hv t.f[i] (List.getElem_mem hi)
  have e:t.f.take i++[t.f[i]] = t.f.take (i + 1):=by rw [List.take_add_one,List.getElem?_eq_getElem hi]; rfl
  (repeat' (first | (refine And.intro (fun h=>?_) (fun h=>?_)<;>(try simp [-List.getD_eq_getElem?_getD,-Int.pred_toNat] at h)<;>(try (exfalso; first | omega | contradiction))) | (refine And.intro (rng64 (by omega) (by omega)) ?_) | (refine And.intro ⟨by omega,by omega⟩ ?_) | (refine And.intro ⟨by omega,by omega,by omega⟩ ?_) | (intro _)))
  refine Exists.intro [.blk [0,1,2,3,4,5,6],.one 7,.take 8,.one 9] (And.intro (by kernel_rfl) ?_)
  refine Exists.intro _ (And.intro (hs) ?_)
  refine Exists.intro _ (And.intro (hw) ?_)
  (repeat' (first | (refine And.intro (fun h=>?_) (fun h=>?_)<;>(try simp [-List.getD_eq_getElem?_getD,-Int.pred_toNat] at h)<;>(try (exfalso; first | omega | contradiction))) | (refine And.intro (rng64 (by omega) (by omega)) ?_) | (refine And.intro ⟨by omega,by omega⟩ ?_) | (refine And.intro ⟨by omega,by omega,by omega⟩ ?_) | (intro _)))
  refine And.intro (show ((t.f.take i).length + 1) * 224≤140737488355328 by rw [List.length_take]; omega) ?_
  (repeat' (first | (refine And.intro (fun h=>?_) (fun h=>?_)<;>(try simp [-List.getD_eq_getElem?_getD,-Int.pred_toNat] at h)<;>(try (exfalso; first | omega | contradiction))) | (refine And.intro (rng64 (by omega) (by omega)) ?_) | (refine And.intro ⟨by omega,by omega⟩ ?_) | (refine And.intro ⟨by omega,by omega,by omega⟩ ?_) | (intro _)))
  refine Exists.intro [(51,45)] (Exists.intro (i + 1) (And.intro hi (And.intro ?_ ?_)))
  ·dsimp only
   rw [etaF,e]
   (repeat' (first | exact trivial | exact Or.inl rfl | exact Or.inr (Or.inl ⟨rfl,_,rfl⟩) | exact Or.inr (Or.inr (Or.inr ⟨_,_,_,rfl,rfl⟩)) | refine And.intro ?_ ?_))
  ·(exact Nat.sub_lt_sub_left (by omega) (by omega))
 (have hi:=geD hi hz)
 subst hi
 rw [List.take_length]
 (repeat' (first | (refine And.intro (fun h=>?_) (fun h=>?_)<;>(try simp [-List.getD_eq_getElem?_getD,-Int.pred_toNat] at h)<;>(try (exfalso; first | omega | contradiction))) | (refine And.intro (rng64 (by omega) (by omega)) ?_) | (refine And.intro ⟨by omega,by omega⟩ ?_) | (refine And.intro ⟨by omega,by omega,by omega⟩ ?_) | (intro _)))
 rfl
theorem s_town (t:TypR) (h1:t.texts.length≤2000000) (h2:t.t.length≤2000000) (h3:t.f.length≤2000000) (hc:∀ x ∈ t.t,PSpec Tryd.prog 92 [.agg (encTyp x)] (.agg (encTyp x))) (hf:∀ x ∈ t.f,PSpec Tryd.prog 92 [.agg (encTyp x.t)] (.agg (encTyp x.t))) (hv:∀ x ∈ t.f,PSpec Tryd.prog 76 [.agg (encVal x.dflt)] (.agg (encVal x.dflt))):PSpec Tryd.prog 92 [.agg (encTyp t)] (.agg (encTyp t)) :=
 pspec_of_vc Γ_good Tryd.func92 rfl Tryd.call92 Tryd.results92 Tryd.ntmps92 (Nat.le_of_ble_eq_true rfl) (w_town t h1 h2 h3 hc hf hv)
end
end Go.Proofs.YtdcdmojbkmedpaaDoor
end
section
namespace Go.Proofs.YtdcdmojbkmedpaaDoor
open Go Go.SX Go.Ck Go.Vl Go.Ut Go.Ty
set_option maxRecDepth 100000
set_option maxHeartbeats 4000000
inductive DN:TypR→Prop
 | mk (t:TypR):(∀ f ∈ t.f,VN 100000000 f.dflt)→(∀ x ∈ Ty.inside t,DN x)→DN t
theorem DN.part {t:TypR} (h:DN t):∀ x ∈ t.t,DN x:=by
 cases h with
 | mk _ _ h1=>exact fun x hx=>h1 x (List.mem_append_left _ hx)
theorem comeL_prop {Q:TypR→Prop} {f:TypR→Met→List TypR × Met}:∀ (r:List TypR) (es:Met),(∀ x ∈ r,∀ es,∀ y ∈ (f x es).1,Q y)→∀ y ∈ (comeL f r es).1,Q y
 | [],_,_,_,hy=>nomatch hy
 | x::r,es,h,y,hy=>by
  rcases List.mem_append.1 hy with hy | hy
  ·exact h x (List.mem_cons_self ..) es y hy
  ·exact comeL_prop r _ (fun z hz=>h z (List.mem_cons_of_mem _ hz)) y hy
theorem come_prop {l:List DefR} {Q:TypR→Prop} (hl:∀ d ∈ l,CT l d.t∧Q d.t) (hQ:∀ t,Q t→∀ x ∈ t.t,Q x):∀ (k:Nat) (t:TypR) (es:Met),CT l t→Q t→∀ y ∈ (comeF l k t es).1,Q y:=by
 intro k
 induction k with
 | zero=>intro t es _ _ y hy; exact nomatch hy
 | succ k ih =>
  intro t es ht hq y hy
  unfold comeF at hy
  split at hy
  ·rename_i hk
   split at hy
   ·exact nomatch hy
   ·have h0:0≤defI l t.name:=by cases ht with | mk _ _ h _=>exact h hk
    obtain ⟨d,hd,_,e⟩:=defT_mem h0
    exact ih _ _ (CT.defT (fun d hd=>(hl d hd).1) h0) (by rw [← e]; exact (hl d hd).2) y hy
  ·split at hy
   ·exact comeL_prop _ _ (fun x hx es=>ih x es (ht.part x hx) (hQ t hq x hx)) y hy
   ·obtain rfl:y = t:=by simpa using hy
    exact hq
section
variable [G:Globs]
theorem own_typ:∀ (k:Nat) (t:TypR),SizeOf.sizeOf t < k→TB t→DN t→PSpec Tryd.prog 92 [.agg (encTyp t)] (.agg (encTyp t)):=by
 intro k
 induction k with
 | zero=>intro t h; exact absurd h (Nat.not_lt_zero _)
 | succ k ih =>
  intro t h hb hd
  have hin:=hb.inside
  cases hd with
  | mk _ d1 d2 =>
  have hs:=fun x hx=>ih x (by have:=size_in (t:=t) (x:=x) hx; omega) (hin x hx) (d2 x hx)
  refine s_town t (by cases hb; omega) (by cases hb; omega) (by cases hb; omega) (fun x hx=>hs x (List.mem_append_left _ hx)) (fun f hf=>hs f.t (List.mem_append_right _ (List.mem_map.2 ⟨f,hf,rfl⟩))) (fun f hf=>s_Own f.dflt (d1 f hf))
theorem s_Town {t:TypR} (hb:TB t) (hd:DN t):PSpec Tryd.prog 92 [.agg (encTyp t)] (.agg (encTyp t)):=own_typ _ t (Nat.lt_succ_self _) hb hd
theorem w_pparts (hu:HasU8) (s:SchemaR) (hd:∀ d ∈ s.defs,TB d.t) (hr:TB s.root) (hd2:∀ d ∈ s.defs,DN d.t) (hr2:DN s.root):vc Tryd.prog Γ 31 [1,2,3,4,5,7,11,15,18,19,20,21] (Tryd.f34.body.getD .skip) (postK Γ [.tmp 2,.tmp 3] (fun v=>RL v (.tup [.rd .typ (if checkS s = 0 then (comeA s.defs s.root).1 else []),.i .i64 (checkS s)]))) ⟨argSlots 0 [.agg (encSch s)],[]⟩:=by
 have hC:=s_tcheck hu s hd hr
 have hB:=check_sb hd hr
 generalize checkS s = e at hC hB ⊢
 (repeat' (first | (refine And.intro (fun h=>?_) (fun h=>?_)<;>(try simp [-List.getD_eq_getElem?_getD,-Int.pred_toNat] at h)<;>(try (exfalso; first | omega | contradiction))) | (refine And.intro (rng64 (by omega) (by omega)) ?_) | (refine And.intro ⟨by omega,by omega⟩ ?_) | (refine And.intro ⟨by omega,by omega,by omega⟩ ?_) | (intro _)))
 refine Or.inl (Exists.intro _ (And.intro (hC) ?_))
 by_cases c1:e = 0
 rotate_left
 ·rw [if_neg c1]
  (repeat' (first | (refine And.intro (fun h=>?_) (fun h=>?_)<;>(try simp [-List.getD_eq_getElem?_getD,-Int.pred_toNat] at h)<;>(try (exfalso; first | omega | contradiction))) | (refine And.intro (rng64 (by omega) (by omega)) ?_) | (refine And.intro ⟨by omega,by omega⟩ ?_) | (refine And.intro ⟨by omega,by omega,by omega⟩ ?_) | (intro _)))
  (repeat' (first | exact trivial | exact Or.inl rfl | exact Or.inr ⟨rfl,_,rfl⟩ | refine And.intro ?_ ?_))
 have hQ:=hB c1
 clear hB
 obtain ⟨hB,hL⟩:=hQ
 have hP:=s_tparts s hB 0 s.root hB.root.1 hB.root.2 (by have:=hB.types; omega)
 subst c1
 rw [if_pos rfl]
 (repeat' (first | (refine And.intro (fun h=>?_) (fun h=>?_)<;>(try simp [-List.getD_eq_getElem?_getD,-Int.pred_toNat] at h)<;>(try (exfalso; first | omega | contradiction))) | (refine And.intro (rng64 (by omega) (by omega)) ?_) | (refine And.intro ⟨by omega,by omega⟩ ?_) | (refine And.intro ⟨by omega,by omega,by omega⟩ ?_) | (intro _)))
 refine Or.inr (Or.inr (Or.inr (Or.inl (Exists.intro [15] (Exists.intro _ (And.intro (hP) ?_))))))
 have hp:=come_prop (Q:=fun t=>TB t∧DN t) (fun d h=>⟨(hB.defs d h).1,hd d h,hd2 d h⟩) (fun t ht x hx=>⟨ht.1.inside x (List.mem_append_left _ hx),ht.2.part x hx⟩) (need s.defs s.root [] + 1) s.root [] hB.root.1 ⟨hr,hr2⟩
 have hlen:=come_wt (fun d hd=>(hB.defs d hd).1) (need s.defs s.root [] + 1) s.root [] hB.root.1
 have hty:=hB.types
 generalize hL9:(comeA s.defs s.root).1 = L
 have hp:∀ y ∈ L,TB y∧DN y:=hL9 ▸ hp
 have hlen:L.length≤100000:=by
  have:(comeA s.defs s.root).1.length + _≤_:=hlen
  rw [hL9] at this
  omega
 (repeat' (first | (refine And.intro (fun h=>?_) (fun h=>?_)<;>(try simp [-List.getD_eq_getElem?_getD,-Int.pred_toNat] at h)<;>(try (exfalso; first | omega | contradiction))) | (refine And.intro (rng64 (by omega) (by omega)) ?_) | (refine And.intro ⟨by omega,by omega⟩ ?_) | (refine And.intro ⟨by omega,by omega,by omega⟩ ?_) | (intro _)))
 refine Exists.intro [(5,5,.typ)] (Exists.intro [] (Exists.intro [] (Exists.intro Nat (Exists.intro (fun i=>i≤L.length) (Exists.intro (fun i=>⟨[(5,.vec 5 .typ (L.take i)),(18,.rd .typ L),(19,.i .i64 L.length),(20,.i .i64 i)],[]⟩) (Exists.intro (fun i=>L.length - i) (Exists.intro 0 (And.intro (Nat.zero_le _) (And.intro ?_ ?_)))))))))
 ·(repeat' (first | exact trivial | exact Or.inl rfl | exact Or.inr (Or.inl ⟨rfl,_,rfl⟩) | exact Or.inr (Or.inr (Or.inr ⟨_,_,_,rfl,rfl⟩)) | refine And.intro ?_ ?_))
 rintro i hi
 refine And.intro (fun hz=>?_) (fun hz=>?_)
 ·have hi:=ltD hz
  have hg:=getI (τ:=.typ) hi
  refine And.intro ⟨by omega,by omega⟩ ?_
  rw [hg]
  have hq:=hp _ (List.getElem_mem hi)
  have hs:=s_Town hq.1 hq.2
  have e:L.take i++[L[i]] = L.take (i + 1):=by rw [List.take_add_one,List.getElem?_eq_getElem hi]; rfl
  (repeat' (first | (refine And.intro (fun h=>?_) (fun h=>?_)<;>(try simp [-List.getD_eq_getElem?_getD,-Int.pred_toNat] at h)<;>(try (exfalso; first | omega | contradiction))) | (refine And.intro (rng64 (by omega) (by omega)) ?_) | (refine And.intro ⟨by omega,by omega⟩ ?_) | (refine And.intro ⟨by omega,by omega,by omega⟩ ?_) | (intro _)))
  refine Or.inl (Exists.intro _ (And.intro (hs) ?_))
  (repeat' (first | (refine And.intro (fun h=>?_) (fun h=>?_)<;>(try simp [-List.getD_eq_getElem?_getD,-Int.pred_toNat] at h)<;>(try (exfalso; first | omega | contradiction))) | (refine And.intro (rng64 (by omega) (by omega)) ?_) | (refine And.intro ⟨by omega,by omega⟩ ?_) | (refine And.intro ⟨by omega,by omega,by omega⟩ ?_) | (intro _)))
  refine And.intro (show ((L.take i).length + 1) * 112≤140737488355328 by rw [List.length_take]; omega) ?_
  (repeat' (first | (refine And.intro (fun h=>?_) (fun h=>?_)<;>(try simp [-List.getD_eq_getElem?_getD,-Int.pred_toNat] at h)<;>(try (exfalso; first | omega | contradiction))) | (refine And.intro (rng64 (by omega) (by omega)) ?_) | (refine And.intro ⟨by omega,by omega⟩ ?_) | (refine And.intro ⟨by omega,by omega,by omega⟩ ?_) | (intro _)))
  refine Exists.intro [(28,5)] (Exists.intro (i + 1) (And.intro hi (And.intro ?_ ?_)))
  ·dsimp only
   rw [etaT,e]
   (repeat' (first | exact trivial | exact Or.inl rfl | exact Or.inr (Or.inl ⟨rfl,_,rfl⟩) | exact Or.inr (Or.inr (Or.inr ⟨_,_,_,rfl,rfl⟩)) | refine And.intro ?_ ?_))
  ·(exact Nat.sub_lt_sub_left (by omega) (by omega))
 (have hi:=geD hi hz)
 subst hi
 rw [List.take_length]
 (repeat' (first | (refine And.intro (fun h=>?_) (fun h=>?_)<;>(try simp [-List.getD_eq_getElem?_getD,-Int.pred_toNat] at h)<;>(try (exfalso; first | omega | contradiction))) | (refine And.intro (rng64 (by omega) (by omega)) ?_) | (refine And.intro ⟨by omega,by omega⟩ ?_) | (refine And.intro ⟨by omega,by omega,by omega⟩ ?_) | (intro _)))
 (repeat' (first | exact trivial | exact Or.inl rfl | exact Or.inr ⟨rfl,_,rfl⟩ | refine And.intro ?_ ?_))
theorem s_pparts (hu:HasU8) (s:SchemaR) (hd:∀ d ∈ s.defs,TB d.t) (hr:TB s.root) (hd2:∀ d ∈ s.defs,DN d.t) (hr2:DN s.root):PSpec Tryd.prog 34 [.agg (encSch s)] (.tup [.rd .typ (if checkS s = 0 then (comeA s.defs s.root).1 else []),.i .i64 (checkS s)]) :=
 pspec_of_vcL Γ_good Tryd.func34 rfl Tryd.call34 Tryd.results34 Tryd.ntmps34 (Nat.le_of_ble_eq_true rfl) (w_pparts hu s hd hr hd2 hr2)
end
end Go.Proofs.YtdcdmojbkmedpaaDoor
end
section
namespace Go.Ty
open Go Go.SX Go.Ck Go.Vl Go.Ut
def eqL {α:Type} (f:α→α→Bool):List α→List α→Bool
 | [],[]=>true
 | x::r,y::s=>f x y && eqL f r s
 | _,_=>false
theorem eqL_len {α:Type} {f:α→α→Bool}:∀ {l m:List α},l.length≠m.length→eqL f l m = false
 | [],[],h=>absurd rfl h
 | [],_::_,_=>rfl
 | _::_,[],_=>rfl
 | x::r,y::s,h=>by
  rw [eqL,eqL_len (l:=r) (m:=s) (fun e=>h (by rw [List.length_cons,List.length_cons,e])),Bool.and_false]
theorem eqL_drop {α:Type} {f:α→α→Bool} {l m:List α} {i:Nat} (hl:i < l.length) (hm:i < m.length):eqL f (l.drop i) (m.drop i) = (f l[i] m[i] && eqL f (l.drop (i + 1)) (m.drop (i + 1))):=by
 rw [List.drop_eq_getElem_cons hl,List.drop_eq_getElem_cons hm,eqL]
theorem eqL_end {α:Type} {f:α→α→Bool} {l m:List α} {i:Nat} (hl:l.length≤i) (hm:m.length≤i):eqL f (l.drop i) (m.drop i) = true:=by
 rw [List.drop_eq_nil_of_le hl,List.drop_eq_nil_of_le hm,eqL]
mutual
def sameT:TypR→TypR→Bool
 | ⟨k,lo,hi,tx,t,f,n⟩,b=>k == b.kind && (lo == b.lo && (hi == b.hi && (decide (n = b.name) && (eqL (fun x y=>decide (x = y)) tx b.texts && (sameTL t b.t && sameFL f b.f)))))
def sameTL:List TypR→List TypR→Bool
 | [],[]=>true
 | x::r,y::s=>sameT x y && sameTL r s
 | _,_=>false
def sameFL:List (FldP TypR)→List (FldP TypR)→Bool
 | [],[]=>true
 | x::r,y::s=>sameP x y && sameFL r s
 | _,_=>false
def sameP:FldP TypR→FldP TypR→Bool
 | ⟨n,o,h,t,d⟩,y=>decide (n = y.name) && (o == y.opt && (h == y.hasDef && (cmpV d y.dflt == 0 && sameT t y.t)))
end
theorem sameTL_eq:∀ l m:List TypR,sameTL l m = eqL sameT l m
 | [],[]=>by simp only [sameTL,eqL]
 | [],_::_=>by simp only [sameTL,eqL]
 | _::_,[]=>by simp only [sameTL,eqL]
 | x::r,y::s=>by rw [sameTL,eqL,sameTL_eq r s]
theorem sameFL_eq:∀ l m:List (FldP TypR),sameFL l m = eqL sameP l m
 | [],[]=>by simp only [sameFL,eqL]
 | [],_::_=>by simp only [sameFL,eqL]
 | _::_,[]=>by simp only [sameFL,eqL]
 | x::r,y::s=>by rw [sameFL,eqL,sameFL_eq r s]
theorem sameT_eq (a b:TypR):sameT a b = (a.kind == b.kind && (a.lo == b.lo && (a.hi == b.hi && (decide (a.name = b.name) && (eqL (fun x y=>decide (x = y)) a.texts b.texts && (eqL sameT a.t b.t && eqL sameP a.f b.f)))))):=by
 cases a
 rw [sameT,sameTL_eq,sameFL_eq]
theorem sameP_eq (x y:FldP TypR):sameP x y = (decide (x.name = y.name) && (x.opt == y.opt && (x.hasDef == y.hasDef && (cmpV x.dflt y.dflt == 0 && sameT x.t y.t)))):=by
 cases x
 rw [sameP]
end Go.Ty
end
section
namespace Go.Proofs.YtdcdmojbkmedpaaDoor
open Go Go.SX Go.Ck Go.Vl Go.Ut Go.Ty
set_option maxRecDepth 100000
set_option maxHeartbeats 4000000
section
variable [G:Globs]
theorem w_eqStr (l m:List Str) (hl:l.length≤2000000):vc Tryd.prog Γ 26 [0,1,4,5,10,12,13,14,24] (Tryd.f100.body.getD .skip) (postK Γ [.tmp 4] (fun v=>v = .b (eqL (fun x y=>decide (x = y)) l m))) ⟨argSlots 0 [.rd .str l,.rd .str m],[]⟩:=by
 by_cases c1:l.length = m.length
 rotate_left
 ·rw [eqL_len c1]
  (repeat' (first | (refine And.intro (fun h=>?_) (fun h=>?_)<;>(try simp [-List.getD_eq_getElem?_getD,-Int.pred_toNat] at h)<;>(try (exfalso; first | omega | contradiction))) | (refine And.intro (rng64 (by omega) (by omega)) ?_) | (refine And.intro ⟨by omega,by omega⟩ ?_) | (refine And.intro ⟨by omega,by omega,by omega⟩ ?_) | (intro _)))
  all_goals rfl
 have hA:eqL (fun x y:Str=>decide (x = y)) l m = eqL (fun x y=>decide (x = y)) (l.drop 0) (m.drop 0):=rfl
 generalize eqL (fun x y:Str=>decide (x = y)) l m = R at hA ⊢
 (repeat' (first | (refine And.intro (fun h=>?_) (fun h=>?_)<;>(try simp [-List.getD_eq_getElem?_getD,-Int.pred_toNat] at h)<;>(try (exfalso; first | omega | contradiction))) | (refine And.intro (rng64 (by omega) (by omega)) ?_) | (refine And.intro ⟨by omega,by omega⟩ ?_) | (refine And.intro ⟨by omega,by omega,by omega⟩ ?_) | (intro _)))
 refine Exists.intro [] (Exists.intro [] (Exists.intro [] (Exists.intro Nat (Exists.intro (fun i=>i≤(l).length∧(R = eqL (fun x y=>decide (x = y)) (l.drop i) (m.drop i))) (Exists.intro (fun i=>⟨[(0,.rd .str l),(1,.rd .str m),(12,.i .i64 l.length),(13,.i .i64 i)],[]⟩) (Exists.intro (fun i=>(l).length - i) (Exists.intro 0 (And.intro ⟨Nat.zero_le _,hA⟩ (And.intro ?_ ?_)))))))))
 ·(repeat' (first | exact trivial | exact Or.inl rfl | exact Or.inr (Or.inl ⟨rfl,_,rfl⟩) | exact Or.inr (Or.inr (Or.inr ⟨_,_,_,rfl,rfl⟩)) | refine And.intro ?_ ?_))
 rintro i ⟨hi,hI⟩
 refine And.intro (fun hz=>?_) (fun hz=>?_)
 ·have hi:=ltD hz
  have hi2:i < m.length:=by omega
  have hg:=getI (τ:=.str) hi
  have hg2:=getI (τ:=.str) hi2
  rw [eqL_drop hi hi2] at hI
  (repeat' (first | (refine And.intro (fun h=>?_) (fun h=>?_)<;>(try simp [-List.getD_eq_getElem?_getD,-Int.pred_toNat] at h)<;>(try (exfalso; first | omega | contradiction))) | (refine And.intro (rng64 (by omega) (by omega)) ?_) | (refine And.intro ⟨by omega,by omega⟩ ?_) | (refine And.intro ⟨by omega,by omega,by omega⟩ ?_) | (intro _)))
  refine Exists.intro [.blk [0,1,2,3,4,5,6,7,8]] (And.intro (by kernel_rfl) ?_)
  refine And.intro ⟨by omega,by omega⟩ ?_
  rw [hg]
  (repeat' (first | (refine And.intro (fun h=>?_) (fun h=>?_)<;>(try simp [-List.getD_eq_getElem?_getD,-Int.pred_toNat] at h)<;>(try (exfalso; first | omega | contradiction))) | (refine And.intro (rng64 (by omega) (by omega)) ?_) | (refine And.intro ⟨by omega,by omega⟩ ?_) | (refine And.intro ⟨by omega,by omega,by omega⟩ ?_) | (intro _)))
  ·have h9:¬ l[i] = m.getD (Int.toNat (i:Int)) (dflt .str):=by assumption
   rw [hg2] at h9
   rw [decide_eq_false h9,Bool.false_and] at hI
   rw [hI]
   rfl
  ·have h9:l[i] = m.getD (Int.toNat (i:Int)) (dflt .str):=by assumption
   rw [hg2] at h9
   rw [decide_eq_true h9,Bool.true_and] at hI
   refine Exists.intro [] (Exists.intro (_ + 1) (And.intro ⟨hi,hI⟩ (And.intro ?_ ?_)))
   ·(repeat' (first | exact trivial | exact Or.inl rfl | exact Or.inr (Or.inl ⟨rfl,_,rfl⟩) | exact Or.inr (Or.inr (Or.inr ⟨_,_,_,rfl,rfl⟩)) | refine And.intro ?_ ?_))
   ·(exact Nat.sub_lt_sub_left (by omega) (by omega))
 ·(have hi:=geD hi hz)
  rw [eqL_end (by omega) (by omega)] at hI
  rw [hI]
  rfl
theorem s_eqStr (l m:List Str) (hl:l.length≤2000000):PSpec Tryd.prog 100 [.rd .str l,.rd .str m] (.b (eqL (fun x y=>decide (x = y)) l m)) :=
 pspec_of_vc Γ_good Tryd.func100 rfl Tryd.call100 Tryd.results100 Tryd.ntmps100 (Nat.le_of_ble_eq_true rfl) (w_eqStr l m hl)
theorem w_eqTyp (l m:List TypR) (hl:l.length≤2000000) (f:TypR→TypR→Bool) (g:Nat) (hc:∀ x ∈ l,∀ y ∈ m,PSpec Tryd.prog g [.agg (encTyp x),.agg (encTyp y)] (.b (f x y))):vc Tryd.prog Γ 32 [0,1,2,6,7,8,9,14,15,16,17,18,30] (Tryd.f101.body.getD .skip) (postK Γ [.tmp 6] (fun v=>v = .b (eqL f l m))) ⟨argSlots 0 [.rd .typ l,.rd .typ m,.fn g []],[]⟩:=by
 by_cases c1:l.length = m.length
 rotate_left
 ·rw [eqL_len c1]
  (repeat' (first | (refine And.intro (fun h=>?_) (fun h=>?_)<;>(try simp [-List.getD_eq_getElem?_getD,-Int.pred_toNat] at h)<;>(try (exfalso; first | omega | contradiction))) | (refine And.intro (rng64 (by omega) (by omega)) ?_) | (refine And.intro ⟨by omega,by omega⟩ ?_) | (refine And.intro ⟨by omega,by omega,by omega⟩ ?_) | (intro _)))
  all_goals rfl
 have hA:eqL f l m = eqL f (l.drop 0) (m.drop 0):=rfl
 generalize eqL f l m = R at hA ⊢
 (repeat' (first | (refine And.intro (fun h=>?_) (fun h=>?_)<;>(try simp [-List.getD_eq_getElem?_getD,-Int.pred_toNat] at h)<;>(try (exfalso; first | omega | contradiction))) | (refine And.intro (rng64 (by omega) (by omega)) ?_) | (refine And.intro ⟨by omega,by omega⟩ ?_) | (refine And.intro ⟨by omega,by omega,by omega⟩ ?_) | (intro _)))
 refine Exists.intro [] (Exists.intro [] (Exists.intro [] (Exists.intro Nat (Exists.intro (fun i=>i≤(l).length∧(R = eqL f (l.drop i) (m.drop i))) (Exists.intro (fun i=>⟨[(1,.rd .typ m),(2,.fn g []),(15,.rd .typ l),(16,.i .i64 l.length),(17,.i .i64 i)],[]⟩) (Exists.intro (fun i=>(l).length - i) (Exists.intro 0 (And.intro ⟨Nat.zero_le _,hA⟩ (And.intro ?_ ?_)))))))))
 ·(repeat' (first | exact trivial | exact Or.inl rfl | exact Or.inr (Or.inl ⟨rfl,_,rfl⟩) | exact Or.inr (Or.inr (Or.inr ⟨_,_,_,rfl,rfl⟩)) | refine And.intro ?_ ?_))
 rintro i ⟨hi,hI⟩
 refine And.intro (fun hz=>?_) (fun hz=>?_)
 ·have hi:=ltD hz
  have hi2:i < m.length:=by omega
  have hg:=getI (τ:=.typ) hi
  have hg2:=getI (τ:=.typ) hi2
  have hC:=hc l[i] (List.getElem_mem hi) m[i] (List.getElem_mem hi2)
  rw [eqL_drop hi hi2] at hI
  refine And.intro ⟨by omega,by omega⟩ ?_
  rw [hg]
  (repeat' (first | (refine And.intro (fun h=>?_) (fun h=>?_)<;>(try simp [-List.getD_eq_getElem?_getD,-Int.pred_toNat] at h)<;>(try (exfalso; first | omega | contradiction))) | (refine And.intro (rng64 (by omega) (by omega)) ?_) | (refine And.intro ⟨by omega,by omega⟩ ?_) | (refine And.intro ⟨by omega,by omega,by omega⟩ ?_) | (intro _)))
  rw [hg2]
  refine Or.inl (Exists.intro _ (And.intro (hC) ?_))
  cases hq:f l[i] m[i] with
  | true =>
   rw [hq,Bool.true_and] at hI
   (repeat' (first | (refine And.intro (fun h=>?_) (fun h=>?_)<;>(try simp [-List.getD_eq_getElem?_getD,-Int.pred_toNat] at h)<;>(try (exfalso; first | omega | contradiction))) | (refine And.intro (rng64 (by omega) (by omega)) ?_) | (refine And.intro ⟨by omega,by omega⟩ ?_) | (refine And.intro ⟨by omega,by omega,by omega⟩ ?_) | (intro _)))
   refine Exists.intro [] (Exists.intro (_ + 1) (And.intro ⟨hi,hI⟩ (And.intro ?_ ?_)))
   ·(repeat' (first | exact trivial | exact Or.inl rfl | exact Or.inr (Or.inl ⟨rfl,_,rfl⟩) | exact Or.inr (Or.inr (Or.inr ⟨_,_,_,rfl,rfl⟩)) | refine And.intro ?_ ?_))
   ·(exact Nat.sub_lt_sub_left (by omega) (by omega))
  | false =>
   rw [hq,Bool.false_and] at hI
   rw [hI]
   (repeat' (first | (refine And.intro (fun h=>?_) (fun h=>?_)<;>(try simp [-List.getD_eq_getElem?_getD,-Int.pred_toNat] at h)<;>(try (exfalso; first | omega | contradiction))) | (refine And.intro (rng64 (by omega) (by omega)) ?_) | (refine And.intro ⟨by omega,by omega⟩ ?_) | (refine And.intro ⟨by omega,by omega,by omega⟩ ?_) | (intro _)))
   rfl
 ·(have hi:=geD hi hz)
  rw [eqL_end (by omega) (by omega)] at hI
  rw [hI]
  rfl
theorem s_eqTyp (l m:List TypR) (hl:l.length≤2000000) (f:TypR→TypR→Bool) (g:Nat) (hc:∀ x ∈ l,∀ y ∈ m,PSpec Tryd.prog g [.agg (encTyp x),.agg (encTyp y)] (.b (f x y))):PSpec Tryd.prog 101 [.rd .typ l,.rd .typ m,.fn g []] (.b (eqL f l m)) :=
 pspec_of_vc Γ_good Tryd.func101 rfl Tryd.call101 Tryd.results101 Tryd.ntmps101 (Nat.le_of_ble_eq_true rfl) (w_eqTyp l m hl f g hc)
theorem w_eqFld (l m:List Fld) (hl:l.length≤2000000) (f:Fld→Fld→Bool) (g:Nat) (hc:∀ x ∈ l,∀ y ∈ m,PSpec Tryd.prog g [.agg (enc .fld x),.agg (enc .fld y)] (.b (f x y))):vc Tryd.prog Γ 32 [0,1,2,6,7,8,9,14,15,16,17,18,30] (Tryd.f102.body.getD .skip) (postK Γ [.tmp 6] (fun v=>v = .b (eqL f l m))) ⟨argSlots 0 [.rd .fld l,.rd .fld m,.fn g []],[]⟩:=by
 by_cases c1:l.length = m.length
 rotate_left
 ·rw [eqL_len c1]
  (repeat' (first | (refine And.intro (fun h=>?_) (fun h=>?_)<;>(try simp [-List.getD_eq_getElem?_getD,-Int.pred_toNat] at h)<;>(try (exfalso; first | omega | contradiction))) | (refine And.intro (rng64 (by omega) (by omega)) ?_) | (refine And.intro ⟨by omega,by omega⟩ ?_) | (refine And.intro ⟨by omega,by omega,by omega⟩ ?_) | (intro _)))
  all_goals rfl
 have hA:eqL f l m = eqL f (l.drop 0) (m.drop 0):=rfl
 generalize eqL f l m = R at hA ⊢
 (repeat' (first | (refine And.intro (fun h=>?_) (fun h=>?_)<;>(try simp [-List.getD_eq_getElem?_getD,-Int.pred_toNat] at h)<;>(try (exfalso; first | omega | contradiction))) | (refine And.intro (rng64 (by omega) (by omega)) ?_) | (refine And.intro ⟨by omega,by omega⟩ ?_) | (refine And.intro ⟨by omega,by omega,by omega⟩ ?_) | (intro _)))
 refine Exists.intro [] (Exists.intro [] (Exists.intro [] (Exists.intro Nat (Exists.intro (fun i=>i≤(l).length∧(R = eqL f (l.drop i) (m.drop i))) (Exists.intro (fun i=>⟨[(1,.rd .fld m),(2,.fn g []),(15,.rd .fld l),(16,.i .i64 l.length),(17,.i .i64 i)],[]⟩) (Exists.intro (fun i=>(l).length - i) (Exists.intro 0 (And.intro ⟨Nat.zero_le _,hA⟩ (And.intro ?_ ?_)))))))))
 ·(repeat' (first | exact trivial | exact Or.inl rfl | exact Or.inr (Or.inl ⟨rfl,_,rfl⟩) | exact Or.inr (Or.inr (Or.inr ⟨_,_,_,rfl,rfl⟩)) | refine And.intro ?_ ?_))
 rintro i ⟨hi,hI⟩
 refine And.intro (fun hz=>?_) (fun hz=>?_)
 ·have hi:=ltD hz
  have hi2:i < m.length:=by omega
  have hg:=getI (τ:=.fld) hi
  have hg2:=getI (τ:=.fld) hi2
  have hC:=hc l[i] (List.getElem_mem hi) m[i] (List.getElem_mem hi2)
  rw [eqL_drop hi hi2] at hI
  refine And.intro ⟨by omega,by omega⟩ ?_
  rw [hg]
  (repeat' (first | (refine And.intro (fun h=>?_) (fun h=>?_)<;>(try simp [-List.getD_eq_getElem?_getD,-Int.pred_toNat] at h)<;>(try (exfalso; first | omega | contradiction))) | (refine And.intro (rng64 (by omega) (by omega)) ?_) | (refine And.intro ⟨by omega,by omega⟩ ?_) | (refine And.intro ⟨by omega,by omega,by omega⟩ ?_) | (intro _)))
  rw [hg2]
  refine Or.inl (Exists.intro _ (And.intro (hC) ?_))
  cases hq:f l[i] m[i] with
  | true =>
   rw [hq,Bool.true_and] at hI
   (repeat' (first | (refine And.intro (fun h=>?_) (fun h=>?_)<;>(try simp [-List.getD_eq_getElem?_getD,-Int.pred_toNat] at h)<;>(try (exfalso; first | omega | contradiction))) | (refine And.intro (rng64 (by omega) (by omega)) ?_) | (refine And.intro ⟨by omega,by omega⟩ ?_) | (refine And.intro ⟨by omega,by omega,by omega⟩ ?_) | (intro _)))
   refine Exists.intro [] (Exists.intro (_ + 1) (And.intro ⟨hi,hI⟩ (And.intro ?_ ?_)))
   ·(repeat' (first | exact trivial | exact Or.inl rfl | exact Or.inr (Or.inl ⟨rfl,_,rfl⟩) | exact Or.inr (Or.inr (Or.inr ⟨_,_,_,rfl,rfl⟩)) | refine And.intro ?_ ?_))
   ·(exact Nat.sub_lt_sub_left (by omega) (by omega))
  | false =>
   rw [hq,Bool.false_and] at hI
   rw [hI]
   (repeat' (first | (refine And.intro (fun h=>?_) (fun h=>?_)<;>(try simp [-List.getD_eq_getElem?_getD,-Int.pred_toNat] at h)<;>(try (exfalso; first | omega | contradiction))) | (refine And.intro (rng64 (by omega) (by omega)) ?_) | (refine And.intro ⟨by omega,by omega⟩ ?_) | (refine And.intro ⟨by omega,by omega,by omega⟩ ?_) | (intro _)))
   rfl
 ·(have hi:=geD hi hz)
  rw [eqL_end (by omega) (by omega)] at hI
  rw [hI]
  rfl
theorem s_eqFld (l m:List Fld) (hl:l.length≤2000000) (f:Fld→Fld→Bool) (g:Nat) (hc:∀ x ∈ l,∀ y ∈ m,PSpec Tryd.prog g [.agg (enc .fld x),.agg (enc .fld y)] (.b (f x y))):PSpec Tryd.prog 102 [.rd .fld l,.rd .fld m,.fn g []] (.b (eqL f l m)) :=
 pspec_of_vc Γ_good Tryd.func102 rfl Tryd.call102 Tryd.results102 Tryd.ntmps102 (Nat.le_of_ble_eq_true rfl) (w_eqFld l m hl f g hc)
theorem w_sameF1 (x y:Fld) (hx:VB x.dflt) (hy:VB y.dflt) (hc:PSpec Tryd.prog 37 [.agg (encTyp x.t),.agg (encTyp y.t)] (.b (sameT x.t y.t))):vc Tryd.prog Γ 39 [2,3,4] (Tryd.f103.body.getD .skip) (postK Γ [.tmp 4] (fun v=>v = .b (sameP x y))) ⟨argSlots 0 [.agg (enc .fld x),.agg (enc .fld y)],[]⟩:=by
 rw [sameP_eq]
 have hV:=s_Compare x.dflt y.dflt hx hy
 generalize sameT x.t y.t = q at hc ⊢
 generalize cmpV x.dflt y.dflt = n at hV ⊢
 by_cases c1:x.name = y.name
 rotate_left
 ·rw [decide_eq_false c1]
  (repeat' (first | (refine And.intro (fun h=>?_) (fun h=>?_)<;>(try simp [-List.getD_eq_getElem?_getD,-Int.pred_toNat] at h)<;>(try (exfalso; first | omega | contradiction))) | (refine And.intro (rng64 (by omega) (by omega)) ?_) | (refine And.intro ⟨by omega,by omega⟩ ?_) | (refine And.intro ⟨by omega,by omega,by omega⟩ ?_) | (intro _)))
  all_goals rfl
 rw [decide_eq_true c1]
 by_cases c2:x.opt = y.opt
 rotate_left
 ·rw [beq_eq_false_iff_ne.2 c2]
  (repeat' (first | (refine And.intro (fun h=>?_) (fun h=>?_)<;>(try simp [-List.getD_eq_getElem?_getD,-Int.pred_toNat] at h)<;>(try (exfalso; first | omega | contradiction))) | (refine And.intro (rng64 (by omega) (by omega)) ?_) | (refine And.intro ⟨by omega,by omega⟩ ?_) | (refine And.intro ⟨by omega,by omega,by omega⟩ ?_) | (intro _)))
  all_goals rfl
 rw [beq_iff_eq.2 c2]
 by_cases c3:x.hasDef = y.hasDef
 rotate_left
 ·rw [beq_eq_false_iff_ne.2 c3]
  (repeat' (first | (refine And.intro (fun h=>?_) (fun h=>?_)<;>(try simp [-List.getD_eq_getElem?_getD,-Int.pred_toNat] at h)<;>(try (exfalso; first | omega | contradiction))) | (refine And.intro (rng64 (by omega) (by omega)) ?_) | (refine And.intro ⟨by omega,by omega⟩ ?_) | (refine And.intro ⟨by omega,by omega,by omega⟩ ?_) | (intro _)))
  all_goals rfl
 rw [beq_iff_eq.2 c3]
 (repeat' (first | (refine And.intro (fun h=>?_) (fun h=>?_)<;>(try simp [-List.getD_eq_getElem?_getD,-Int.pred_toNat] at h)<;>(try (exfalso; first | omega | contradiction))) | (refine And.intro (rng64 (by omega) (by omega)) ?_) | (refine And.intro ⟨by omega,by omega⟩ ?_) | (refine And.intro ⟨by omega,by omega,by omega⟩ ?_) | (intro _)))
 refine Or.inl (Exists.intro _ (And.intro (hV) ?_))
 by_cases c4:n = 0
 rotate_left
 ·rw [beq_eq_false_iff_ne.2 c4]
  (repeat' (first | (refine And.intro (fun h=>?_) (fun h=>?_)<;>(try simp [-List.getD_eq_getElem?_getD,-Int.pred_toNat] at h)<;>(try (exfalso; first | omega | contradiction))) | (refine And.intro (rng64 (by omega) (by omega)) ?_) | (refine And.intro ⟨by omega,by omega⟩ ?_) | (refine And.intro ⟨by omega,by omega,by omega⟩ ?_) | (intro _)))
  all_goals rfl
 rw [beq_iff_eq.2 c4]
 (repeat' (first | (refine And.intro (fun h=>?_) (fun h=>?_)<;>(try simp [-List.getD_eq_getElem?_getD,-Int.pred_toNat] at h)<;>(try (exfalso; first | omega | contradiction))) | (refine And.intro (rng64 (by omega) (by omega)) ?_) | (refine And.intro ⟨by omega,by omega⟩ ?_) | (refine And.intro ⟨by omega,by omega,by omega⟩ ?_) | (intro _)))
 refine Or.inl (Exists.intro _ (And.intro (hc) ?_))
 (repeat' (first | (refine And.intro (fun h=>?_) (fun h=>?_)<;>(try simp [-List.getD_eq_getElem?_getD,-Int.pred_toNat] at h)<;>(try (exfalso; first | omega | contradiction))) | (refine And.intro (rng64 (by omega) (by omega)) ?_) | (refine And.intro ⟨by omega,by omega⟩ ?_) | (refine And.intro ⟨by omega,by omega,by omega⟩ ?_) | (intro _)))
 all_goals rfl
theorem s_sameF1 (x y:Fld) (hx:VB x.dflt) (hy:VB y.dflt) (hc:PSpec Tryd.prog 37 [.agg (encTyp x.t),.agg (encTyp y.t)] (.b (sameT x.t y.t))):PSpec Tryd.prog 103 [.agg (enc .fld x),.agg (enc .fld y)] (.b (sameP x y)) :=
 pspec_of_vc Γ_good Tryd.func103 rfl Tryd.call103 Tryd.results103 Tryd.ntmps103 (Nat.le_of_ble_eq_true rfl) (w_sameF1 x y hx hy hc)
end
end Go.Proofs.YtdcdmojbkmedpaaDoor
end
section
namespace Go.Proofs.YtdcdmojbkmedpaaDoor
open Go Go.SX Go.Ck Go.Vl Go.Ut Go.Ty
set_option maxRecDepth 100000
set_option maxHeartbeats 4000000
section
variable [G:Globs]
theorem w_same1 (a b:TypR) (h1:a.texts.length≤2000000) (h2:a.t.length≤2000000) (h3:a.f.length≤2000000) (ht:∀ x ∈ a.t,∀ y ∈ b.t,PSpec Tryd.prog 37 [.agg (encTyp x),.agg (encTyp y)] (.b (sameT x y))) (hf:∀ x ∈ a.f,∀ y ∈ b.f,PSpec Tryd.prog 103 [.agg (enc .fld x),.agg (enc .fld y)] (.b (sameP x y))):vc Tryd.prog Γ 52 [2,3,4] (Tryd.f37.body.getD .skip) (postK Γ [.tmp 4] (fun v=>v = .b (sameT a b))) ⟨argSlots 0 [.agg (encTyp a),.agg (encTyp b)],[]⟩:=by
 rw [sameT_eq]
 have hS:=s_eqStr a.texts b.texts h1
 have hT:=s_eqTyp a.t b.t h2 sameT 37 ht
 have hF:=s_eqFld a.f b.f h3 sameP 103 hf
 generalize eqL (fun x y:Str=>decide (x = y)) a.texts b.texts = p at hS ⊢
 generalize eqL sameT a.t b.t = q at hT ⊢
 generalize eqL sameP a.f b.f = r at hF ⊢
 by_cases c1:a.kind = b.kind
 rotate_left
 ·rw [beq_eq_false_iff_ne.2 c1]
  (repeat' (first | (refine And.intro (fun h=>?_) (fun h=>?_)<;>(try simp [-List.getD_eq_getElem?_getD,-Int.pred_toNat] at h)<;>(try (exfalso; first | omega | contradiction))) | (refine And.intro (rng64 (by omega) (by omega)) ?_) | (refine And.intro ⟨by omega,by omega⟩ ?_) | (refine And.intro ⟨by omega,by omega,by omega⟩ ?_) | (intro _)))
  all_goals rfl
 rw [beq_iff_eq.2 c1]
 by_cases c2:a.lo = b.lo
 rotate_left
 ·rw [beq_eq_false_iff_ne.2 c2]
  (repeat' (first | (refine And.intro (fun h=>?_) (fun h=>?_)<;>(try simp [-List.getD_eq_getElem?_getD,-Int.pred_toNat] at h)<;>(try (exfalso; first | omega | contradiction))) | (refine And.intro (rng64 (by omega) (by omega)) ?_) | (refine And.intro ⟨by omega,by omega⟩ ?_) | (refine And.intro ⟨by omega,by omega,by omega⟩ ?_) | (intro _)))
  all_goals rfl
 rw [beq_iff_eq.2 c2]
 by_cases c3:a.hi = b.hi
 rotate_left
 ·rw [beq_eq_false_iff_ne.2 c3]
  (repeat' (first | (refine And.intro (fun h=>?_) (fun h=>?_)<;>(try simp [-List.getD_eq_getElem?_getD,-Int.pred_toNat] at h)<;>(try (exfalso; first | omega | contradiction))) | (refine And.intro (rng64 (by omega) (by omega)) ?_) | (refine And.intro ⟨by omega,by omega⟩ ?_) | (refine And.intro ⟨by omega,by omega,by omega⟩ ?_) | (intro _)))
  all_goals rfl
 rw [beq_iff_eq.2 c3]
 by_cases c4:a.name = b.name
 rotate_left
 ·rw [decide_eq_false c4]
  (repeat' (first | (refine And.intro (fun h=>?_) (fun h=>?_)<;>(try simp [-List.getD_eq_getElem?_getD,-Int.pred_toNat] at h)<;>(try (exfalso; first | omega | contradiction))) | (refine And.intro (rng64 (by omega) (by omega)) ?_) | (refine And.intro ⟨by omega,by omega⟩ ?_) | (refine And.intro ⟨by omega,by omega,by omega⟩ ?_) | (intro _)))
  all_goals rfl
 rw [decide_eq_true c4]
 (repeat' (first | (refine And.intro (fun h=>?_) (fun h=>?_)<;>(try simp [-List.getD_eq_getElem?_getD,-Int.pred_toNat] at h)<;>(try (exfalso; first | omega | contradiction))) | (refine And.intro (rng64 (by omega) (by omega)) ?_) | (refine And.intro ⟨by omega,by omega⟩ ?_) | (refine And.intro ⟨by omega,by omega,by omega⟩ ?_) | (intro _)))
 refine Or.inl (Exists.intro _ (And.intro (hS) ?_))
 cases p with
 | false =>
  (repeat' (first | (refine And.intro (fun h=>?_) (fun h=>?_)<;>(try simp [-List.getD_eq_getElem?_getD,-Int.pred_toNat] at h)<;>(try (exfalso; first | omega | contradiction))) | (refine And.intro (rng64 (by omega) (by omega)) ?_) | (refine And.intro ⟨by omega,by omega⟩ ?_) | (refine And.intro ⟨by omega,by omega,by omega⟩ ?_) | (intro _)))
  all_goals rfl
 | true =>
  (repeat' (first | (refine And.intro (fun h=>?_) (fun h=>?_)<;>(try simp [-List.getD_eq_getElem?_getD,-Int.pred_toNat] at h)<;>(try (exfalso; first | omega | contradiction))) | (refine And.intro (rng64 (by omega) (by omega)) ?_) | (refine And.intro ⟨by omega,by omega⟩ ?_) | (refine And.intro ⟨by omega,by omega,by omega⟩ ?_) | (intro _)))
  refine Or.inl (Exists.intro _ (And.intro (hT) ?_))
  cases q with
  | false =>
   (repeat' (first | (refine And.intro (fun h=>?_) (fun h=>?_)<;>(try simp [-List.getD_eq_getElem?_getD,-Int.pred_toNat] at h)<;>(try (exfalso; first | omega | contradiction))) | (refine And.intro (rng64 (by omega) (by omega)) ?_) | (refine And.intro ⟨by omega,by omega⟩ ?_) | (refine And.intro ⟨by omega,by omega,by omega⟩ ?_) | (intro _)))
   all_goals rfl
  | true =>
   (repeat' (first | (refine And.intro (fun h=>?_) (fun h=>?_)<;>(try simp [-List.getD_eq_getElem?_getD,-Int.pred_toNat] at h)<;>(try (exfalso; first | omega | contradiction))) | (refine And.intro (rng64 (by omega) (by omega)) ?_) | (refine And.intro ⟨by omega,by omega⟩ ?_) | (refine And.intro ⟨by omega,by omega,by omega⟩ ?_) | (intro _)))
   refine Or.inl (Exists.intro _ (And.intro (hF) ?_))
   (repeat' (first | (refine And.intro (fun h=>?_) (fun h=>?_)<;>(try simp [-List.getD_eq_getElem?_getD,-Int.pred_toNat] at h)<;>(try (exfalso; first | omega | contradiction))) | (refine And.intro (rng64 (by omega) (by omega)) ?_) | (refine And.intro ⟨by omega,by omega⟩ ?_) | (refine And.intro ⟨by omega,by omega,by omega⟩ ?_) | (intro _)))
   all_goals rfl
theorem s_same1 (a b:TypR) (h1:a.texts.length≤2000000) (h2:a.t.length≤2000000) (h3:a.f.length≤2000000) (ht:∀ x ∈ a.t,∀ y ∈ b.t,PSpec Tryd.prog 37 [.agg (encTyp x),.agg (encTyp y)] (.b (sameT x y))) (hf:∀ x ∈ a.f,∀ y ∈ b.f,PSpec Tryd.prog 103 [.agg (enc .fld x),.agg (enc .fld y)] (.b (sameP x y))):PSpec Tryd.prog 37 [.agg (encTyp a),.agg (encTyp b)] (.b (sameT a b)) :=
 pspec_of_vc Γ_good Tryd.func37 rfl Tryd.call37 Tryd.results37 Tryd.ntmps37 (Nat.le_of_ble_eq_true rfl) (w_same1 a b h1 h2 h3 ht hf)
theorem same_spec:∀ (k:Nat) (a:TypR),SizeOf.sizeOf a < k→TB a→∀ b:TypR,TB b→PSpec Tryd.prog 37 [.agg (encTyp a),.agg (encTyp b)] (.b (sameT a b)):=by
 intro k
 induction k with
 | zero=>intro a h; exact absurd h (Nat.not_lt_zero _)
 | succ k ih =>
  intro a h ha b hb
  have hs:=fun x hx=>ih x (by have:=size_in (t:=a) (x:=x) hx; omega) (ha.inside x hx)
  have hb2:=hb.inside
  have va:∀ f ∈ a.f,VB f.dflt:=by cases ha with | mk _ _ _ _ _ h _ _=>exact fun f hf=>(h f hf).1
  have vb:∀ f ∈ b.f,VB f.dflt:=by cases hb with | mk _ _ _ _ _ h _ _=>exact fun f hf=>(h f hf).1
  refine s_same1 a b (by cases ha; omega) (by cases ha; omega) (by cases ha; omega) (fun x hx y hy=>hs x (List.mem_append_left _ hx) y (hb2 y (List.mem_append_left _ hy))) (fun x hx y hy=>s_sameF1 x y (va x hx) (vb y hy) (hs x.t (List.mem_append_right _ (List.mem_map.2 ⟨x,hx,rfl⟩)) y.t (hb2 y.t (List.mem_append_right _ (List.mem_map.2 ⟨y,hy,rfl⟩)))))
theorem s_Tsame {a b:TypR} (ha:TB a) (hb:TB b):PSpec Tryd.prog 37 [.agg (encTyp a),.agg (encTyp b)] (.b (sameT a b)):=same_spec _ a (Nat.lt_succ_self _) ha b hb
end
end Go.Proofs.YtdcdmojbkmedpaaDoor
end
section
namespace Go.Proofs.YtdcdmojbkmedpaaDoor
open Go Go.SX Go.Ck Go.Vl Go.Ut Go.Ty
set_option maxRecDepth 100000
set_option maxHeartbeats 4000000
section
variable [G:Globs]
theorem w_sameR (a b:TypR) (ha:TB a) (hb:TB b) (hc:∀ x ∈ Ty.inside a,∀ y ∈ Ty.inside b,PSpec Tryd.prog 38 [.agg (encTyp x),.agg (encTyp y)] (.b (sameT x y))):vc Tryd.prog Γ 149 [2,3,4,5,6,7,8,9,62,65,66,67,79,83,84,85,98,101,102,103,104,147] (Tryd.f38.body.getD .skip) (postK Γ [.tmp 4] (fun v=>v = .b (sameT a b))) ⟨argSlots 0 [.agg (encTyp a),.agg (encTyp b)],[]⟩:=by
 have hR:=sameT_eq a b
 generalize sameT a b = R at hR ⊢
 have la:=(by cases ha; assumption:a.texts.length≤2000000∧a.t.length≤2000000∧a.f.length≤2000000)
 have lb:=(by cases hb; assumption:b.texts.length≤2000000∧b.t.length≤2000000∧b.f.length≤2000000)
 by_cases hn:a.name = b.name
 rotate_left
 ·rw [decide_eq_false hn,Bool.false_and,Bool.and_false,Bool.and_false,Bool.and_false] at hR
  subst hR
  (repeat' (first | (refine And.intro (fun h=>?_) (fun h=>?_)<;>(try simp [-List.getD_eq_getElem?_getD,-Int.pred_toNat] at h)<;>(try (exfalso; first | omega | contradiction))) | (refine And.intro (rng64 (by omega) (by omega)) ?_) | (refine And.intro ⟨by omega,by omega⟩ ?_) | (refine And.intro ⟨by omega,by omega,by omega⟩ ?_) | (intro _)))
  all_goals rfl
 by_cases hA:a.kind = b.kind∧a.lo = b.lo∧a.hi = b.hi∧a.texts.length = b.texts.length∧a.t.length = b.t.length∧a.f.length = b.f.length
 rotate_left
 ·have : R = false := by
   rw [hR]
   by_cases c1:a.kind = b.kind
   ·by_cases c2:a.lo = b.lo
    ·by_cases c3:a.hi = b.hi
     ·by_cases c4:a.texts.length = b.texts.length
      ·by_cases c5:a.t.length = b.t.length
       ·have c6:a.f.length≠b.f.length:=by omega
        simp [eqL_len c6]
       ·simp [eqL_len c5]
      ·simp [eqL_len c4]
     ·simp [c3]
    ·simp [c2]
   ·simp [c1]
  subst this
  (repeat' (first | (refine And.intro (fun h=>?_) (fun h=>?_)<;>(try simp [-List.getD_eq_getElem?_getD,-Int.pred_toNat] at h)<;>(try (exfalso; first | omega | contradiction))) | (refine And.intro (rng64 (by omega) (by omega)) ?_) | (refine And.intro ⟨by omega,by omega⟩ ?_) | (refine And.intro ⟨by omega,by omega,by omega⟩ ?_) | (intro _)))
  all_goals rfl
 obtain ⟨h1,h2,h3,h4,h5,h6⟩:=hA
 rw [h1,h2,h3,decide_eq_true hn,beq_self_eq_true,beq_self_eq_true,beq_self_eq_true,Bool.true_and,Bool.true_and,Bool.true_and,Bool.true_and] at hR
 have hR1:R = (eqL (fun x y=>decide (x = y)) (a.texts.drop 0) (b.texts.drop 0) && (eqL sameT a.t b.t && eqL sameP a.f b.f)):=hR
 clear hR
 (repeat' (first | (refine And.intro (fun h=>?_) (fun h=>?_)<;>(try simp [-List.getD_eq_getElem?_getD,-Int.pred_toNat] at h)<;>(try (exfalso; first | omega | contradiction))) | (refine And.intro (rng64 (by omega) (by omega)) ?_) | (refine And.intro ⟨by omega,by omega⟩ ?_) | (refine And.intro ⟨by omega,by omega,by omega⟩ ?_) | (intro _)))
 refine Exists.intro [] (Exists.intro [] (Exists.intro [] (Exists.intro Nat (Exists.intro (fun i=>i≤(a.texts).length∧(R = (eqL (fun x y=>decide (x = y)) (a.texts.drop i) (b.texts.drop i) && (eqL sameT a.t b.t && eqL sameP a.f b.f)))) (Exists.intro (fun i=>⟨[(2,.pt 2 0),(3,.pt 3 0),(65,.i .i64 a.texts.length),(66,.i .i64 i)],[(2,encTyp a),(3,encTyp b)]⟩) (Exists.intro (fun i=>(a.texts).length - i) (Exists.intro 0 (And.intro ⟨Nat.zero_le _,hR1⟩ (And.intro ?_ ?_)))))))))
 ·(repeat' (first | exact trivial | exact Or.inl rfl | exact Or.inr (Or.inl ⟨rfl,_,rfl⟩) | exact Or.inr (Or.inr (Or.inr ⟨_,_,_,rfl,rfl⟩)) | refine And.intro ?_ ?_))
 rintro i ⟨hi,hI⟩
 refine And.intro (fun hz=>?_) (fun hz=>?_)
 ·have hi:=ltD hz
  have hi2:i < b.texts.length:=by omega
  have hg:=getI (τ:=.str) hi
  have hg2:=getI (τ:=.str) hi2
  rw [eqL_drop hi hi2] at hI
  (repeat' (first | (refine And.intro (fun h=>?_) (fun h=>?_)<;>(try simp [-List.getD_eq_getElem?_getD,-Int.pred_toNat] at h)<;>(try (exfalso; first | omega | contradiction))) | (refine And.intro (rng64 (by omega) (by omega)) ?_) | (refine And.intro ⟨by omega,by omega⟩ ?_) | (refine And.intro ⟨by omega,by omega,by omega⟩ ?_) | (intro _)))
  refine Exists.intro [.blk [0,1,2,3,4,5,6,7,8,9,10]] (And.intro (by kernel_rfl) ?_)
  (repeat' (first | (refine And.intro (fun h=>?_) (fun h=>?_)<;>(try simp [-List.getD_eq_getElem?_getD,-Int.pred_toNat] at h)<;>(try (exfalso; first | omega | contradiction))) | (refine And.intro (rng64 (by omega) (by omega)) ?_) | (refine And.intro ⟨by omega,by omega⟩ ?_) | (refine And.intro ⟨by omega,by omega,by omega⟩ ?_) | (intro _)))
  ·have h9:¬ a.texts.getD i (dflt .str) = b.texts.getD i (dflt .str):=by assumption
   have h9:¬ a.texts[i] = b.texts[i]:=fun e=>h9 (hg.trans (e.trans hg2.symm))
   rw [decide_eq_false h9,Bool.false_and,Bool.false_and] at hI
   rw [hI]
   rfl
  ·have h9:a.texts.getD i (dflt .str) = b.texts.getD i (dflt .str):=by assumption
   have h9:a.texts[i] = b.texts[i]:=hg.symm.trans (h9.trans hg2)
   rw [decide_eq_true h9,Bool.true_and] at hI
   refine Exists.intro [] (Exists.intro (i + 1) (And.intro ⟨hi,hI⟩ (And.intro ?_ ?_)))
   ·(repeat' (first | exact trivial | exact Or.inl rfl | exact Or.inr (Or.inl ⟨rfl,_,rfl⟩) | exact Or.inr (Or.inr (Or.inr ⟨_,_,_,rfl,rfl⟩)) | refine And.intro ?_ ?_))
   ·(exact Nat.sub_lt_sub_left (by omega) (by omega))
 (have hi:=geD hi hz)
 rw [eqL_end (by omega) (by omega),Bool.true_and] at hI
 have hR1:R = (eqL sameT (a.t.drop 0) (b.t.drop 0) && eqL sameP a.f b.f):=hI
 clear hI
 (repeat' (first | (refine And.intro (fun h=>?_) (fun h=>?_)<;>(try simp [-List.getD_eq_getElem?_getD,-Int.pred_toNat] at h)<;>(try (exfalso; first | omega | contradiction))) | (refine And.intro (rng64 (by omega) (by omega)) ?_) | (refine And.intro ⟨by omega,by omega⟩ ?_) | (refine And.intro ⟨by omega,by omega,by omega⟩ ?_) | (intro _)))
 refine Exists.intro [] (Exists.intro [] (Exists.intro [] (Exists.intro Nat (Exists.intro (fun i=>i≤(a.t).length∧(R = (eqL sameT (a.t.drop i) (b.t.drop i) && eqL sameP a.f b.f))) (Exists.intro (fun i=>⟨[(2,.pt 2 0),(3,.pt 3 0),(83,.i .i64 a.t.length),(84,.i .i64 i)],[(2,encTyp a),(3,encTyp b)]⟩) (Exists.intro (fun i=>(a.t).length - i) (Exists.intro 0 (And.intro ⟨Nat.zero_le _,hR1⟩ (And.intro ?_ ?_)))))))))
 ·(repeat' (first | exact trivial | exact Or.inl rfl | exact Or.inr (Or.inl ⟨rfl,_,rfl⟩) | exact Or.inr (Or.inr (Or.inr ⟨_,_,_,rfl,rfl⟩)) | refine And.intro ?_ ?_))
 rintro i ⟨hi,hI⟩
 refine And.intro (fun hz=>?_) (fun hz=>?_)
 ·have hi:=ltD hz
  have hi2:i < b.t.length:=by omega
  have hg:=getI (τ:=.typ) hi
  have hg2:=getI (τ:=.typ) hi2
  have hC:=hc a.t[i] (List.mem_append_left _ (List.getElem_mem hi)) b.t[i] (List.mem_append_left _ (List.getElem_mem hi2))
  rw [eqL_drop hi hi2] at hI
  generalize hq:sameT a.t[i] b.t[i] = q at hI hC
  (repeat' (first | (refine And.intro (fun h=>?_) (fun h=>?_)<;>(try simp [-List.getD_eq_getElem?_getD,-Int.pred_toNat] at h)<;>(try (exfalso; first | omega | contradiction))) | (refine And.intro (rng64 (by omega) (by omega)) ?_) | (refine And.intro ⟨by omega,by omega⟩ ?_) | (refine And.intro ⟨by omega,by omega,by omega⟩ ?_) | (intro _)))
  refine Exists.intro [.blk [0,1,2,3,4,5,6,7,8,9,10,11]] (And.intro (by kernel_rfl) ?_)
  (refine And.intro ⟨by omega,by omega⟩ ?_)
  rw [hg]
  (repeat' (first | (refine And.intro (fun h=>?_) (fun h=>?_)<;>(try simp [-List.getD_eq_getElem?_getD,-Int.pred_toNat] at h)<;>(try (exfalso; first | omega | contradiction))) | (refine And.intro (rng64 (by omega) (by omega)) ?_) | (refine And.intro ⟨by omega,by omega⟩ ?_) | (refine And.intro ⟨by omega,by omega,by omega⟩ ?_) | (intro _)))
  rw [hg2]
  refine Exists.intro _ (And.intro (hC) ?_)
  cases q with
  | true =>
   rw [Bool.true_and] at hI
   (repeat' (first | (refine And.intro (fun h=>?_) (fun h=>?_)<;>(try simp [-List.getD_eq_getElem?_getD,-Int.pred_toNat] at h)<;>(try (exfalso; first | omega | contradiction))) | (refine And.intro (rng64 (by omega) (by omega)) ?_) | (refine And.intro ⟨by omega,by omega⟩ ?_) | (refine And.intro ⟨by omega,by omega,by omega⟩ ?_) | (intro _)))
   refine Exists.intro [] (Exists.intro (i + 1) (And.intro ⟨hi,hI⟩ (And.intro ?_ ?_)))
   ·(repeat' (first | exact trivial | exact Or.inl rfl | exact Or.inr (Or.inl ⟨rfl,_,rfl⟩) | exact Or.inr (Or.inr (Or.inr ⟨_,_,_,rfl,rfl⟩)) | refine And.intro ?_ ?_))
   ·(exact Nat.sub_lt_sub_left (by omega) (by omega))
  | false =>
   rw [Bool.false_and,Bool.false_and] at hI
   rw [hI]
   (repeat' (first | (refine And.intro (fun h=>?_) (fun h=>?_)<;>(try simp [-List.getD_eq_getElem?_getD,-Int.pred_toNat] at h)<;>(try (exfalso; first | omega | contradiction))) | (refine And.intro (rng64 (by omega) (by omega)) ?_) | (refine And.intro ⟨by omega,by omega⟩ ?_) | (refine And.intro ⟨by omega,by omega,by omega⟩ ?_) | (intro _)))
   rfl
 (have hi:=geD hi hz)
 rw [eqL_end (by omega) (by omega),Bool.true_and] at hI
 have hR1:R = eqL sameP (a.f.drop 0) (b.f.drop 0):=hI
 clear hI
 (repeat' (first | (refine And.intro (fun h=>?_) (fun h=>?_)<;>(try simp [-List.getD_eq_getElem?_getD,-Int.pred_toNat] at h)<;>(try (exfalso; first | omega | contradiction))) | (refine And.intro (rng64 (by omega) (by omega)) ?_) | (refine And.intro ⟨by omega,by omega⟩ ?_) | (refine And.intro ⟨by omega,by omega,by omega⟩ ?_) | (intro _)))
 refine Exists.intro [] (Exists.intro [] (Exists.intro [] (Exists.intro Nat (Exists.intro (fun i=>i≤(a.f).length∧(R = eqL sameP (a.f.drop i) (b.f.drop i))) (Exists.intro (fun i=>⟨[(3,.pt 3 0),(101,.rd .fld a.f),(102,.i .i64 a.f.length),(103,.i .i64 i)],[(3,encTyp b)]⟩) (Exists.intro (fun i=>(a.f).length - i) (Exists.intro 0 (And.intro ⟨Nat.zero_le _,hR1⟩ (And.intro ?_ ?_)))))))))
 ·(repeat' (first | exact trivial | exact Or.inl rfl | exact Or.inr (Or.inl ⟨rfl,_,rfl⟩) | exact Or.inr (Or.inr (Or.inr ⟨_,_,_,rfl,rfl⟩)) | refine And.intro ?_ ?_))
 rintro i ⟨hi,hI⟩
 refine And.intro (fun hz=>?_) (fun hz=>?_)
 ·have hi:=ltD hz
  have hg:=getI (τ:=.fld) hi
  refine And.intro ⟨by omega,by omega⟩ ?_
  rw [hg]
  have hi2:i < b.f.length:=by omega
  have hg2:=getI (τ:=.fld) hi2
  have hx:=List.getElem_mem hi
  have hy:=List.getElem_mem hi2
  have hC:=hc a.f[i].t (List.mem_append_right _ (List.mem_map.2 ⟨_,hx,rfl⟩)) b.f[i].t (List.mem_append_right _ (List.mem_map.2 ⟨_,hy,rfl⟩))
  have hV:=s_same a.f[i].dflt b.f[i].dflt (by cases ha with | mk _ _ _ _ _ h _ _=>exact (h _ hx).1) (by cases hb with | mk _ _ _ _ _ h _ _=>exact (h _ hy).1)
  rw [eqL_drop hi hi2,sameP_eq] at hI
  generalize hq:sameT a.f[i].t b.f[i].t = q at hI hC
  (refine And.intro ⟨by omega,by omega⟩ ?_)
  rw [hg2]
  by_cases k1:a.f[i].name = b.f[i].name
  rotate_left
  ·rw [decide_eq_false k1,Bool.false_and,Bool.false_and] at hI
   rw [hI]
   (repeat' (first | (refine And.intro (fun h=>?_) (fun h=>?_)<;>(try simp [-List.getD_eq_getElem?_getD,-Int.pred_toNat] at h)<;>(try (exfalso; first | omega | contradiction))) | (refine And.intro (rng64 (by omega) (by omega)) ?_) | (refine And.intro ⟨by omega,by omega⟩ ?_) | (refine And.intro ⟨by omega,by omega,by omega⟩ ?_) | (intro _)))
   all_goals rfl
  by_cases k2:a.f[i].opt = b.f[i].opt
  rotate_left
  ·rw [beq_eq_false_iff_ne.2 k2,Bool.false_and,Bool.and_false,Bool.false_and] at hI
   rw [hI]
   (repeat' (first | (refine And.intro (fun h=>?_) (fun h=>?_)<;>(try simp [-List.getD_eq_getElem?_getD,-Int.pred_toNat] at h)<;>(try (exfalso; first | omega | contradiction))) | (refine And.intro (rng64 (by omega) (by omega)) ?_) | (refine And.intro ⟨by omega,by omega⟩ ?_) | (refine And.intro ⟨by omega,by omega,by omega⟩ ?_) | (intro _)))
   all_goals rfl
  by_cases k3:a.f[i].hasDef = b.f[i].hasDef
  rotate_left
  ·rw [beq_eq_false_iff_ne.2 k3,Bool.false_and,Bool.and_false,Bool.and_false,Bool.false_and] at hI
   rw [hI]
   (repeat' (first | (refine And.intro (fun h=>?_) (fun h=>?_)<;>(try simp [-List.getD_eq_getElem?_getD,-Int.pred_toNat] at h)<;>(try (exfalso; first | omega | contradiction))) | (refine And.intro (rng64 (by omega) (by omega)) ?_) | (refine And.intro ⟨by omega,by omega⟩ ?_) | (refine And.intro ⟨by omega,by omega,by omega⟩ ?_) | (intro _)))
   all_goals rfl
  rw [decide_eq_true k1,beq_iff_eq.2 k2,beq_iff_eq.2 k3,Bool.true_and,Bool.true_and,Bool.true_and] at hI
  by_cases k4:cmpV a.f[i].dflt b.f[i].dflt = 0
  rotate_left
  ·rw [beq_eq_false_iff_ne.2 k4,Bool.false_and,Bool.false_and] at hI
   rw [hI]
   rw [decide_eq_false k4] at hV
   (repeat' (first | (refine And.intro (fun h=>?_) (fun h=>?_)<;>(try simp [-List.getD_eq_getElem?_getD,-Int.pred_toNat] at h)<;>(try (exfalso; first | omega | contradiction))) | (refine And.intro (rng64 (by omega) (by omega)) ?_) | (refine And.intro ⟨by omega,by omega⟩ ?_) | (refine And.intro ⟨by omega,by omega,by omega⟩ ?_) | (intro _)))
   refine Or.inl (Exists.intro _ (And.intro (hV) ?_))
   (repeat' (first | (refine And.intro (fun h=>?_) (fun h=>?_)<;>(try simp [-List.getD_eq_getElem?_getD,-Int.pred_toNat] at h)<;>(try (exfalso; first | omega | contradiction))) | (refine And.intro (rng64 (by omega) (by omega)) ?_) | (refine And.intro ⟨by omega,by omega⟩ ?_) | (refine And.intro ⟨by omega,by omega,by omega⟩ ?_) | (intro _)))
   all_goals rfl
  rw [beq_iff_eq.2 k4,Bool.true_and] at hI
  rw [decide_eq_true k4] at hV
  (repeat' (first | (refine And.intro (fun h=>?_) (fun h=>?_)<;>(try simp [-List.getD_eq_getElem?_getD,-Int.pred_toNat] at h)<;>(try (exfalso; first | omega | contradiction))) | (refine And.intro (rng64 (by omega) (by omega)) ?_) | (refine And.intro ⟨by omega,by omega⟩ ?_) | (refine And.intro ⟨by omega,by omega,by omega⟩ ?_) | (intro _)))
  refine Or.inl (Exists.intro _ (And.intro (hV) ?_))
  (repeat' (first | (refine And.intro (fun h=>?_) (fun h=>?_)<;>(try simp [-List.getD_eq_getElem?_getD,-Int.pred_toNat] at h)<;>(try (exfalso; first | omega | contradiction))) | (refine And.intro (rng64 (by omega) (by omega)) ?_) | (refine And.intro ⟨by omega,by omega⟩ ?_) | (refine And.intro ⟨by omega,by omega,by omega⟩ ?_) | (intro _)))
  refine Or.inl (Exists.intro _ (And.intro (hC) ?_))
  cases q with
  | true =>
   rw [Bool.true_and] at hI
   (repeat' (first | (refine And.intro (fun h=>?_) (fun h=>?_)<;>(try simp [-List.getD_eq_getElem?_getD,-Int.pred_toNat] at h)<;>(try (exfalso; first | omega | contradiction))) | (refine And.intro (rng64 (by omega) (by omega)) ?_) | (refine And.intro ⟨by omega,by omega⟩ ?_) | (refine And.intro ⟨by omega,by omega,by omega⟩ ?_) | (intro _)))
   refine Exists.intro [] (Exists.intro (i + 1) (And.intro ⟨hi,hI⟩ (And.intro ?_ ?_)))
   ·(repeat' (first | exact trivial | exact Or.inl rfl | exact Or.inr (Or.inl ⟨rfl,_,rfl⟩) | exact Or.inr (Or.inr (Or.inr ⟨_,_,_,rfl,rfl⟩)) | refine And.intro ?_ ?_))
   ·(exact Nat.sub_lt_sub_left (by omega) (by omega))
  | false =>
   rw [Bool.false_and] at hI
   rw [hI]
   (repeat' (first | (refine And.intro (fun h=>?_) (fun h=>?_)<;>(try simp [-List.getD_eq_getElem?_getD,-Int.pred_toNat] at h)<;>(try (exfalso; first | omega | contradiction))) | (refine And.intro (rng64 (by omega) (by omega)) ?_) | (refine And.intro ⟨by omega,by omega⟩ ?_) | (refine And.intro ⟨by omega,by omega,by omega⟩ ?_) | (intro _)))
   rfl
 (have hi:=geD hi hz)
 rw [eqL_end (by omega) (by omega)] at hI
 rw [hI]
 (repeat' (first | (refine And.intro (fun h=>?_) (fun h=>?_)<;>(try simp [-List.getD_eq_getElem?_getD,-Int.pred_toNat] at h)<;>(try (exfalso; first | omega | contradiction))) | (refine And.intro (rng64 (by omega) (by omega)) ?_) | (refine And.intro ⟨by omega,by omega⟩ ?_) | (refine And.intro ⟨by omega,by omega,by omega⟩ ?_) | (intro _)))
 rfl
theorem s_sameR (a b:TypR) (ha:TB a) (hb:TB b) (hc:∀ x ∈ Ty.inside a,∀ y ∈ Ty.inside b,PSpec Tryd.prog 38 [.agg (encTyp x),.agg (encTyp y)] (.b (sameT x y))):PSpec Tryd.prog 38 [.agg (encTyp a),.agg (encTyp b)] (.b (sameT a b)) :=
 pspec_of_vc Γ_good Tryd.func38 rfl Tryd.call38 Tryd.results38 Tryd.ntmps38 (Nat.le_of_ble_eq_true rfl) (w_sameR a b ha hb hc)
end
end Go.Proofs.YtdcdmojbkmedpaaDoor
end
section
namespace Go.Proofs.YtdcdmojbkmedpaaDoor
open Go Go.SX Go.Ck Go.Vl Go.Ut Go.Ty
set_option maxRecDepth 100000
set_option maxHeartbeats 4000000
theorem less_flip:∀ a b:Str,(Op.bytesLess a b || a == b) = !Op.bytesLess b a
 | [],[]=>by simp [Op.bytesLess]
 | [],_::_=>by simp [Op.bytesLess]
 | _::_,[]=>by simp [Op.bytesLess]
 | x::a,y::b=>by
  have ih:=less_flip a b
  rw [Op.bytesLess,Op.bytesLess,List.cons_beq_cons]
  by_cases h:x = y
  ·subst h
   have h1:decide (x < x) = false:=decide_eq_false (UInt8.lt_irrefl x)
   rw [h1,beq_self_eq_true,Bool.false_or,Bool.true_and,Bool.true_and,Bool.false_or,Bool.true_and]
   exact ih
  ·have h1:(x == y) = false:=beq_eq_false_iff_ne.2 h
   have h2:(y == x) = false:=beq_eq_false_iff_ne.2 fun e=>h e.symm
   rw [h1,h2,Bool.false_and,Bool.false_and,Bool.or_false,Bool.or_false,Bool.false_and,Bool.or_false]
   by_cases h3:x < y
   ·rw [decide_eq_true h3,decide_eq_false (UInt8.lt_asymm h3)]
    rfl
   ·have h4 : y < x := by
     rcases UInt8.lt_or_lt_of_ne h with h5 | h5
     ·exact absurd h5 h3
     ·exact h5
    rw [decide_eq_false h3,decide_eq_true h4]
    rfl
section
variable [G:Globs]
theorem w_nameFault (s q:Str) (b:Bool):vc Tryd.prog Γ 20 [0,1,2,6,9,12,19] (Tryd.f87.body.getD .skip) (postK Γ [.tmp 6] (fun v=>v = .i .i64 (keyF (if b = true then none else some q) s))) ⟨argSlots 0 [.s s,.s q,.b b],[]⟩:=by
 by_cases c1:100 < s.length
 ·rw [keyF_large c1]
  (repeat' (first | (refine And.intro (fun h=>?_) (fun h=>?_)<;>(try simp [-List.getD_eq_getElem?_getD,-Int.pred_toNat] at h)<;>(try (exfalso; first | omega | contradiction))) | (refine And.intro (rng64 (by omega) (by omega)) ?_) | (refine And.intro ⟨by omega,by omega⟩ ?_) | (refine And.intro ⟨by omega,by omega,by omega⟩ ?_) | (intro _)))
  all_goals rfl
 by_cases c2:0≤bad s
 ·rw [keyF_text c1 c2]
  (repeat' (first | (refine And.intro (fun h=>?_) (fun h=>?_)<;>(try simp [-List.getD_eq_getElem?_getD,-Int.pred_toNat] at h)<;>(try (exfalso; first | omega | contradiction))) | (refine And.intro (rng64 (by omega) (by omega)) ?_) | (refine And.intro ⟨by omega,by omega⟩ ?_) | (refine And.intro ⟨by omega,by omega,by omega⟩ ?_) | (intro _)))
  refine Or.inl (Exists.intro _ (And.intro (s_BadPlace s) ?_))
  (repeat' (first | (refine And.intro (fun h=>?_) (fun h=>?_)<;>(try simp [-List.getD_eq_getElem?_getD,-Int.pred_toNat] at h)<;>(try (exfalso; first | omega | contradiction))) | (refine And.intro (rng64 (by omega) (by omega)) ?_) | (refine And.intro ⟨by omega,by omega⟩ ?_) | (refine And.intro ⟨by omega,by omega,by omega⟩ ?_) | (intro _)))
  all_goals rfl
 have hk:keyF (if b = true then none else some q) s = if b = true then 0 else if Op.bytesLess q s = true then 0 else 14:=by
  unfold keyF
  rw [if_neg c1,if_neg c2]
  cases b<;>rfl
 rw [hk]
 have hf:=less_flip s q
 cases b with
 | true =>
  (repeat' (first | (refine And.intro (fun h=>?_) (fun h=>?_)<;>(try simp [-List.getD_eq_getElem?_getD,-Int.pred_toNat] at h)<;>(try (exfalso; first | omega | contradiction))) | (refine And.intro (rng64 (by omega) (by omega)) ?_) | (refine And.intro ⟨by omega,by omega⟩ ?_) | (refine And.intro ⟨by omega,by omega,by omega⟩ ?_) | (intro _)))
  refine Or.inl (Exists.intro _ (And.intro (s_BadPlace s) ?_))
  (repeat' (first | (refine And.intro (fun h=>?_) (fun h=>?_)<;>(try simp [-List.getD_eq_getElem?_getD,-Int.pred_toNat] at h)<;>(try (exfalso; first | omega | contradiction))) | (refine And.intro (rng64 (by omega) (by omega)) ?_) | (refine And.intro ⟨by omega,by omega⟩ ?_) | (refine And.intro ⟨by omega,by omega,by omega⟩ ?_) | (intro _)))
  all_goals rfl
 | false =>
  (repeat' (first | (refine And.intro (fun h=>?_) (fun h=>?_)<;>(try simp [-List.getD_eq_getElem?_getD,-Int.pred_toNat] at h)<;>(try (exfalso; first | omega | contradiction))) | (refine And.intro (rng64 (by omega) (by omega)) ?_) | (refine And.intro ⟨by omega,by omega⟩ ?_) | (refine And.intro ⟨by omega,by omega,by omega⟩ ?_) | (intro _)))
  refine Or.inl (Exists.intro _ (And.intro (s_BadPlace s) ?_))
  cases hq:Op.bytesLess q s with
  | true =>
   rw [hq] at hf
   (repeat' (first | (refine And.intro (fun h=>?_) (fun h=>?_)<;>(try simp [-List.getD_eq_getElem?_getD,-Int.pred_toNat] at h)<;>(try (exfalso; first | omega | contradiction))) | (refine And.intro (rng64 (by omega) (by omega)) ?_) | (refine And.intro ⟨by omega,by omega⟩ ?_) | (refine And.intro ⟨by omega,by omega,by omega⟩ ?_) | (intro _)))
   all_goals first | rfl | (exfalso; clear hk; simp_all; done)
  | false =>
   rw [hq] at hf
   (repeat' (first | (refine And.intro (fun h=>?_) (fun h=>?_)<;>(try simp [-List.getD_eq_getElem?_getD,-Int.pred_toNat] at h)<;>(try (exfalso; first | omega | contradiction))) | (refine And.intro (rng64 (by omega) (by omega)) ?_) | (refine And.intro ⟨by omega,by omega⟩ ?_) | (refine And.intro ⟨by omega,by omega,by omega⟩ ?_) | (intro _)))
   all_goals first | rfl | (exfalso; clear hk; simp_all; done)
theorem s_nameFault (s q:Str) (b:Bool):PSpec Tryd.prog 87 [.s s,.s q,.b b] (.i .i64 (keyF (if b = true then none else some q) s)) :=
 pspec_of_vc Γ_good Tryd.func87 rfl Tryd.call87 Tryd.results87 Tryd.ntmps87 (Nat.le_of_ble_eq_true rfl) (w_nameFault s q b)
theorem w_defOf (s:SchemaR) (n:Str) (hl:s.defs.length≤2000000):vc Tryd.prog Γ 21 [1,2,4,5,6,8,9,10,11,18] (Tryd.f155.body.getD .skip) (postK Γ [.tmp 4] (fun v=>v = .i .i64 (defI s.defs n))) ⟨argSlots 0 [.agg (encSch s),.s n],[]⟩:=by
 (repeat' (first | (refine And.intro (fun h=>?_) (fun h=>?_)<;>(try simp [-List.getD_eq_getElem?_getD,-Int.pred_toNat] at h)<;>(try (exfalso; first | omega | contradiction))) | (refine And.intro (rng64 (by omega) (by omega)) ?_) | (refine And.intro ⟨by omega,by omega⟩ ?_) | (refine And.intro ⟨by omega,by omega,by omega⟩ ?_) | (intro _)))
 refine Exists.intro [] (Exists.intro [] (Exists.intro [] (Exists.intro Nat (Exists.intro (fun i=>i≤(s.defs).length∧(i≤s.defs.findIdx (fun d=>d.name == n))) (Exists.intro (fun i=>⟨[(1,.s n),(8,.rd .dfn s.defs),(9,.i .i64 s.defs.length),(10,.i .i64 i)],[]⟩) (Exists.intro (fun i=>(s.defs).length - i) (Exists.intro 0 (And.intro ⟨Nat.zero_le _,(Nat.zero_le _)⟩ (And.intro ?_ ?_)))))))))
 ·(repeat' (first | exact trivial | exact Or.inl rfl | exact Or.inr (Or.inl ⟨rfl,_,rfl⟩) | exact Or.inr (Or.inr (Or.inr ⟨_,_,_,rfl,rfl⟩)) | refine And.intro ?_ ?_))
 rintro i ⟨hi,hI⟩
 refine And.intro (fun hz=>?_) (fun hz=>?_)
 ·have hi:=ltD hz
  have hg:=getI (τ:=.dfn) hi
  refine And.intro ⟨by omega,by omega⟩ ?_
  rw [hg]
  cases hq:(s.defs[i].name == n) with
  | true =>
   have he:=ixD_hit (q:=fun d=>d.name == n) hi hI hq
   have hq2:s.defs[i].name = n:=eq_of_beq hq
   (repeat' (first | (refine And.intro (fun h=>?_) (fun h=>?_)<;>(try simp [-List.getD_eq_getElem?_getD,-Int.pred_toNat] at h)<;>(try (exfalso; first | omega | contradiction))) | (refine And.intro (rng64 (by omega) (by omega)) ?_) | (refine And.intro ⟨by omega,by omega⟩ ?_) | (refine And.intro ⟨by omega,by omega,by omega⟩ ?_) | (intro _)))
   refine congrArg (AV.i .i64) ?_
   unfold defI
   rw [he,if_pos hi]
  | false =>
   have he:=ixD_miss (q:=fun d=>d.name == n) hi hI hq
   have hq2:¬ s.defs[i].name = n:=ne_of_beq_false hq
   (repeat' (first | (refine And.intro (fun h=>?_) (fun h=>?_)<;>(try simp [-List.getD_eq_getElem?_getD,-Int.pred_toNat] at h)<;>(try (exfalso; first | omega | contradiction))) | (refine And.intro (rng64 (by omega) (by omega)) ?_) | (refine And.intro ⟨by omega,by omega⟩ ?_) | (refine And.intro ⟨by omega,by omega,by omega⟩ ?_) | (intro _)))
   refine Exists.intro [] (Exists.intro (_ + 1) (And.intro ⟨hi,he⟩ (And.intro ?_ ?_)))
   ·(repeat' (first | exact trivial | exact Or.inl rfl | exact Or.inr (Or.inl ⟨rfl,_,rfl⟩) | exact Or.inr (Or.inr (Or.inr ⟨_,_,_,rfl,rfl⟩)) | refine And.intro ?_ ?_))
   ·(exact Nat.sub_lt_sub_left (by omega) (by omega))
 ·(have hi:=geD hi hz)
  refine congrArg (AV.i .i64) ?_
  unfold defI
  rw [if_neg (by omega)]
theorem s_defOf (s:SchemaR) (n:Str) (hl:s.defs.length≤2000000):PSpec Tryd.prog 155 [.agg (encSch s),.s n] (.i .i64 (defI s.defs n)) :=
 pspec_of_vc Γ_good Tryd.func155 rfl Tryd.call155 Tryd.results155 Tryd.ntmps155 (Nat.le_of_ble_eq_true rfl) (w_defOf s n hl)
theorem w_withinR (t:TypR) (ht:t.t.length≤2000000) (hf:t.f.length≤2000000):vc Tryd.prog Γ 23 [1,2,3,5,10,11,12,13] (Tryd.f153.body.getD .skip) (postNK (τ:=.typ) Γ [.tmp 2] 1000 (Ty.inside t) []) ⟨argSlots 0 [.agg (encTyp t)],[]⟩:=by
 (repeat' (first | (refine And.intro (fun h=>?_) (fun h=>?_)<;>(try simp [-List.getD_eq_getElem?_getD,-Int.pred_toNat] at h)<;>(try (exfalso; first | omega | contradiction))) | (refine And.intro (rng64 (by omega) (by omega)) ?_) | (refine And.intro ⟨by omega,by omega⟩ ?_) | (refine And.intro ⟨by omega,by omega,by omega⟩ ?_) | (intro _)))
 refine And.intro (show t.t.length * 112≤140737488355328 by omega) ?_
 (repeat' (first | (refine And.intro (fun h=>?_) (fun h=>?_)<;>(try simp [-List.getD_eq_getElem?_getD,-Int.pred_toNat] at h)<;>(try (exfalso; first | omega | contradiction))) | (refine And.intro (rng64 (by omega) (by omega)) ?_) | (refine And.intro ⟨by omega,by omega⟩ ?_) | (refine And.intro ⟨by omega,by omega,by omega⟩ ?_) | (intro _)))
 refine Exists.intro [] (Exists.intro [] (Exists.intro [] (Exists.intro Nat (Exists.intro (fun i=>i≤(t.f).length∧(0≤i)) (Exists.intro (fun i=>⟨[(3,.vec 8 .typ (insI t i)),(10,.rd .fld t.f),(11,.i .i64 t.f.length),(12,.i .i64 i)],[]⟩) (Exists.intro (fun i=>(t.f).length - i) (Exists.intro 0 (And.intro ⟨Nat.zero_le _,(Nat.zero_le _)⟩ (And.intro ?_ ?_)))))))))
 ·(repeat' (first | exact trivial | exact Or.inl rfl | exact Or.inr (Or.inl ⟨rfl,_,rfl⟩) | exact Or.inr (Or.inr (Or.inr ⟨_,_,_,rfl,rfl⟩)) | refine And.intro ?_ ?_))
 rintro i ⟨hi,hI⟩
 refine And.intro (fun hz=>?_) (fun hz=>?_)
 ·have hi:=ltD hz
  have hg:=getI (τ:=.fld) hi
  refine And.intro ⟨by omega,by omega⟩ ?_
  rw [hg]
  have hn:=insI_len t i
  have hs:=insI_succ hi
  (repeat' (first | (refine And.intro (fun h=>?_) (fun h=>?_)<;>(try simp [-List.getD_eq_getElem?_getD,-Int.pred_toNat] at h)<;>(try (exfalso; first | omega | contradiction))) | (refine And.intro (rng64 (by omega) (by omega)) ?_) | (refine And.intro ⟨by omega,by omega⟩ ?_) | (refine And.intro ⟨by omega,by omega,by omega⟩ ?_) | (intro _)))
  refine And.intro (show ((insI t i).length + 1) * 112≤140737488355328 by omega) ?_
  (repeat' (first | (refine And.intro (fun h=>?_) (fun h=>?_)<;>(try simp [-List.getD_eq_getElem?_getD,-Int.pred_toNat] at h)<;>(try (exfalso; first | omega | contradiction))) | (refine And.intro (rng64 (by omega) (by omega)) ?_) | (refine And.intro ⟨by omega,by omega⟩ ?_) | (refine And.intro ⟨by omega,by omega,by omega⟩ ?_) | (intro _)))
  refine Exists.intro [(20,8)] (Exists.intro (_ + 1) (And.intro ⟨hi,Nat.zero_le _⟩ (And.intro ?_ ?_)))
  ·dsimp only
   rw [hs,etaT]
   (repeat' (first | exact trivial | exact Or.inl rfl | exact Or.inr (Or.inl ⟨rfl,_,rfl⟩) | exact Or.inr (Or.inr (Or.inr ⟨_,_,_,rfl,rfl⟩)) | refine And.intro ?_ ?_))
  ·(exact Nat.sub_lt_sub_left (by omega) (by omega))
 ·(have hi:=geD hi hz)
  have he:insI t i = Ty.inside t:=insI_end hi
  rw [he]
  refine Or.inl ?_
  refine Exists.intro [(8,1000)] (And.intro rfl (by (repeat' (first | exact trivial | exact Or.inl rfl | exact Or.inr (Or.inl ⟨rfl,_,rfl⟩) | exact Or.inr (Or.inr (Or.inr ⟨_,_,_,rfl,rfl⟩)) | refine And.intro ?_ ?_))))
theorem s_withinR (t:TypR) (ht:t.t.length≤2000000) (hf:t.f.length≤2000000):CSpec Tryd.prog 153 [.agg (encTyp t)] [] (.vec 1000 .typ (Ty.inside t)) [] :=
 cspec_of_vcN Γ_good Tryd.func153 rfl Tryd.call153 Tryd.results153 Tryd.ntmps153 (Nat.le_of_ble_eq_true rfl) (Nat.le_of_ble_eq_true rfl) (by rfl) (by rfl) (w_withinR t ht hf)
end
end Go.Proofs.YtdcdmojbkmedpaaDoor
end
section
namespace Go.Proofs.YtdcdmojbkmedpaaDoor
open Go Go.SX Go.Ck Go.Vl Go.Ut Go.Ty
set_option maxRecDepth 100000
set_option maxHeartbeats 4000000
def tellsK (a k:Int):Bool:=if k≤3 then a == 1 || a == k + 2 else if k = 4 then a == 1 || (a == 6 || a == 7) else if k = 5 then a == 1 || a == 8 else a == 1 || (a == 9 || a == 10)
section
variable [G:Globs]
theorem w_tells (t:TypR) (k:Int) (h0:0≤k) (h1:k≤6):vc Tryd.prog Γ 63 [1,2,4,5,6,23,38,48] (Tryd.f42.body.getD .skip) (postK Γ [.tmp 4] (fun v=>v = .b (tellsK t.kind k))) ⟨argSlots 0 [.agg (encTyp t),.i .i64 k],[]⟩:=by
 have hk:k = 0∨k = 1∨k = 2∨k = 3∨k = 4∨k = 5∨k = 6:=by omega
 rcases hk with rfl | rfl | rfl | rfl | rfl | rfl | rfl
 ·by_cases c1:t.kind = 1
  ·have hr:tellsK t.kind 0 = true:=by rw [c1]; rfl
   rw [hr]
   (repeat' (first | (refine And.intro (fun h=>?_) (fun h=>?_)<;>(try simp [-List.getD_eq_getElem?_getD,-Int.pred_toNat] at h)<;>(try (exfalso; first | omega | contradiction))) | (refine And.intro (rng64 (by omega) (by omega)) ?_) | (refine And.intro ⟨by omega,by omega⟩ ?_) | (refine And.intro ⟨by omega,by omega,by omega⟩ ?_) | (intro _)))
   refine Exists.intro [.blk [0,1,2,3,4,5,6,7,8,9,10,11,12] [17]] (And.intro (by kernel_rfl) ?_)
   (repeat' (first | (refine And.intro (fun h=>?_) (fun h=>?_)<;>(try simp [-List.getD_eq_getElem?_getD,-Int.pred_toNat] at h)<;>(try (exfalso; first | omega | contradiction))) | (refine And.intro (rng64 (by omega) (by omega)) ?_) | (refine And.intro ⟨by omega,by omega⟩ ?_) | (refine And.intro ⟨by omega,by omega,by omega⟩ ?_) | (intro _)))
   all_goals rfl
  by_cases c2:t.kind = 2
  ·have hr:tellsK t.kind 0 = true:=by rw [c2]; rfl
   rw [hr]
   (repeat' (first | (refine And.intro (fun h=>?_) (fun h=>?_)<;>(try simp [-List.getD_eq_getElem?_getD,-Int.pred_toNat] at h)<;>(try (exfalso; first | omega | contradiction))) | (refine And.intro (rng64 (by omega) (by omega)) ?_) | (refine And.intro ⟨by omega,by omega⟩ ?_) | (refine And.intro ⟨by omega,by omega,by omega⟩ ?_) | (intro _)))
   refine Exists.intro [.blk [0,1,2,3,4,5,6,7,8,9,10,11,12] [17]] (And.intro (by kernel_rfl) ?_)
   (repeat' (first | (refine And.intro (fun h=>?_) (fun h=>?_)<;>(try simp [-List.getD_eq_getElem?_getD,-Int.pred_toNat] at h)<;>(try (exfalso; first | omega | contradiction))) | (refine And.intro (rng64 (by omega) (by omega)) ?_) | (refine And.intro ⟨by omega,by omega⟩ ?_) | (refine And.intro ⟨by omega,by omega,by omega⟩ ?_) | (intro _)))
   refine And.intro (And.intro (show (0:Int)≤0 by decide) (show (0:Int) < 4 by decide)) ?_
   (repeat' (first | (refine And.intro (fun h=>?_) (fun h=>?_)<;>(try simp [-List.getD_eq_getElem?_getD,-Int.pred_toNat] at h)<;>(try (exfalso; first | omega | contradiction))) | (refine And.intro (rng64 (by omega) (by omega)) ?_) | (refine And.intro ⟨by omega,by omega⟩ ?_) | (refine And.intro ⟨by omega,by omega,by omega⟩ ?_) | (intro _)))
   refine congrArg AV.b ?_
   show (t.kind == 2) = true
   exact beq_iff_eq.2 c2
  have hr:tellsK t.kind 0 = false:=by
   show (t.kind == 1 || t.kind == 2) = false
   rw [beq_eq_false_iff_ne.2 c1,beq_eq_false_iff_ne.2 c2]
   rfl
  rw [hr]
  (repeat' (first | (refine And.intro (fun h=>?_) (fun h=>?_)<;>(try simp [-List.getD_eq_getElem?_getD,-Int.pred_toNat] at h)<;>(try (exfalso; first | omega | contradiction))) | (refine And.intro (rng64 (by omega) (by omega)) ?_) | (refine And.intro ⟨by omega,by omega⟩ ?_) | (refine And.intro ⟨by omega,by omega,by omega⟩ ?_) | (intro _)))
  refine Exists.intro [.blk [0,1,2,3,4,5,6,7,8,9,10,11,12] [17]] (And.intro (by kernel_rfl) ?_)
  (repeat' (first | (refine And.intro (fun h=>?_) (fun h=>?_)<;>(try simp [-List.getD_eq_getElem?_getD,-Int.pred_toNat] at h)<;>(try (exfalso; first | omega | contradiction))) | (refine And.intro (rng64 (by omega) (by omega)) ?_) | (refine And.intro ⟨by omega,by omega⟩ ?_) | (refine And.intro ⟨by omega,by omega,by omega⟩ ?_) | (intro _)))
  refine And.intro (And.intro (show (0:Int)≤0 by decide) (show (0:Int) < 4 by decide)) ?_
  (repeat' (first | (refine And.intro (fun h=>?_) (fun h=>?_)<;>(try simp [-List.getD_eq_getElem?_getD,-Int.pred_toNat] at h)<;>(try (exfalso; first | omega | contradiction))) | (refine And.intro (rng64 (by omega) (by omega)) ?_) | (refine And.intro ⟨by omega,by omega⟩ ?_) | (refine And.intro ⟨by omega,by omega,by omega⟩ ?_) | (intro _)))
  refine congrArg AV.b ?_
  show (t.kind == 2) = false
  exact beq_eq_false_iff_ne.2 c2
 ·by_cases c1:t.kind = 1
  ·have hr:tellsK t.kind 1 = true:=by rw [c1]; rfl
   rw [hr]
   (repeat' (first | (refine And.intro (fun h=>?_) (fun h=>?_)<;>(try simp [-List.getD_eq_getElem?_getD,-Int.pred_toNat] at h)<;>(try (exfalso; first | omega | contradiction))) | (refine And.intro (rng64 (by omega) (by omega)) ?_) | (refine And.intro ⟨by omega,by omega⟩ ?_) | (refine And.intro ⟨by omega,by omega,by omega⟩ ?_) | (intro _)))
   refine Exists.intro [.blk [0,1,2,3,4,5,6,7,8,9,10,11,12] [17]] (And.intro (by kernel_rfl) ?_)
   (repeat' (first | (refine And.intro (fun h=>?_) (fun h=>?_)<;>(try simp [-List.getD_eq_getElem?_getD,-Int.pred_toNat] at h)<;>(try (exfalso; first | omega | contradiction))) | (refine And.intro (rng64 (by omega) (by omega)) ?_) | (refine And.intro ⟨by omega,by omega⟩ ?_) | (refine And.intro ⟨by omega,by omega,by omega⟩ ?_) | (intro _)))
   all_goals rfl
  by_cases c3:t.kind = 3
  ·have hr:tellsK t.kind 1 = true:=by rw [c3]; rfl
   rw [hr]
   (repeat' (first | (refine And.intro (fun h=>?_) (fun h=>?_)<;>(try simp [-List.getD_eq_getElem?_getD,-Int.pred_toNat] at h)<;>(try (exfalso; first | omega | contradiction))) | (refine And.intro (rng64 (by omega) (by omega)) ?_) | (refine And.intro ⟨by omega,by omega⟩ ?_) | (refine And.intro ⟨by omega,by omega,by omega⟩ ?_) | (intro _)))
   refine Exists.intro [.blk [0,1,2,3,4,5,6,7,8,9,10,11,12] [17]] (And.intro (by kernel_rfl) ?_)
   (repeat' (first | (refine And.intro (fun h=>?_) (fun h=>?_)<;>(try simp [-List.getD_eq_getElem?_getD,-Int.pred_toNat] at h)<;>(try (exfalso; first | omega | contradiction))) | (refine And.intro (rng64 (by omega) (by omega)) ?_) | (refine And.intro ⟨by omega,by omega⟩ ?_) | (refine And.intro ⟨by omega,by omega,by omega⟩ ?_) | (intro _)))
   refine And.intro (And.intro (show (0:Int)≤1 by decide) (show (1:Int) < 4 by decide)) ?_
   (repeat' (first | (refine And.intro (fun h=>?_) (fun h=>?_)<;>(try simp [-List.getD_eq_getElem?_getD,-Int.pred_toNat] at h)<;>(try (exfalso; first | omega | contradiction))) | (refine And.intro (rng64 (by omega) (by omega)) ?_) | (refine And.intro ⟨by omega,by omega⟩ ?_) | (refine And.intro ⟨by omega,by omega,by omega⟩ ?_) | (intro _)))
   refine congrArg AV.b ?_
   show (t.kind == 3) = true
   exact beq_iff_eq.2 c3
  have hr:tellsK t.kind 1 = false:=by
   show (t.kind == 1 || t.kind == 3) = false
   rw [beq_eq_false_iff_ne.2 c1,beq_eq_false_iff_ne.2 c3]
   rfl
  rw [hr]
  (repeat' (first | (refine And.intro (fun h=>?_) (fun h=>?_)<;>(try simp [-List.getD_eq_getElem?_getD,-Int.pred_toNat] at h)<;>(try (exfalso; first | omega | contradiction))) | (refine And.intro (rng64 (by omega) (by omega)) ?_) | (refine And.intro ⟨by omega,by omega⟩ ?_) | (refine And.intro ⟨by omega,by omega,by omega⟩ ?_) | (intro _)))
  refine Exists.intro [.blk [0,1,2,3,4,5,6,7,8,9,10,11,12] [17]] (And.intro (by kernel_rfl) ?_)
  (repeat' (first | (refine And.intro (fun h=>?_) (fun h=>?_)<;>(try simp [-List.getD_eq_getElem?_getD,-Int.pred_toNat] at h)<;>(try (exfalso; first | omega | contradiction))) | (refine And.intro (rng64 (by omega) (by omega)) ?_) | (refine And.intro ⟨by omega,by omega⟩ ?_) | (refine And.intro ⟨by omega,by omega,by omega⟩ ?_) | (intro _)))
  refine And.intro (And.intro (show (0:Int)≤1 by decide) (show (1:Int) < 4 by decide)) ?_
  (repeat' (first | (refine And.intro (fun h=>?_) (fun h=>?_)<;>(try simp [-List.getD_eq_getElem?_getD,-Int.pred_toNat] at h)<;>(try (exfalso; first | omega | contradiction))) | (refine And.intro (rng64 (by omega) (by omega)) ?_) | (refine And.intro ⟨by omega,by omega⟩ ?_) | (refine And.intro ⟨by omega,by omega,by omega⟩ ?_) | (intro _)))
  refine congrArg AV.b ?_
  show (t.kind == 3) = false
  exact beq_eq_false_iff_ne.2 c3
 ·by_cases c1:t.kind = 1
  ·have hr:tellsK t.kind 2 = true:=by rw [c1]; rfl
   rw [hr]
   (repeat' (first | (refine And.intro (fun h=>?_) (fun h=>?_)<;>(try simp [-List.getD_eq_getElem?_getD,-Int.pred_toNat] at h)<;>(try (exfalso; first | omega | contradiction))) | (refine And.intro (rng64 (by omega) (by omega)) ?_) | (refine And.intro ⟨by omega,by omega⟩ ?_) | (refine And.intro ⟨by omega,by omega,by omega⟩ ?_) | (intro _)))
   refine Exists.intro [.blk [0,1,2,3,4,5,6,7,8,9,10,11,12] [17]] (And.intro (by kernel_rfl) ?_)
   (repeat' (first | (refine And.intro (fun h=>?_) (fun h=>?_)<;>(try simp [-List.getD_eq_getElem?_getD,-Int.pred_toNat] at h)<;>(try (exfalso; first | omega | contradiction))) | (refine And.intro (rng64 (by omega) (by omega)) ?_) | (refine And.intro ⟨by omega,by omega⟩ ?_) | (refine And.intro ⟨by omega,by omega,by omega⟩ ?_) | (intro _)))
   all_goals rfl
  by_cases c4:t.kind = 4
  ·have hr:tellsK t.kind 2 = true:=by rw [c4]; rfl
   rw [hr]
   (repeat' (first | (refine And.intro (fun h=>?_) (fun h=>?_)<;>(try simp [-List.getD_eq_getElem?_getD,-Int.pred_toNat] at h)<;>(try (exfalso; first | omega | contradiction))) | (refine And.intro (rng64 (by omega) (by omega)) ?_) | (refine And.intro ⟨by omega,by omega⟩ ?_) | (refine And.intro ⟨by omega,by omega,by omega⟩ ?_) | (intro _)))
   refine Exists.intro [.blk [0,1,2,3,4,5,6,7,8,9,10,11,12] [17]] (And.intro (by kernel_rfl) ?_)
   (repeat' (first | (refine And.intro (fun h=>?_) (fun h=>?_)<;>(try simp [-List.getD_eq_getElem?_getD,-Int.pred_toNat] at h)<;>(try (exfalso; first | omega | contradiction))) | (refine And.intro (rng64 (by omega) (by omega)) ?_) | (refine And.intro ⟨by omega,by omega⟩ ?_) | (refine And.intro ⟨by omega,by omega,by omega⟩ ?_) | (intro _)))
   refine And.intro (And.intro (show (0:Int)≤2 by decide) (show (2:Int) < 4 by decide)) ?_
   (repeat' (first | (refine And.intro (fun h=>?_) (fun h=>?_)<;>(try simp [-List.getD_eq_getElem?_getD,-Int.pred_toNat] at h)<;>(try (exfalso; first | omega | contradiction))) | (refine And.intro (rng64 (by omega) (by omega)) ?_) | (refine And.intro ⟨by omega,by omega⟩ ?_) | (refine And.intro ⟨by omega,by omega,by omega⟩ ?_) | (intro _)))
   refine congrArg AV.b ?_
   show (t.kind == 4) = true
   exact beq_iff_eq.2 c4
  have hr:tellsK t.kind 2 = false:=by
   show (t.kind == 1 || t.kind == 4) = false
   rw [beq_eq_false_iff_ne.2 c1,beq_eq_false_iff_ne.2 c4]
   rfl
  rw [hr]
  (repeat' (first | (refine And.intro (fun h=>?_) (fun h=>?_)<;>(try simp [-List.getD_eq_getElem?_getD,-Int.pred_toNat] at h)<;>(try (exfalso; first | omega | contradiction))) | (refine And.intro (rng64 (by omega) (by omega)) ?_) | (refine And.intro ⟨by omega,by omega⟩ ?_) | (refine And.intro ⟨by omega,by omega,by omega⟩ ?_) | (intro _)))
  refine Exists.intro [.blk [0,1,2,3,4,5,6,7,8,9,10,11,12] [17]] (And.intro (by kernel_rfl) ?_)
  (repeat' (first | (refine And.intro (fun h=>?_) (fun h=>?_)<;>(try simp [-List.getD_eq_getElem?_getD,-Int.pred_toNat] at h)<;>(try (exfalso; first | omega | contradiction))) | (refine And.intro (rng64 (by omega) (by omega)) ?_) | (refine And.intro ⟨by omega,by omega⟩ ?_) | (refine And.intro ⟨by omega,by omega,by omega⟩ ?_) | (intro _)))
  refine And.intro (And.intro (show (0:Int)≤2 by decide) (show (2:Int) < 4 by decide)) ?_
  (repeat' (first | (refine And.intro (fun h=>?_) (fun h=>?_)<;>(try simp [-List.getD_eq_getElem?_getD,-Int.pred_toNat] at h)<;>(try (exfalso; first | omega | contradiction))) | (refine And.intro (rng64 (by omega) (by omega)) ?_) | (refine And.intro ⟨by omega,by omega⟩ ?_) | (refine And.intro ⟨by omega,by omega,by omega⟩ ?_) | (intro _)))
  refine congrArg AV.b ?_
  show (t.kind == 4) = false
  exact beq_eq_false_iff_ne.2 c4
 ·by_cases c1:t.kind = 1
  ·have hr:tellsK t.kind 3 = true:=by rw [c1]; rfl
   rw [hr]
   (repeat' (first | (refine And.intro (fun h=>?_) (fun h=>?_)<;>(try simp [-List.getD_eq_getElem?_getD,-Int.pred_toNat] at h)<;>(try (exfalso; first | omega | contradiction))) | (refine And.intro (rng64 (by omega) (by omega)) ?_) | (refine And.intro ⟨by omega,by omega⟩ ?_) | (refine And.intro ⟨by omega,by omega,by omega⟩ ?_) | (intro _)))
   refine Exists.intro [.blk [0,1,2,3,4,5,6,7,8,9,10,11,12] [17]] (And.intro (by kernel_rfl) ?_)
   (repeat' (first | (refine And.intro (fun h=>?_) (fun h=>?_)<;>(try simp [-List.getD_eq_getElem?_getD,-Int.pred_toNat] at h)<;>(try (exfalso; first | omega | contradiction))) | (refine And.intro (rng64 (by omega) (by omega)) ?_) | (refine And.intro ⟨by omega,by omega⟩ ?_) | (refine And.intro ⟨by omega,by omega,by omega⟩ ?_) | (intro _)))
   all_goals rfl
  by_cases c5:t.kind = 5
  ·have hr:tellsK t.kind 3 = true:=by rw [c5]; rfl
   rw [hr]
   (repeat' (first | (refine And.intro (fun h=>?_) (fun h=>?_)<;>(try simp [-List.getD_eq_getElem?_getD,-Int.pred_toNat] at h)<;>(try (exfalso; first | omega | contradiction))) | (refine And.intro (rng64 (by omega) (by omega)) ?_) | (refine And.intro ⟨by omega,by omega⟩ ?_) | (refine And.intro ⟨by omega,by omega,by omega⟩ ?_) | (intro _)))
   refine Exists.intro [.blk [0,1,2,3,4,5,6,7,8,9,10,11,12] [17]] (And.intro (by kernel_rfl) ?_)
   (repeat' (first | (refine And.intro (fun h=>?_) (fun h=>?_)<;>(try simp [-List.getD_eq_getElem?_getD,-Int.pred_toNat] at h)<;>(try (exfalso; first | omega | contradiction))) | (refine And.intro (rng64 (by omega) (by omega)) ?_) | (refine And.intro ⟨by omega,by omega⟩ ?_) | (refine And.intro ⟨by omega,by omega,by omega⟩ ?_) | (intro _)))
   refine And.intro (And.intro (show (0:Int)≤3 by decide) (show (3:Int) < 4 by decide)) ?_
   (repeat' (first | (refine And.intro (fun h=>?_) (fun h=>?_)<;>(try simp [-List.getD_eq_getElem?_getD,-Int.pred_toNat] at h)<;>(try (exfalso; first | omega | contradiction))) | (refine And.intro (rng64 (by omega) (by omega)) ?_) | (refine And.intro ⟨by omega,by omega⟩ ?_) | (refine And.intro ⟨by omega,by omega,by omega⟩ ?_) | (intro _)))
   refine congrArg AV.b ?_
   show (t.kind == 5) = true
   exact beq_iff_eq.2 c5
  have hr:tellsK t.kind 3 = false:=by
   show (t.kind == 1 || t.kind == 5) = false
   rw [beq_eq_false_iff_ne.2 c1,beq_eq_false_iff_ne.2 c5]
   rfl
  rw [hr]
  (repeat' (first | (refine And.intro (fun h=>?_) (fun h=>?_)<;>(try simp [-List.getD_eq_getElem?_getD,-Int.pred_toNat] at h)<;>(try (exfalso; first | omega | contradiction))) | (refine And.intro (rng64 (by omega) (by omega)) ?_) | (refine And.intro ⟨by omega,by omega⟩ ?_) | (refine And.intro ⟨by omega,by omega,by omega⟩ ?_) | (intro _)))
  refine Exists.intro [.blk [0,1,2,3,4,5,6,7,8,9,10,11,12] [17]] (And.intro (by kernel_rfl) ?_)
  (repeat' (first | (refine And.intro (fun h=>?_) (fun h=>?_)<;>(try simp [-List.getD_eq_getElem?_getD,-Int.pred_toNat] at h)<;>(try (exfalso; first | omega | contradiction))) | (refine And.intro (rng64 (by omega) (by omega)) ?_) | (refine And.intro ⟨by omega,by omega⟩ ?_) | (refine And.intro ⟨by omega,by omega,by omega⟩ ?_) | (intro _)))
  refine And.intro (And.intro (show (0:Int)≤3 by decide) (show (3:Int) < 4 by decide)) ?_
  (repeat' (first | (refine And.intro (fun h=>?_) (fun h=>?_)<;>(try simp [-List.getD_eq_getElem?_getD,-Int.pred_toNat] at h)<;>(try (exfalso; first | omega | contradiction))) | (refine And.intro (rng64 (by omega) (by omega)) ?_) | (refine And.intro ⟨by omega,by omega⟩ ?_) | (refine And.intro ⟨by omega,by omega,by omega⟩ ?_) | (intro _)))
  refine congrArg AV.b ?_
  show (t.kind == 5) = false
  exact beq_eq_false_iff_ne.2 c5
 ·by_cases c1:t.kind = 1
  ·have hr:tellsK t.kind 4 = true:=by rw [c1]; rfl
   rw [hr]
   (repeat' (first | (refine And.intro (fun h=>?_) (fun h=>?_)<;>(try simp [-List.getD_eq_getElem?_getD,-Int.pred_toNat] at h)<;>(try (exfalso; first | omega | contradiction))) | (refine And.intro (rng64 (by omega) (by omega)) ?_) | (refine And.intro ⟨by omega,by omega⟩ ?_) | (refine And.intro ⟨by omega,by omega,by omega⟩ ?_) | (intro _)))
   all_goals rfl
  by_cases c6:t.kind = 6
  ·have hr:tellsK t.kind 4 = true:=by rw [c6]; rfl
   rw [hr]
   (repeat' (first | (refine And.intro (fun h=>?_) (fun h=>?_)<;>(try simp [-List.getD_eq_getElem?_getD,-Int.pred_toNat] at h)<;>(try (exfalso; first | omega | contradiction))) | (refine And.intro (rng64 (by omega) (by omega)) ?_) | (refine And.intro ⟨by omega,by omega⟩ ?_) | (refine And.intro ⟨by omega,by omega,by omega⟩ ?_) | (intro _)))
   all_goals rfl
  by_cases c7:t.kind = 7
  ·have hr:tellsK t.kind 4 = true:=by rw [c7]; rfl
   rw [hr]
   (repeat' (first | (refine And.intro (fun h=>?_) (fun h=>?_)<;>(try simp [-List.getD_eq_getElem?_getD,-Int.pred_toNat] at h)<;>(try (exfalso; first | omega | contradiction))) | (refine And.intro (rng64 (by omega) (by omega)) ?_) | (refine And.intro ⟨by omega,by omega⟩ ?_) | (refine And.intro ⟨by omega,by omega,by omega⟩ ?_) | (intro _)))
   show AV.b (t.kind == 7) = AV.b true
   rw [beq_iff_eq.2 c7]
  have hr:tellsK t.kind 4 = false:=by
   show (t.kind == 1 || (t.kind == 6 || t.kind == 7)) = false
   rw [beq_eq_false_iff_ne.2 c1,beq_eq_false_iff_ne.2 c6,beq_eq_false_iff_ne.2 c7]
   rfl
  rw [hr]
  (repeat' (first | (refine And.intro (fun h=>?_) (fun h=>?_)<;>(try simp [-List.getD_eq_getElem?_getD,-Int.pred_toNat] at h)<;>(try (exfalso; first | omega | contradiction))) | (refine And.intro (rng64 (by omega) (by omega)) ?_) | (refine And.intro ⟨by omega,by omega⟩ ?_) | (refine And.intro ⟨by omega,by omega,by omega⟩ ?_) | (intro _)))
  show AV.b (t.kind == 7) = AV.b false
  rw [beq_eq_false_iff_ne.2 c7]
 ·by_cases c1:t.kind = 1
  ·have hr:tellsK t.kind 5 = true:=by rw [c1]; rfl
   rw [hr]
   (repeat' (first | (refine And.intro (fun h=>?_) (fun h=>?_)<;>(try simp [-List.getD_eq_getElem?_getD,-Int.pred_toNat] at h)<;>(try (exfalso; first | omega | contradiction))) | (refine And.intro (rng64 (by omega) (by omega)) ?_) | (refine And.intro ⟨by omega,by omega⟩ ?_) | (refine And.intro ⟨by omega,by omega,by omega⟩ ?_) | (intro _)))
   all_goals rfl
  by_cases c8:t.kind = 8
  ·have hr:tellsK t.kind 5 = true:=by rw [c8]; rfl
   rw [hr]
   (repeat' (first | (refine And.intro (fun h=>?_) (fun h=>?_)<;>(try simp [-List.getD_eq_getElem?_getD,-Int.pred_toNat] at h)<;>(try (exfalso; first | omega | contradiction))) | (refine And.intro (rng64 (by omega) (by omega)) ?_) | (refine And.intro ⟨by omega,by omega⟩ ?_) | (refine And.intro ⟨by omega,by omega,by omega⟩ ?_) | (intro _)))
   show AV.b (t.kind == 8) = AV.b true
   rw [beq_iff_eq.2 c8]
  have hr:tellsK t.kind 5 = false:=by
   show (t.kind == 1 || t.kind == 8) = false
   rw [beq_eq_false_iff_ne.2 c1,beq_eq_false_iff_ne.2 c8]
   rfl
  rw [hr]
  (repeat' (first | (refine And.intro (fun h=>?_) (fun h=>?_)<;>(try simp [-List.getD_eq_getElem?_getD,-Int.pred_toNat] at h)<;>(try (exfalso; first | omega | contradiction))) | (refine And.intro (rng64 (by omega) (by omega)) ?_) | (refine And.intro ⟨by omega,by omega⟩ ?_) | (refine And.intro ⟨by omega,by omega,by omega⟩ ?_) | (intro _)))
  show AV.b (t.kind == 8) = AV.b false
  rw [beq_eq_false_iff_ne.2 c8]
 ·by_cases c1:t.kind = 1
  ·have hr:tellsK t.kind 6 = true:=by rw [c1]; rfl
   rw [hr]
   (repeat' (first | (refine And.intro (fun h=>?_) (fun h=>?_)<;>(try simp [-List.getD_eq_getElem?_getD,-Int.pred_toNat] at h)<;>(try (exfalso; first | omega | contradiction))) | (refine And.intro (rng64 (by omega) (by omega)) ?_) | (refine And.intro ⟨by omega,by omega⟩ ?_) | (refine And.intro ⟨by omega,by omega,by omega⟩ ?_) | (intro _)))
   all_goals rfl
  by_cases c9:t.kind = 9
  ·have hr:tellsK t.kind 6 = true:=by rw [c9]; rfl
   rw [hr]
   (repeat' (first | (refine And.intro (fun h=>?_) (fun h=>?_)<;>(try simp [-List.getD_eq_getElem?_getD,-Int.pred_toNat] at h)<;>(try (exfalso; first | omega | contradiction))) | (refine And.intro (rng64 (by omega) (by omega)) ?_) | (refine And.intro ⟨by omega,by omega⟩ ?_) | (refine And.intro ⟨by omega,by omega,by omega⟩ ?_) | (intro _)))
   all_goals rfl
  by_cases c10:t.kind = 10
  ·have hr:tellsK t.kind 6 = true:=by rw [c10]; rfl
   rw [hr]
   (repeat' (first | (refine And.intro (fun h=>?_) (fun h=>?_)<;>(try simp [-List.getD_eq_getElem?_getD,-Int.pred_toNat] at h)<;>(try (exfalso; first | omega | contradiction))) | (refine And.intro (rng64 (by omega) (by omega)) ?_) | (refine And.intro ⟨by omega,by omega⟩ ?_) | (refine And.intro ⟨by omega,by omega,by omega⟩ ?_) | (intro _)))
   show AV.b (t.kind == 10) = AV.b true
   rw [beq_iff_eq.2 c10]
  have hr:tellsK t.kind 6 = false:=by
   show (t.kind == 1 || (t.kind == 9 || t.kind == 10)) = false
   rw [beq_eq_false_iff_ne.2 c1,beq_eq_false_iff_ne.2 c9,beq_eq_false_iff_ne.2 c10]
   rfl
  rw [hr]
  (repeat' (first | (refine And.intro (fun h=>?_) (fun h=>?_)<;>(try simp [-List.getD_eq_getElem?_getD,-Int.pred_toNat] at h)<;>(try (exfalso; first | omega | contradiction))) | (refine And.intro (rng64 (by omega) (by omega)) ?_) | (refine And.intro ⟨by omega,by omega⟩ ?_) | (refine And.intro ⟨by omega,by omega,by omega⟩ ?_) | (intro _)))
  show AV.b (t.kind == 10) = AV.b false
  rw [beq_eq_false_iff_ne.2 c10]
theorem s_tells (t:TypR) (k:Int) (h0:0≤k) (h1:k≤6):PSpec Tryd.prog 42 [.agg (encTyp t),.i .i64 k] (.b (tellsK t.kind k)) :=
 pspec_of_vc Γ_good Tryd.func42 rfl Tryd.call42 Tryd.results42 Tryd.ntmps42 (Nat.le_of_ble_eq_true rfl) (w_tells t k h0 h1)
end
end Go.Proofs.YtdcdmojbkmedpaaDoor
end
section
namespace Go.Ty
theorem szB {n b:Nat} (h1:n≤1000000000) (h2:b≤100000):n * b≤140737488355328:=Nat.le_trans (Nat.mul_le_mul h1 h2) (by decide)
open Go Go.SX Go.Ck Go.Vl Go.Ut
/-! all types, from a list of places -/
def goneF (l:List TPlace):List TPlace:=l.flatMap fun p=>preT p.t p.around
theorem goneF_step (x:TPlace) (r:List TPlace):goneF (x::r) = x::goneF ((inside x.t).map (fun y=>(⟨y,x.around + 1⟩:TPlace))++r):=by
 unfold goneF
 rw [List.flatMap_cons,preT_eq,List.flatMap_append,List.cons_append,List.flatMap_map]
theorem scan_take (l:List DefR):∀ (ps:List TPlace) (m:Nat),m≤200→scan l (ps.take (201 - m)) (m:Int) = scan l ps (m:Int):=by
 intro ps
 induction ps with
 | nil=>intro m _; rw [List.take_nil]
 | cons p r ih =>
  intro m hm
  rw [show 201 - m = (200 - m) + 1 by omega,List.take_succ_cons,scan,scan]
  by_cases c:lookF l p m≠0
  ·rw [if_pos c,if_pos c]
  ·rw [if_neg c,if_neg c]
   have h1:m + 1≤200:=by
    refine Nat.le_of_not_lt fun h=>c ?_
    unfold lookF
    rw [if_pos (by omega)]
    decide
   have:=ih (m + 1) h1
   rw [show 201 - (m + 1) = 200 - m by omega] at this
   exact this
theorem gone_end {A all todo:List TPlace} (h:all++goneF todo = A) (hl:all.length≤201) (he:todo = []∨all.length = 201):all = A.take 201:=by
 subst h
 rcases he with rfl | he
 ·show all = (all++[]).take 201
  rw [List.append_nil,List.take_of_length_le hl]
 ·rw [List.take_append_of_le_length (by omega),List.take_of_length_le hl]
/-! what a list of types comes to -/
theorem comeL_append (f:TypR→Met→List TypR × Met):∀ (a b:List TypR) (es:Met),comeL f (a++b) es = ((comeL f a es).1++(comeL f b (comeL f a es).2).1,(comeL f b (comeL f a es).2).2)
 | [],_,_=>rfl
 | x::r,b,es=>by
  rw [List.cons_append,comeL,comeL_append f r b,comeL]
  simp only [List.append_assoc]
theorem comeL_congr {f g:TypR→Met→List TypR × Met} (hm:∀ x es n,met es n = true→met (f x es).2 n = true):∀ (r:List TypR) (es:Met),(∀ x ∈ r,∀ fs:Met,(∀ n,met es n = true→met fs n = true)→g x fs = f x fs)→comeL g r es = comeL f r es
 | [],_,_=>rfl
 | x::r,es,h=>by
  rw [comeL,comeL,h x (List.mem_cons_self ..) es (fun _ h=>h),comeL_congr hm r _ fun y hy fs hf=>h y (List.mem_cons_of_mem _ hy) fs fun n hn=>hf n (hm x es n hn)]
theorem come_step (l:List DefR) (k:Nat) (t:TypR) (es:Met):comeF l (k + 1) t es = if t.kind = 12 then (if met es t.name = true then ([],es) else comeF l k (defT l t.name) (meet es t.name)) else if t.kind = 11 then comeL (comeF l k) t.t es else ([t],es):=rfl
theorem come_fuel {l:List DefR} (hl:∀ d ∈ l,CT l d.t):∀ (k:Nat) (t:TypR) (es:Met),CT l t→need l t es < k→comeF l (k + 1) t es = comeF l k t es:=by
 intro k
 induction k with
 | zero=>intro t es _ h; exact absurd h (Nat.not_lt_zero _)
 | succ k ih =>
  intro t es ht hk
  rw [come_step l (k + 1) t es,come_step l k t es]
  by_cases c1:t.kind = 12
  ·rw [if_pos c1,if_pos c1]
   by_cases c2:met es t.name = true
   ·rw [if_pos c2,if_pos c2]
   ·rw [if_neg c2,if_neg c2]
    have h0:0≤defI l t.name:=by cases ht with | mk _ _ h _=>exact h c1
    have:=need_ref h0 (es:=es) (by simpa using c2)
    exact ih _ _ (CT.defT hl h0) (by omega)
  ·rw [if_neg c1,if_neg c1]
   by_cases c3:t.kind = 11
   ·rw [if_pos c3,if_pos c3]
    refine comeL_congr (come_met l k) _ _ fun x hx fs hf=>ih x fs (ht.part x hx) ?_
    have:=need_part (l:=l) (es:=es) (fs:=fs) hx hf
    omega
   ·rw [if_neg c3,if_neg c3]
noncomputable def szL (r:List TypR):Nat:=(r.map fun t=>SizeOf.sizeOf t).sum
theorem szL_cons (x:TypR) (r:List TypR):szL (x::r) = SizeOf.sizeOf x + szL r:=by unfold szL; rw [List.map_cons,List.sum_cons]
theorem szL_append (a b:List TypR):szL (a++b) = szL a + szL b:=by unfold szL; rw [List.map_append,List.sum_append]
theorem szL_le:∀ r:List TypR,szL r < SizeOf.sizeOf r
 | []=>by show 0 < _; simp
 | x::r=>by
  have:=szL_le r
  rw [szL_cons,List.cons.sizeOf_spec]
  omega
theorem szL_part (t:TypR):szL t.t < SizeOf.sizeOf t:=by
 have:=szL_le t.t
 obtain ⟨k,lo,hi,tx,tt,ff,n⟩:=t
 simp only [TypR.mk.sizeOf_spec] at *
 omega
theorem sz_pos (t:TypR):0 < SizeOf.sizeOf t:=by cases t; simp only [TypR.mk.sizeOf_spec]; omega
noncomputable def wkN (l:List DefR) (r:List TypR) (es:Met):Nat:=szL r + rest (fun d=>SizeOf.sizeOf d.t + 1) l es
theorem need_wk (l:List DefR) (t:TypR) (es:Met):wkN l [t] es = need l t es:=by unfold wkN need; rw [szL_cons]; show SizeOf.sizeOf t + 0 + _ = _; omega
section
variable {l:List DefR} (hl:∀ d ∈ l,CT l d.t)
theorem wk_part {k:Nat} {x:TypR} {r:List TypR} {es:Met} (h1:¬ x.kind = 12) (h2:¬ x.kind = 11):comeL (comeF l (k + 1)) (x::r) es = (x::(comeL (comeF l (k + 1)) r es).1,(comeL (comeF l (k + 1)) r es).2):=by
 have e:comeF l (k + 1) x es = ([x],es):=by rw [come_step,if_neg h1,if_neg h2]
 rw [comeL,e]
 rfl
theorem wk_met {k:Nat} {x:TypR} {r:List TypR} {es:Met} (h1:x.kind = 12) (h2:met es x.name = true):comeL (comeF l (k + 1)) (x::r) es = comeL (comeF l (k + 1)) r es:=by
 have e:comeF l (k + 1) x es = ([],es):=by rw [come_step,if_pos h1,if_pos h2]
 rw [comeL,e]
 rfl
include hl in
theorem wk_name {k:Nat} {x:TypR} {r:List TypR} {es:Met} (hx:CT l x) (hk:wkN l (x::r) es < k + 1) (h1:x.kind = 12) (h2:met es x.name = false):comeL (comeF l (k + 1)) (x::r) es = comeL (comeF l (k + 1)) (defT l x.name::r) (meet es x.name):=by
 have h0:0≤defI l x.name:=by cases hx with | mk _ _ h _=>exact h h1
 have hn:=need_ref h0 (es:=es) h2
 have hw:need l x es≤wkN l (x::r) es:=by unfold need wkN; rw [szL_cons]; omega
 have e:comeF l (k + 1) x es = comeF l (k + 1) (defT l x.name) (meet es x.name):=by
  rw [come_fuel hl k _ _ (CT.defT hl h0) (by omega),come_step l k x es,if_pos h1,if_neg (by rw [h2]; decide)]
 rw [comeL,e,comeL]
include hl in
theorem wk_union {k:Nat} {x:TypR} {r:List TypR} {es:Met} (hx:CT l x) (hk:wkN l (x::r) es < k + 1) (h1:x.kind = 11):comeL (comeF l (k + 1)) (x::r) es = comeL (comeF l (k + 1)) (x.t++r) es:=by
 have hw:need l x es≤wkN l (x::r) es:=by unfold need wkN; rw [szL_cons]; omega
 have e:comeF l (k + 1) x es = comeL (comeF l (k + 1)) x.t es:=by
  rw [come_step l k x es,if_neg (by omega),if_pos h1]
  refine (comeL_congr (come_met l k) _ _ fun y hy fs hf=>come_fuel hl k y fs (hx.part y hy) ?_).symm
  have:=need_part (l:=l) (es:=es) (fs:=fs) hy hf
  omega
 rw [comeL,e,comeL_append]
theorem wkN_name {x:TypR} {r:List TypR} {es:Met} (hx:CT l x) (h1:x.kind = 12) (h2:met es x.name = false):wkN l (defT l x.name::r) (meet es x.name) < wkN l (x::r) es:=by
 have h0:0≤defI l x.name:=by cases hx with | mk _ _ h _=>exact h h1
 have hn:=need_ref h0 (es:=es) h2
 unfold need at hn
 unfold wkN
 rw [szL_cons,szL_cons]
 omega
theorem wkN_tail {x:TypR} {r:List TypR} {es:Met}:wkN l r es < wkN l (x::r) es:=by
 have:=sz_pos x
 unfold wkN
 rw [szL_cons]
 omega
theorem wkN_union {x:TypR} {r:List TypR} {es:Met}:wkN l (x.t++r) es < wkN l (x::r) es:=by
 have:=szL_part x
 unfold wkN
 rw [szL_cons,szL_append]
 omega
end
theorem sumN_append (a b:List TypR):sumN (a++b) = sumN a + sumN b:=by unfold sumN; rw [List.map_append,List.sum_append]
theorem tyN_pos (t:TypR):1≤tyN t:=by rw [tyN_eq]; omega
theorem len_sumN:∀ r:List TypR,r.length≤sumN r
 | []=>Nat.zero_le _
 | x::r=>by
  have:=len_sumN r
  have:=tyN_pos x
  rw [sumN_cons,List.length_cons]
  omega
end Go.Ty
end
section
namespace Go.Proofs.YtdcdmojbkmedpaaDoor
open Go Go.SX Go.Ck Go.Vl Go.Ut Go.Ty
set_option maxRecDepth 100000
set_option maxHeartbeats 4000000
theorem nat_small {a:Nat} (h:a < 128):(BitVec.ofInt 64 (a:Int)).toNat = a:=by
 rw [BitVec.toNat_ofInt]
 omega
theorem or_nat {a b:Nat} (ha:a < 128) (hb:b < 128):bits .or .i64 (a:Int) (b:Int) = ((a ||| b:Nat):Int)∧a ||| b < 128:=by
 have h:a ||| b < 2 ^ 7:=Nat.or_lt_two_pow (n:=7) ha hb
 refine ⟨?_,h⟩
 show IntKind.i64.wrap ((BitVec.ofInt 64 (a:Int) ||| BitVec.ofInt 64 (b:Int)).toNat:Nat) = _
 rw [BitVec.toNat_or,nat_small ha,nat_small hb,IntKind.wrap_i64]
 generalize a ||| b = c at h ⊢
 omega
theorem and_nat {a b:Nat} (ha:a < 128) (hb:b < 128):bits .and .i64 (a:Int) (b:Int) = ((a &&& b:Nat):Int)∧a &&& b < 128:=by
 have h:a &&& b < 2 ^ 7:=Nat.and_lt_two_pow (n:=7) a hb
 refine ⟨?_,h⟩
 show IntKind.i64.wrap ((BitVec.ofInt 64 (a:Int) &&& BitVec.ofInt 64 (b:Int)).toNat:Nat) = _
 rw [BitVec.toNat_and,nat_small ha,nat_small hb,IntKind.wrap_i64]
 generalize a &&& b = c at h ⊢
 omega
def kN (k:Int):Nat:=(kindsF k).toNat
theorem kindsF_nat {k:Int} (h:1≤k∧k≤10):kindsF k = (kN k:Nat)∧kN k < 128∧∀ j,j < 7→(kN k).testBit j = tellsK k (j:Int):=by
 have hk:k = 1∨k = 2∨k = 3∨k = 4∨k = 5∨k = 6∨k = 7∨k = 8∨k = 9∨k = 10:=by omega
 rcases hk with rfl | rfl | rfl | rfl | rfl | rfl | rfl | rfl | rfl | rfl<;>exact ⟨by decide,by decide,by decide⟩
def orN (a:Nat) (l:List TypR):Nat:=l.foldl (fun a t=>a ||| kN t.kind) a
theorem orL_nat:∀ (l:List TypR),(∀ y ∈ l,isPart y)→∀ a:Nat,a < 128→orL (a:Int) l = (orN a l:Nat)∧orN a l < 128∧∀ j,j < 7→(orN a l).testBit j = (a.testBit j || l.any fun y=>tellsK y.kind (j:Int))
 | [],_,a,ha=>⟨rfl,ha,fun j _=>by rw [List.any_nil,Bool.or_false]; rfl⟩
 | x::r,h,a,ha=>by
  obtain ⟨h1,h2,h3⟩:=kindsF_nat (h x (List.mem_cons_self ..))
  have h4:=or_nat ha h2
  obtain ⟨g1,g2,g3⟩:=orL_nat r (fun y hy=>h y (List.mem_cons_of_mem _ hy)) (a ||| kN x.kind) h4.2
  refine ⟨?_,g2,fun j hj=>?_⟩
  ·show orL (bits .or .i64 (a:Int) (kindsF x.kind)) r = _
   rw [h1,h4.1]
   exact g1
  ·show (orN (a ||| kN x.kind) r).testBit j = _
   rw [g3 j hj,Nat.testBit_or,h3 j hj,List.any_cons,Bool.or_assoc]
theorem bitF_nat {a:Nat} (ha:a < 128) {j:Nat} (hj:j < 7):bitF (a:Int) j = a.testBit j:=by
 unfold bitF
 have e:min j IntKind.i64.bits = j:=Nat.min_eq_left (show j≤64 by omega)
 have e2:((a:Int).fdiv (2 ^ j)) = ((a / 2 ^ j:Nat):Int):=by
  rw [Int.fdiv_eq_ediv_of_nonneg _ (Int.le_of_lt (Int.pow_pos (by decide))),Int.natCast_ediv,Int.natCast_pow]
  rfl
 have h2:a / 2 ^ j < 128:=Nat.lt_of_le_of_lt (Nat.div_le_self _ _) ha
 rw [e,e2,show (1:Int) = ((1:Nat):Int) from rfl,(and_nat h2 (by decide)).1,Nat.and_one_is_mod,Nat.testBit_eq_decide_div_mod_eq]
 generalize a / 2 ^ j % 2 = c
 by_cases h:c = 1
 ·rw [h]; rfl
 ·rw [decide_eq_false h,beq_eq_false_iff_ne]
  omega
noncomputable def tl (l:List DefR) (x:TypR) (j:Nat):Bool:=(comeA l x).1.any fun y=>tellsK y.kind (j:Int)
theorem clF_iff {l:List DefR}:∀ (L:List TypR),(∀ x ∈ L,∀ y ∈ (comeA l x).1,isPart y)→∀ A:Nat,A < 128→(clF l (A:Int) L = 13∧∃ j,j < 7∧1 < (if A.testBit j = true then 1 else 0) + L.countP (fun x=>tl l x j))∨(clF l (A:Int) L = 0∧∀ j,j < 7→(if A.testBit j = true then 1 else 0) + L.countP (fun x=>tl l x j)≤1)
 | [],_,A,_=>.inr ⟨rfl,fun j _=>by rw [List.countP_nil]; split<;>omega⟩
 | x::r,h,A,hA=>by
  obtain ⟨h1,h2,h3⟩:=orL_nat (comeA l x).1 (h x (List.mem_cons_self ..)) 0 (by decide)
  have hb:∀ j,j < 7→(orN 0 (comeA l x).1).testBit j = tl l x j:=fun j hj=>by rw [h3 j hj,Nat.zero_testBit,Bool.false_or]; rfl
  have h1:orL 0 (comeA l x).1 = (orN 0 (comeA l x).1:Nat):=h1
  rw [clF,h1]
  generalize orN 0 (comeA l x).1 = B at h1 h2 h3 hb
  obtain ⟨a1,a2⟩:=and_nat hA h2
  obtain ⟨o1,o2⟩:=or_nat hA h2
  rw [a1,o1]
  by_cases c:A &&& B = 0
  ·rw [if_neg (by rw [c]; decide)]
   have hno:∀ j,A.testBit j = true→B.testBit j = true→False:=fun j p q=>by
    have:(A &&& B).testBit j = true:=by rw [Nat.testBit_and,p,q]; rfl
    rw [c,Nat.zero_testBit] at this
    cases this
   have key:∀ j,j < 7→(if (A ||| B).testBit j = true then 1 else 0) + r.countP (fun x=>tl l x j) = (if A.testBit j = true then 1 else 0) + (x::r).countP (fun x=>tl l x j):=fun j hj=>by
    rw [List.countP_cons,Nat.testBit_or,← hb j hj]
    cases p:A.testBit j with
    | true =>
     cases q:B.testBit j with
     | true=>exact (hno j p q).elim
     | false=>simp
    | false =>
     cases q:B.testBit j with
     | true=>simp; omega
     | false=>simp
   rcases clF_iff r (fun y hy=>h y (List.mem_cons_of_mem _ hy)) (A ||| B) o2 with ⟨g1,j,hj,g2⟩ | ⟨g1,g2⟩
   ·exact .inl ⟨g1,j,hj,by rw [← key j hj]; exact g2⟩
   ·exact .inr ⟨g1,fun j hj=>by rw [← key j hj]; exact g2 j hj⟩
  ·rw [if_pos (by omega)]
   obtain ⟨j,hj⟩:=Nat.exists_testBit_of_ne_zero c
   rw [Nat.testBit_and,Bool.and_eq_true] at hj
   have hj7:j < 7:=by
    refine Nat.lt_of_not_le fun h7=>?_
    have:=Nat.testBit_lt_two_pow (x:=A) (i:=j) (Nat.lt_of_lt_of_le hA (Nat.pow_le_pow_right (n:=2) (by decide) h7))
    rw [hj.1] at this
    cases this
   refine .inl ⟨rfl,j,hj7,?_⟩
   rw [List.countP_cons,← hb j hj7,if_pos hj.1,if_pos hj.2]
   omega
noncomputable def dcl (l:List DefR) (t:TypR):Bool:=decide (t.kind = 11) && (List.range 7).any fun j=>decide (1 < t.t.countP fun x=>tl l x j)
theorem clashF_doc {l:List DefR} (hl:∀ d ∈ l,CT l d.t) {t:TypR} (ht:CT l t):clashF l t = if dcl l t = true then 13 else 0:=by
 unfold clashF dcl
 by_cases c:t.kind = 11
 ·rw [if_pos c,decide_eq_true c,Bool.true_and]
  rcases clF_iff (l:=l) t.t (fun x hx y hy=>come_part hl _ x [] (ht.part x hx) y hy) 0 (by decide) with ⟨g1,j,hj,g2⟩ | ⟨g1,g2⟩
  ·rw [Nat.zero_testBit] at g2
   have:((List.range 7).any fun j=>decide (1 < t.t.countP fun x=>tl l x j)) = true:=List.any_eq_true.2 ⟨j,List.mem_range.2 hj,decide_eq_true (by simpa using g2)⟩
   rw [this,if_pos rfl]
   exact g1
  ·have : ((List.range 7).any fun j => decide (1 < t.t.countP fun x => tl l x j)) = false := by
    rw [List.any_eq_false]
    intro j hj
    have:=g2 j (List.mem_range.1 hj)
    rw [Nat.zero_testBit] at this
    simp at this ⊢
    exact this
   rw [this,if_neg (by decide)]
   exact g1
 ·rw [if_neg c,decide_eq_false c,Bool.false_and,if_neg (by decide)]
theorem clsF_doc {l:List DefR} (hl:∀ d ∈ l,CT l d.t):∀ ps:List TPlace,(∀ p ∈ ps,CT l p.t)→clsF l ps = if (ps.any fun p=>dcl l p.t) = true then 13 else 0
 | [],_=>by rw [clsF,List.any_nil,if_neg (by decide)]
 | p::r,h=>by
  rw [clsF,clashF_doc hl (h p (List.mem_cons_self ..)),List.any_cons,clsF_doc hl r fun q hq=>h q (List.mem_cons_of_mem _ hq)]
  cases dcl l p.t with
  | true=>simp
  | false=>simp
theorem ct_pre {l:List DefR}:∀ (k:Nat) (t:TypR),SizeOf.sizeOf t < k→CT l t→∀ a,∀ p ∈ preT t a,CT l p.t:=by
 intro k
 induction k with
 | zero=>intro t h; exact absurd h (Nat.not_lt_zero _)
 | succ k ih =>
  intro t h ht a p hp
  rw [preT_eq] at hp
  rcases List.mem_cons.1 hp with rfl | hp
  ·exact ht
  ·obtain ⟨x,hx,hp⟩:=List.mem_flatMap.1 hp
   exact ih x (by have:=size_inside hx; omega) (CT.inside ht x hx) _ p hp
theorem ct_all {s:SchemaR} (hs:SB s):∀ p ∈ allP s,CT s.defs p.t:=by
 intro p hp
 unfold allP at hp
 rcases List.mem_append.1 hp with hp | hp
 ·obtain ⟨d,hd,hp⟩:=List.mem_flatMap.1 hp
  exact ct_pre _ d.t (Nat.lt_succ_self _) (hs.defs d hd).1 _ p hp
 ·exact ct_pre _ s.root (Nat.lt_succ_self _) hs.root.1 _ p hp
def kindsP (L:List TypR):Nat→List Int
 | 0=>[]
 | k + 1=>if (L.any fun y=>tellsK y.kind (k:Int)) = true then kindsP L k++[(k:Int)] else kindsP L k
theorem kinds_doc {L:List TypR} (hL:∀ y ∈ L,isPart y):∀ k,k≤7→kindsL (orL 0 L) k = kindsP L k
 | 0,_=>rfl
 | k + 1,hk=>by
  obtain ⟨h1,h2,h3⟩:=orL_nat L hL 0 (by decide)
  have h1:orL 0 L = (orN 0 L:Nat):=h1
  have hb:bitF (orL 0 L) k = L.any fun y=>tellsK y.kind (k:Int):=by rw [h1,bitF_nat h2 (by omega),h3 k (by omega),Nat.zero_testBit,Bool.false_or]
  rw [kindsL,kindsP,hb,kinds_doc hL k (by omega)]
end Go.Proofs.YtdcdmojbkmedpaaDoor
end
