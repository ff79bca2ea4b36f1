/-
  A part of a proof: plain laws and walks, one after the other. No conditions.
-/
import Derived.Test.YtdcdmojbkmedpaaDoorFt5
set_option linter.constructorNameAsVariable false
set_option linter.unusedVariables false
set_option linter.unusedSimpArgs false
set_option linter.unusedSectionVars false
section
namespace Go.Proofs.YtdcdmojbkmedpaaDoor
open Go Go.SX Go.Ck Go.Vl Go.Ut Go.Ty
set_option maxRecDepth 100000
set_option maxHeartbeats 8000000
theorem GS.one_t {s:SchemaR} (hs:GS s) {x:TypR} (hx:inS s x) (hk:x.kind = 8∨x.kind = 9):∃ h:0 < x.t.length,x.t.getD 0 (SX.dflt .typ) = x.t[0]∧inS s x.t[0]∧x.t.length = 1:=by
 have h1:=hs.ok x hx
 unfold typeF at h1
 split at h1
 ·cases h1
 rename_i h2
 have h3:okKind x:=Decidable.not_not.1 h2
 have h4:=h3.2.2.2.1 hk
 have h5:0 < x.t.length:=by omega
 refine ⟨h5,?_,inS_in hx _ (List.mem_append_left _ (List.getElem_mem h5)),h4⟩
 rw [List.getD_eq_getElem?_getD,List.getElem?_eq_getElem h5]
 rfl
section
variable [G:Globs]
theorem w_jpart (hu:HasU8) (s:SchemaR) (hs:GS s) (full:Bool) (d:Nat) (hd:d≤50) (x:TypR) (hx:inS s x) (z:Val) (hv:GV (d + 1) z) (ih:∀ u,GV d u→∀ y,inS s y→PSpec Tryd.prog 106 [.rp (jdg s full),.agg (encTyp y),.agg (encVal u)] (.tup [.rd .pstep (wrV s.defs full u y).1,.b (wrV s.defs full u y).2])):vc Tryd.prog Γ 123 [0,4,5,6,7,8,10,11,12,13,15,16,17,19,20,30,46,54,64,66,67,68,69,85,88,91,92,93,94,111,114] (Tryd.f177.body.getD .skip) (postK Γ [.tmp 6,.tmp 7] (fun v=>RL v (.tup [.rd .pstep (prtF s.defs full x z).1,.b (prtF s.defs full x z).2]))) ⟨argSlots 0 [.rp (jdg s full),.agg (encTyp x),.agg (encVal z)],[]⟩:=by
 have hA:prtF s.defs full x z = if x.kind = 4 then ([],!betw z.n x.lo x.hi) else if x.kind = 6 then ([],!betw ((runes z.s).length:Nat) x.lo x.hi) else if x.kind = 7 then ([],!(x.texts.any fun y=>y == z.s))
  else if x.kind = 8 then (if betw (z.l.length:Nat) x.lo x.hi = true then wrL s.defs full z.l (x.t.getD 0 (SX.dflt .typ)) 0 else ([],true))
  else if x.kind = 9 then wrM s.defs full z.e (x.t.getD 0 (SX.dflt .typ)) else if x.kind = 10 then wrR s.defs full z.e x.f (miss full x.f z.e) else ([],false):=rfl
 generalize prtF s.defs full x z = R at hA ⊢
 have hb:=hs.tb x hx
 have hlen:=(by cases hv; assumption:z.s.length≤4000∧z.l.length≤200∧z.e.length≤200)
 have hbad:=(by cases hv; assumption:bad z.s < 0)
 have hzl:=(by cases hv; assumption:∀ u ∈ z.l,GV d u)
 have hze:=(by cases hv; assumption:∀ p ∈ z.e,GV d p.2)
 by_cases c4:x.kind = 4
 ·rw [if_pos c4] at hA
  subst hA
  have hB:=s_betw1 z.n x.lo x.hi
  (repeat' (first | (refine aN (fun h=>?_) (fun h=>?_)<;>(try simp [-List.getD_eq_getElem?_getD,-Int.pred_toNat] at h)<;>(try (exfalso; first | omega | contradiction))) | (refine rNG ?_) | (refine bN2 ?_) | (refine bN3 ?_) | (intro _)))
  refine Or.inl (eX _ (aN (hB) ?_))
  (repeat' (first | (refine aN (fun h=>?_) (fun h=>?_)<;>(try simp [-List.getD_eq_getElem?_getD,-Int.pred_toNat] at h)<;>(try (exfalso; first | omega | contradiction))) | (refine rNG ?_) | (refine bN2 ?_) | (refine bN3 ?_) | (intro _)))
  (repeat' (first | exact trivial | exact Or.inl rfl | exact Or.inr ⟨rfl,_,rfl⟩ | refine aN ?_ ?_))
 rw [if_neg c4] at hA
 by_cases c6:x.kind = 6
 ·rw [if_pos c6] at hA
  subst hA
  have hU:=s_Runes hu z.s (by omega)
  rw [if_neg (by omega)] at hU
  have hB:=s_betw1 ((runes z.s).length:Nat) x.lo x.hi
  (repeat' (first | (refine aN (fun h=>?_) (fun h=>?_)<;>(try simp [-List.getD_eq_getElem?_getD,-Int.pred_toNat] at h)<;>(try (exfalso; first | omega | contradiction))) | (refine rNG ?_) | (refine bN2 ?_) | (refine bN3 ?_) | (intro _)))
  refine Or.inl (eX _ (aN (hU) ?_))
  (repeat' (first | (refine aN (fun h=>?_) (fun h=>?_)<;>(try simp [-List.getD_eq_getElem?_getD,-Int.pred_toNat] at h)<;>(try (exfalso; first | omega | contradiction))) | (refine rNG ?_) | (refine bN2 ?_) | (refine bN3 ?_) | (intro _)))
  refine Or.inl (eX _ (aN (hB) ?_))
  (repeat' (first | (refine aN (fun h=>?_) (fun h=>?_)<;>(try simp [-List.getD_eq_getElem?_getD,-Int.pred_toNat] at h)<;>(try (exfalso; first | omega | contradiction))) | (refine rNG ?_) | (refine bN2 ?_) | (refine bN3 ?_) | (intro _)))
  (repeat' (first | exact trivial | exact Or.inl rfl | exact Or.inr ⟨rfl,_,rfl⟩ | refine aN ?_ ?_))
 rw [if_neg c6] at hA
 by_cases c7:x.kind = 7
 ·rw [if_pos c7] at hA
  subst hA
  have hH:=s_hasS x.texts (by cases hb; omega) z.s
  (repeat' (first | (refine aN (fun h=>?_) (fun h=>?_)<;>(try simp [-List.getD_eq_getElem?_getD,-Int.pred_toNat] at h)<;>(try (exfalso; first | omega | contradiction))) | (refine rNG ?_) | (refine bN2 ?_) | (refine bN3 ?_) | (intro _)))
  refine Or.inl (eX _ (aN (hH) ?_))
  (repeat' (first | (refine aN (fun h=>?_) (fun h=>?_)<;>(try simp [-List.getD_eq_getElem?_getD,-Int.pred_toNat] at h)<;>(try (exfalso; first | omega | contradiction))) | (refine rNG ?_) | (refine bN2 ?_) | (refine bN3 ?_) | (intro _)))
  (repeat' (first | exact trivial | exact Or.inl rfl | exact Or.inr ⟨rfl,_,rfl⟩ | refine aN ?_ ?_))
 rw [if_neg c7] at hA
 by_cases c8:x.kind = 8
 ·rw [if_pos c8] at hA
  obtain ⟨q0,q1,q2,q3⟩:=hs.one_t hx (.inl c8)
  rw [← q1] at q2
  generalize hE:x.t.getD 0 (SX.dflt .typ) = E at hA q2
  have hB:=s_betw1 (z.l.length:Nat) x.lo x.hi
  generalize betw (z.l.length:Nat) x.lo x.hi = b at hA hB
  cases b with
  | false =>
   rw [if_neg (by decide)] at hA
   subst hA
   (repeat' (first | (refine aN (fun h=>?_) (fun h=>?_)<;>(try simp [-List.getD_eq_getElem?_getD,-Int.pred_toNat] at h)<;>(try (exfalso; first | omega | contradiction))) | (refine rNG ?_) | (refine bN2 ?_) | (refine bN3 ?_) | (intro _)))
   refine Or.inl (eX _ (aN (hB) ?_))
   (repeat' (first | (refine aN (fun h=>?_) (fun h=>?_)<;>(try simp [-List.getD_eq_getElem?_getD,-Int.pred_toNat] at h)<;>(try (exfalso; first | omega | contradiction))) | (refine rNG ?_) | (refine bN2 ?_) | (refine bN3 ?_) | (intro _)))
   (repeat' (first | exact trivial | exact Or.inl rfl | exact Or.inr ⟨rfl,_,rfl⟩ | refine aN ?_ ?_))
  | true =>
   rw [if_pos rfl] at hA
   (repeat' (first | (refine aN (fun h=>?_) (fun h=>?_)<;>(try simp [-List.getD_eq_getElem?_getD,-Int.pred_toNat] at h)<;>(try (exfalso; first | omega | contradiction))) | (refine rNG ?_) | (refine bN2 ?_) | (refine bN3 ?_) | (intro _)))
   refine Or.inl (eX _ (aN (hB) ?_))
   (repeat' (first | (refine aN (fun h=>?_) (fun h=>?_)<;>(try simp [-List.getD_eq_getElem?_getD,-Int.pred_toNat] at h)<;>(try (exfalso; first | omega | contradiction))) | (refine rNG ?_) | (refine bN2 ?_) | (refine bN3 ?_) | (intro _)))
   refine eX [] (eX [] (eX [] (eX Nat (eX (fun i=>i≤(z.l).length∧(R = wrL s.defs full (z.l.drop i) E i)) (eX (fun i=>⟨[(0,.rp (jdg s full)),(4,.pt 4 0),(66,.rd .val z.l),(67,.i .i64 z.l.length),(68,.i .i64 i)],[(4,encTyp x)]⟩) (eX (fun i=>(z.l).length - i) (eX 0 (aN ⟨Nat.zero_le _,hA⟩ (aN ?_ ?_)))))))))
   ·(repeat' (first | exact trivial | exact Or.inl rfl | exact Or.inr (Or.inl ⟨rfl,_,rfl⟩) | exact Or.inr (Or.inr (Or.inr ⟨_,_,_,rfl,rfl⟩)) | refine aN ?_ ?_))
   rintro i ⟨hi,hI⟩
   refine aN (fun hz=>?_) (fun hz=>?_)
   ·have hi:=ltD hz
    have hg:=getI (τ:=.val) hi
    refine bN2 ?_
    rw [hg]
    have hg9:=hzl _ (List.getElem_mem hi)
    have hON:=s_jon s full z.l[i] E ⟨[],(i:Int)⟩ (by have:=wr_len s.defs full d _ hg9 E; omega) (ih _ hg9 _ q2)
    rw [wrL_drop s.defs full hi] at hI
    generalize wrV s.defs full z.l[i] E = q at hI hON
    subst hE
    (repeat' (first | (refine aN (fun h=>?_) (fun h=>?_)<;>(try simp [-List.getD_eq_getElem?_getD,-Int.pred_toNat] at h)<;>(try (exfalso; first | omega | contradiction))) | (refine rNG ?_) | (refine bN2 ?_) | (refine bN3 ?_) | (intro _)))
    refine eX [.blk [0,1,2,3,4,5,6,7,8,9,10,11,12,13]] (aN (by kernel_rfl) ?_)
    refine aN ⟨by decide,by omega⟩ ?_
    refine eX _ (aN (hON) ?_)
    cases hq:q.2 with
    | true =>
     rw [hq,if_pos rfl] at hI
     rw [hI,if_pos rfl]
     (repeat' (first | (refine aN (fun h=>?_) (fun h=>?_)<;>(try simp [-List.getD_eq_getElem?_getD,-Int.pred_toNat] at h)<;>(try (exfalso; first | omega | contradiction))) | (refine rNG ?_) | (refine bN2 ?_) | (refine bN3 ?_) | (intro _)))
     (repeat' (first | exact trivial | exact Or.inl rfl | exact Or.inr ⟨rfl,_,rfl⟩ | refine aN ?_ ?_))
    | false =>
     rw [hq,if_neg (by decide)] at hI
     (repeat' (first | (refine aN (fun h=>?_) (fun h=>?_)<;>(try simp [-List.getD_eq_getElem?_getD,-Int.pred_toNat] at h)<;>(try (exfalso; first | omega | contradiction))) | (refine rNG ?_) | (refine bN2 ?_) | (refine bN3 ?_) | (intro _)))
     refine eX [] (eX (i + 1) (aN ⟨hi,hI⟩ (aN ?_ ?_)))
     ·(repeat' (first | exact trivial | exact Or.inl rfl | exact Or.inr (Or.inl ⟨rfl,_,rfl⟩) | exact Or.inr (Or.inr (Or.inr ⟨_,_,_,rfl,rfl⟩)) | refine aN ?_ ?_))
     ·(exact Nat.sub_lt_sub_left (by omega) (by omega))
   (have hi:=geD hi hz)
   rw [List.drop_eq_nil_of_le (by omega),wrL] at hI
   subst hI
   (repeat' (first | (refine aN (fun h=>?_) (fun h=>?_)<;>(try simp [-List.getD_eq_getElem?_getD,-Int.pred_toNat] at h)<;>(try (exfalso; first | omega | contradiction))) | (refine rNG ?_) | (refine bN2 ?_) | (refine bN3 ?_) | (intro _)))
   (repeat' (first | exact trivial | exact Or.inl rfl | exact Or.inr ⟨rfl,_,rfl⟩ | refine aN ?_ ?_))
 rw [if_neg c8] at hA
 by_cases c9:x.kind = 9
 ·rw [if_pos c9] at hA
  obtain ⟨q0,q1,q2,q3⟩:=hs.one_t hx (.inr c9)
  rw [← q1] at q2
  generalize hE:x.t.getD 0 (SX.dflt .typ) = E at hA q2
  (repeat' (first | (refine aN (fun h=>?_) (fun h=>?_)<;>(try simp [-List.getD_eq_getElem?_getD,-Int.pred_toNat] at h)<;>(try (exfalso; first | omega | contradiction))) | (refine rNG ?_) | (refine bN2 ?_) | (refine bN3 ?_) | (intro _)))
  refine eX [] (eX [] (eX [] (eX Nat (eX (fun i=>i≤(z.e).length∧(R = wrM s.defs full (z.e.drop i) E)) (eX (fun i=>⟨[(0,.rp (jdg s full)),(4,.pt 4 0),(91,.rd .ent z.e),(92,.i .i64 z.e.length),(93,.i .i64 i)],[(4,encTyp x)]⟩) (eX (fun i=>(z.e).length - i) (eX 0 (aN ⟨Nat.zero_le _,hA⟩ (aN ?_ ?_)))))))))
  ·(repeat' (first | exact trivial | exact Or.inl rfl | exact Or.inr (Or.inl ⟨rfl,_,rfl⟩) | exact Or.inr (Or.inr (Or.inr ⟨_,_,_,rfl,rfl⟩)) | refine aN ?_ ?_))
  rintro i ⟨hi,hI⟩
  refine aN (fun hz=>?_) (fun hz=>?_)
  ·have hi:=ltD hz
   have hg:=getI (τ:=.ent) hi
   refine bN2 ?_
   rw [hg]
   have hg9:=hze _ (List.getElem_mem hi)
   have hON:=s_jon s full z.e[i].2 E ⟨z.e[i].1,-1⟩ (by have:=wr_len s.defs full d _ hg9 E; omega) (ih _ hg9 _ q2)
   rw [wrM_drop s.defs full hi] at hI
   generalize wrV s.defs full z.e[i].2 E = q at hI hON
   subst hE
   (repeat' (first | (refine aN (fun h=>?_) (fun h=>?_)<;>(try simp [-List.getD_eq_getElem?_getD,-Int.pred_toNat] at h)<;>(try (exfalso; first | omega | contradiction))) | (refine rNG ?_) | (refine bN2 ?_) | (refine bN3 ?_) | (intro _)))
   refine eX [.blk [0,1,2,3,4,5,6,7,8,9,10,11,12,13,14,15]] (aN (by kernel_rfl) ?_)
   refine aN ⟨by decide,by omega⟩ ?_
   refine eX _ (aN (hON) ?_)
   cases hq:q.2 with
   | true =>
    rw [hq,if_pos rfl] at hI
    rw [hI,if_pos rfl]
    (repeat' (first | (refine aN (fun h=>?_) (fun h=>?_)<;>(try simp [-List.getD_eq_getElem?_getD,-Int.pred_toNat] at h)<;>(try (exfalso; first | omega | contradiction))) | (refine rNG ?_) | (refine bN2 ?_) | (refine bN3 ?_) | (intro _)))
    (repeat' (first | exact trivial | exact Or.inl rfl | exact Or.inr ⟨rfl,_,rfl⟩ | refine aN ?_ ?_))
   | false =>
    rw [hq,if_neg (by decide)] at hI
    (repeat' (first | (refine aN (fun h=>?_) (fun h=>?_)<;>(try simp [-List.getD_eq_getElem?_getD,-Int.pred_toNat] at h)<;>(try (exfalso; first | omega | contradiction))) | (refine rNG ?_) | (refine bN2 ?_) | (refine bN3 ?_) | (intro _)))
    refine eX [] (eX (i + 1) (aN ⟨hi,hI⟩ (aN ?_ ?_)))
    ·(repeat' (first | exact trivial | exact Or.inl rfl | exact Or.inr (Or.inl ⟨rfl,_,rfl⟩) | exact Or.inr (Or.inr (Or.inr ⟨_,_,_,rfl,rfl⟩)) | refine aN ?_ ?_))
    ·(exact Nat.sub_lt_sub_left (by omega) (by omega))
  (have hi:=geD hi hz)
  rw [List.drop_eq_nil_of_le (by omega),wrM] at hI
  subst hI
  (repeat' (first | (refine aN (fun h=>?_) (fun h=>?_)<;>(try simp [-List.getD_eq_getElem?_getD,-Int.pred_toNat] at h)<;>(try (exfalso; first | omega | contradiction))) | (refine rNG ?_) | (refine bN2 ?_) | (refine bN3 ?_) | (intro _)))
  (repeat' (first | exact trivial | exact Or.inl rfl | exact Or.inr ⟨rfl,_,rfl⟩ | refine aN ?_ ?_))
 rw [if_neg c9] at hA
 by_cases c10:x.kind = 10
 ·rw [if_pos c10] at hA
  subst hA
  have hR:=s_jrec s hs full d hd x hx z hv ih
  (repeat' (first | (refine aN (fun h=>?_) (fun h=>?_)<;>(try simp [-List.getD_eq_getElem?_getD,-Int.pred_toNat] at h)<;>(try (exfalso; first | omega | contradiction))) | (refine rNG ?_) | (refine bN2 ?_) | (refine bN3 ?_) | (intro _)))
  refine Or.inl (eX _ (aN (hR) ?_))
  (repeat' (first | (refine aN (fun h=>?_) (fun h=>?_)<;>(try simp [-List.getD_eq_getElem?_getD,-Int.pred_toNat] at h)<;>(try (exfalso; first | omega | contradiction))) | (refine rNG ?_) | (refine bN2 ?_) | (refine bN3 ?_) | (intro _)))
  (repeat' (first | exact trivial | exact Or.inl rfl | exact Or.inr ⟨rfl,_,rfl⟩ | refine aN ?_ ?_))
 rw [if_neg c10] at hA
 subst hA
 (repeat' (first | (refine aN (fun h=>?_) (fun h=>?_)<;>(try simp [-List.getD_eq_getElem?_getD,-Int.pred_toNat] at h)<;>(try (exfalso; first | omega | contradiction))) | (refine rNG ?_) | (refine bN2 ?_) | (refine bN3 ?_) | (intro _)))
 (repeat' (first | exact trivial | exact Or.inl rfl | exact Or.inr ⟨rfl,_,rfl⟩ | refine aN ?_ ?_))
theorem s_jpart (hu:HasU8) (s:SchemaR) (hs:GS s) (full:Bool) (d:Nat) (hd:d≤50) (x:TypR) (hx:inS s x) (z:Val) (hv:GV (d + 1) z) (ih:∀ u,GV d u→∀ y,inS s y→PSpec Tryd.prog 106 [.rp (jdg s full),.agg (encTyp y),.agg (encVal u)] (.tup [.rd .pstep (wrV s.defs full u y).1,.b (wrV s.defs full u y).2])):PSpec Tryd.prog 177 [.rp (jdg s full),.agg (encTyp x),.agg (encVal z)] (.tup [.rd .pstep (prtF s.defs full x z).1,.b (prtF s.defs full x z).2]) :=
 pspec_of_vcL Γ_good Tryd.func177 rfl Tryd.call177 Tryd.results177 Tryd.ntmps177 (Nat.le_of_ble_eq_true rfl) (w_jpart hu s hs full d hd x hx z hv ih)
theorem w_jwrong (s:SchemaR) (hs:GS s) (full:Bool) (t:TypR) (ht:inS s t) (z:Val) (h0:0≤z.kind) (h6:z.kind≤6) (hp:∀ x,inS s x→PSpec Tryd.prog 177 [.rp (jdg s full),.agg (encTyp x),.agg (encVal z)] (.tup [.rd .pstep (prtF s.defs full x z).1,.b (prtF s.defs full x z).2])):vc Tryd.prog Γ 32 [0,4,5,6,7,9,15,16,17,18,24] (Tryd.f106.body.getD .skip) (postK Γ [.tmp 6,.tmp 7] (fun v=>RL v (.tup [.rd .pstep (wrV s.defs full z t).1,.b (wrV s.defs full z t).2]))) ⟨argSlots 0 [.rp (jdg s full),.agg (encTyp t),.agg (encVal z)],[]⟩:=by
 have hA:=wrV_eq s.defs full z t
 have hFl:=s_flat s hs t ht
 have hps:=hs.parts ht
 have hlen:=hs.len ht
 generalize wrV s.defs full z t = R at hA ⊢
 generalize (comeA s.defs t).1 = ps at hA hFl hps hlen
 have hA:R = match pickK (ps.drop 0) z.kind with
  | none=>([],true)
  | some x=>prtF s.defs full x z:=hA
 (repeat' (first | (refine aN (fun h=>?_) (fun h=>?_)<;>(try simp [-List.getD_eq_getElem?_getD,-Int.pred_toNat] at h)<;>(try (exfalso; first | omega | contradiction))) | (refine rNG ?_) | (refine bN2 ?_) | (refine bN3 ?_) | (intro _)))
 refine eX [.take 0,.take 1,.take 2,.take 7,.blk [3,4,5],.take 6] (aN (by kernel_rfl) ?_)
 refine eX _ (aN (hFl) ?_)
 (repeat' (first | (refine aN (fun h=>?_) (fun h=>?_)<;>(try simp [-List.getD_eq_getElem?_getD,-Int.pred_toNat] at h)<;>(try (exfalso; first | omega | contradiction))) | (refine rNG ?_) | (refine bN2 ?_) | (refine bN3 ?_) | (intro _)))
 refine eX [] (eX [] (eX [] (eX Nat (eX (fun i=>i≤(ps).length∧(R = match pickK (ps.drop i) z.kind with | none=>([],true) | some x=>prtF s.defs full x z)) (eX (fun i=>⟨[(0,.rp (jdg s full)),(5,.pt 5 0),(15,.rd .typ ps),(16,.i .i64 ps.length),(17,.i .i64 i)],[(5,encVal z)]⟩) (eX (fun i=>(ps).length - i) (eX 0 (aN ⟨Nat.zero_le _,hA⟩ (aN ?_ ?_)))))))))
 ·(repeat' (first | exact trivial | exact Or.inl rfl | exact Or.inr (Or.inl ⟨rfl,_,rfl⟩) | exact Or.inr (Or.inr (Or.inr ⟨_,_,_,rfl,rfl⟩)) | refine aN ?_ ?_))
 rintro i ⟨hi,hI⟩
 refine aN (fun hz=>?_) (fun hz=>?_)
 ·have hi:=ltD hz
  have hg:=getI (τ:=.typ) hi
  refine bN2 ?_
  rw [hg]
  obtain ⟨g1,g2⟩:=hps _ (List.getElem_mem hi)
  have hT:=s_tells9 ps[i] g1 z.kind h0 h6
  have hPx:=hp ps[i] g2
  have hpk:pickK (ps.drop i) z.kind = if tellsK ps[i].kind z.kind = true then some ps[i] else pickK (ps.drop (i + 1)) z.kind:=by
   unfold pickK
   rw [List.drop_eq_getElem_cons hi,List.find?_cons]
   cases tellsK ps[i].kind z.kind<;>rfl
  rw [hpk] at hI
  (repeat' (first | (refine aN (fun h=>?_) (fun h=>?_)<;>(try simp [-List.getD_eq_getElem?_getD,-Int.pred_toNat] at h)<;>(try (exfalso; first | omega | contradiction))) | (refine rNG ?_) | (refine bN2 ?_) | (refine bN3 ?_) | (intro _)))
  refine Or.inl (eX _ (aN (hT) ?_))
  cases hq:tellsK ps[i].kind z.kind with
  | true =>
   rw [hq,if_pos rfl] at hI
   dsimp only at hI
   rw [hI]
   (repeat' (first | (refine aN (fun h=>?_) (fun h=>?_)<;>(try simp [-List.getD_eq_getElem?_getD,-Int.pred_toNat] at h)<;>(try (exfalso; first | omega | contradiction))) | (refine rNG ?_) | (refine bN2 ?_) | (refine bN3 ?_) | (intro _)))
   refine Or.inl (eX _ (aN (hPx) ?_))
   (repeat' (first | (refine aN (fun h=>?_) (fun h=>?_)<;>(try simp [-List.getD_eq_getElem?_getD,-Int.pred_toNat] at h)<;>(try (exfalso; first | omega | contradiction))) | (refine rNG ?_) | (refine bN2 ?_) | (refine bN3 ?_) | (intro _)))
   (repeat' (first | exact trivial | exact Or.inl rfl | exact Or.inr ⟨rfl,_,rfl⟩ | refine aN ?_ ?_))
  | false =>
   rw [hq,if_neg (by decide)] at hI
   (repeat' (first | (refine aN (fun h=>?_) (fun h=>?_)<;>(try simp [-List.getD_eq_getElem?_getD,-Int.pred_toNat] at h)<;>(try (exfalso; first | omega | contradiction))) | (refine rNG ?_) | (refine bN2 ?_) | (refine bN3 ?_) | (intro _)))
   refine eX [] (eX (i + 1) (aN ⟨hi,hI⟩ (aN ?_ ?_)))
   ·(repeat' (first | exact trivial | exact Or.inl rfl | exact Or.inr (Or.inl ⟨rfl,_,rfl⟩) | exact Or.inr (Or.inr (Or.inr ⟨_,_,_,rfl,rfl⟩)) | refine aN ?_ ?_))
   ·(exact Nat.sub_lt_sub_left (by omega) (by omega))
 (have hi:=geD hi hz)
 rw [List.drop_eq_nil_of_le (by omega)] at hI
 have hI:R = ([],true):=hI
 rw [hI]
 (repeat' (first | (refine aN (fun h=>?_) (fun h=>?_)<;>(try simp [-List.getD_eq_getElem?_getD,-Int.pred_toNat] at h)<;>(try (exfalso; first | omega | contradiction))) | (refine rNG ?_) | (refine bN2 ?_) | (refine bN3 ?_) | (intro _)))
 (repeat' (first | exact trivial | exact Or.inl rfl | exact Or.inr ⟨rfl,_,rfl⟩ | refine aN ?_ ?_))
theorem s_jwrong (s:SchemaR) (hs:GS s) (full:Bool) (t:TypR) (ht:inS s t) (z:Val) (h0:0≤z.kind) (h6:z.kind≤6) (hp:∀ x,inS s x→PSpec Tryd.prog 177 [.rp (jdg s full),.agg (encTyp x),.agg (encVal z)] (.tup [.rd .pstep (prtF s.defs full x z).1,.b (prtF s.defs full x z).2])):PSpec Tryd.prog 106 [.rp (jdg s full),.agg (encTyp t),.agg (encVal z)] (.tup [.rd .pstep (wrV s.defs full z t).1,.b (wrV s.defs full z t).2]) :=
 pspec_of_vcL Γ_good Tryd.func106 rfl Tryd.call106 Tryd.results106 Tryd.ntmps106 (Nat.le_of_ble_eq_true rfl) (w_jwrong s hs full t ht z h0 h6 hp)
theorem jwrong_spec (hu:HasU8) {s:SchemaR} (hs:GS s) (full:Bool):∀ (d:Nat),d≤50→∀ z:Val,GV d z→∀ t,inS s t→PSpec Tryd.prog 106 [.rp (jdg s full),.agg (encTyp t),.agg (encVal z)] (.tup [.rd .pstep (wrV s.defs full z t).1,.b (wrV s.defs full z t).2]):=by
 intro d
 induction d with
 | zero=>intro _ z h; exact nomatch h
 | succ d ih =>
  intro hd z hz t ht
  have hk:=(by cases hz; assumption:0≤z.kind∧z.kind≤6)
  exact s_jwrong s hs full t ht z hk.1 hk.2 fun x hx=>s_jpart hu s hs full d (by omega) x hx z hz fun u hu y hy=>ih (by omega) u hu y hy
end
end Go.Proofs.YtdcdmojbkmedpaaDoor
end
section
namespace Go.Proofs.YtdcdmojbkmedpaaDoor
open Go Go.SX Go.Ck Go.Vl Go.Ut Go.Ty
set_option maxRecDepth 100000
set_option maxHeartbeats 8000000
def tyL (t:TypR):List TypR:=(preT t 0).map (·.t)
theorem preT_ty:∀ (k:Nat) (t:TypR),SizeOf.sizeOf t < k→∀ a,(preT t a).map (·.t) = tyL t:=by
 intro k
 induction k with
 | zero=>intro t h; exact absurd h (Nat.not_lt_zero _)
 | succ k ih =>
  intro t h a
  unfold tyL
  rw [preT_eq t a,preT_eq t 0,List.map_cons,List.map_cons,List.map_flatMap,List.map_flatMap]
  refine congrArg (List.cons t) ?_
  rw [List.flatMap_def,List.flatMap_def]
  refine congrArg List.flatten (List.map_congr_left fun x hx=>?_)
  have hs:SizeOf.sizeOf x < k:=by have:=size_inside hx; omega
  rw [ih x hs,ih x hs]
theorem tyL_eq (t:TypR):tyL t = t::(Ty.inside t).flatMap tyL:=by
 unfold tyL
 rw [preT_eq t 0,List.map_cons,List.map_flatMap]
 refine congrArg (List.cons t) ?_
 rw [List.flatMap_def,List.flatMap_def]
 exact congrArg List.flatten (List.map_congr_left fun x hx=>preT_ty _ x (Nat.lt_succ_self _) _)
noncomputable def okD (l:List DefR) (t:TypR):Bool:=t.f.all fun f=>!(f.hasDef && (wrV l true f.dflt f.t).2)
noncomputable def allD (l:List DefR) (t:TypR):Bool:=(tyL t).all (okD l)
theorem all_flat {α β:Type} (p:β→Bool) (f:α→List β):∀ l:List α,(l.flatMap f).all p = l.all fun x=>(f x).all p
 | []=>rfl
 | x::r=>by rw [List.flatMap_cons,List.all_append,List.all_cons,all_flat p f r]
theorem all_both {α:Type} (p q:α→Bool):∀ l:List α,(l.all p && l.all q) = l.all fun x=>p x && q x
 | []=>rfl
 | x::r=>by
  rw [List.all_cons,List.all_cons,List.all_cons,← all_both p q r]
  cases p x<;>cases q x<;>cases r.all p<;>rfl
noncomputable def fldD (l:List DefR) (f:Fld):Bool:=!(f.hasDef && (wrV l true f.dflt f.t).2) && allD l f.t
theorem allD_eq (l:List DefR) (t:TypR):allD l t = (t.t.all (allD l) && t.f.all (fldD l)):=by
 have h1:allD l t = (okD l t && (Ty.inside t).all (allD l)):=by
  unfold allD
  rw [tyL_eq t,List.all_cons,all_flat]
 have h2:(Ty.inside t).all (allD l) = (t.t.all (allD l) && t.f.all fun f=>allD l f.t):=by
  unfold Ty.inside
  rw [List.all_append,List.all_map]
  rfl
 have h3:t.f.all (fldD l) = (okD l t && t.f.all fun f=>allD l f.t):=by
  unfold okD
  rw [all_both]
  rfl
 rw [h1,h2,h3]
 cases okD l t<;>cases t.t.all (allD l)<;>rfl
noncomputable def typsF (s:SchemaR):Int:=orI (checkS s) (if ((allP s).all fun p=>okD s.defs p.t) = true then 0 else 12)
theorem allP_D (s:SchemaR):((allP s).all fun p=>okD s.defs p.t) = (s.defs.all (fun d=>allD s.defs d.t) && allD s.defs s.root):=by
 have key:∀ t a,((preT t a).all fun p=>okD s.defs p.t) = allD s.defs t:=fun t a=>by
  unfold allD
  rw [← preT_ty _ t (Nat.lt_succ_self _) a,List.all_map]
  rfl
 unfold allP
 rw [List.all_append,all_flat,key]
 refine congrArg (fun b=>b && _) ?_
 exact congrArg s.defs.all (funext fun d=>key d.t 0)
theorem GS.gv {s:SchemaR} (hs:GS s) {t:TypR} (ht:inS s t) {f:Fld} (hf:f ∈ t.f):GV 20 f.dflt:=by
 have hk:t.kind = 10:=by
  have h1:=hs.ok t ht
  unfold typeF at h1
  split at h1
  ·cases h1
  rename_i h2
  have h3:okKind t:=Decidable.not_not.1 h2
  rcases h3.2.2.2.2.2.1 with h4 | h4
  ·exact h4
  ·rw [h4] at hf
   exact nomatch hf
 obtain ⟨_,_,h3⟩:=fds_rise t.f none (hs.flds ht hk)
 refine gv_chk ?_ (h3 f hf)
 cases hs.tb t ht with
 | mk _ _ _ _ _ h _ _=>exact (h f hf).1
section
variable [G:Globs]
theorem w_jdef (hu:HasU8) (s:SchemaR) (hs:GS s) (t:TypR) (ht:inS s t) (ih:∀ x ∈ Ty.inside t,PSpec Tryd.prog 107 [.rp (jdg s true),.agg (encTyp x)] (.b (allD s.defs x))):vc Tryd.prog Γ 48 [0,3,4,6,8,10,12,13,14,15,21,24,25,26,27,31,41,46] (Tryd.f107.body.getD .skip) (postK Γ [.tmp 4] (fun v=>v = .b (allD s.defs t))) ⟨argSlots 0 [.rp (jdg s true),.agg (encTyp t)],[]⟩:=by
 have hA:allD s.defs t = ((t.t.drop 0).all (allD s.defs) && t.f.all (fldD s.defs)):=allD_eq s.defs t
 generalize allD s.defs t = R at hA ⊢
 have hl:=(by cases hs.tb t ht; omega:t.t.length≤2000000∧t.f.length≤2000000)
 (repeat' (first | (refine aN (fun h=>?_) (fun h=>?_)<;>(try simp [-List.getD_eq_getElem?_getD,-Int.pred_toNat] at h)<;>(try (exfalso; first | omega | contradiction))) | (refine rNG ?_) | (refine bN2 ?_) | (refine bN3 ?_) | (intro _)))
 refine eX [] (eX [] (eX [] (eX Nat (eX (fun i=>i≤(t.t).length∧(R = ((t.t.drop i).all (allD s.defs) && t.f.all (fldD s.defs)))) (eX (fun i=>⟨[(0,.rp (jdg s true)),(3,.pt 3 0),(12,.rd .typ t.t),(13,.i .i64 t.t.length),(14,.i .i64 i)],[(3,encTyp t)]⟩) (eX (fun i=>(t.t).length - i) (eX 0 (aN ⟨Nat.zero_le _,hA⟩ (aN ?_ ?_)))))))))
 ·(repeat' (first | exact trivial | exact Or.inl rfl | exact Or.inr (Or.inl ⟨rfl,_,rfl⟩) | exact Or.inr (Or.inr (Or.inr ⟨_,_,_,rfl,rfl⟩)) | refine aN ?_ ?_))
 rintro i ⟨hi,hI⟩
 refine aN (fun hz=>?_) (fun hz=>?_)
 ·have hi:=ltD hz
  have hg:=getI (τ:=.typ) hi
  refine bN2 ?_
  rw [hg]
  have hC:=ih t.t[i] (List.mem_append_left _ (List.getElem_mem hi))
  rw [List.drop_eq_getElem_cons hi,List.all_cons] at hI
  generalize allD s.defs t.t[i] = q at hI hC
  (repeat' (first | (refine aN (fun h=>?_) (fun h=>?_)<;>(try simp [-List.getD_eq_getElem?_getD,-Int.pred_toNat] at h)<;>(try (exfalso; first | omega | contradiction))) | (refine rNG ?_) | (refine bN2 ?_) | (refine bN3 ?_) | (intro _)))
  refine Or.inl (eX _ (aN (hC) ?_))
  cases q with
  | true =>
   rw [Bool.true_and] at hI
   (repeat' (first | (refine aN (fun h=>?_) (fun h=>?_)<;>(try simp [-List.getD_eq_getElem?_getD,-Int.pred_toNat] at h)<;>(try (exfalso; first | omega | contradiction))) | (refine rNG ?_) | (refine bN2 ?_) | (refine bN3 ?_) | (intro _)))
   refine eX [] (eX (i + 1) (aN ⟨hi,hI⟩ (aN ?_ ?_)))
   ·(repeat' (first | exact trivial | exact Or.inl rfl | exact Or.inr (Or.inl ⟨rfl,_,rfl⟩) | exact Or.inr (Or.inr (Or.inr ⟨_,_,_,rfl,rfl⟩)) | refine aN ?_ ?_))
   ·(exact Nat.sub_lt_sub_left (by omega) (by omega))
  | false =>
   rw [Bool.false_and,Bool.false_and] at hI
   rw [hI]
   (repeat' (first | (refine aN (fun h=>?_) (fun h=>?_)<;>(try simp [-List.getD_eq_getElem?_getD,-Int.pred_toNat] at h)<;>(try (exfalso; first | omega | contradiction))) | (refine rNG ?_) | (refine bN2 ?_) | (refine bN3 ?_) | (intro _)))
   rfl
 (have hi:=geD hi hz)
 rw [List.drop_eq_nil_of_le (by omega),List.all_nil,Bool.true_and] at hI
 have hI:R = (t.f.drop 0).all (fldD s.defs):=hI
 (repeat' (first | (refine aN (fun h=>?_) (fun h=>?_)<;>(try simp [-List.getD_eq_getElem?_getD,-Int.pred_toNat] at h)<;>(try (exfalso; first | omega | contradiction))) | (refine rNG ?_) | (refine bN2 ?_) | (refine bN3 ?_) | (intro _)))
 refine eX [] (eX [] (eX [] (eX Nat (eX (fun j=>j≤(t.f).length∧(R = (t.f.drop j).all (fldD s.defs))) (eX (fun j=>⟨[(0,.rp (jdg s true)),(24,.rd .fld t.f),(25,.i .i64 t.f.length),(26,.i .i64 j)],[]⟩) (eX (fun j=>(t.f).length - j) (eX 0 (aN ⟨Nat.zero_le _,hI⟩ (aN ?_ ?_)))))))))
 ·(repeat' (first | exact trivial | exact Or.inl rfl | exact Or.inr (Or.inl ⟨rfl,_,rfl⟩) | exact Or.inr (Or.inr (Or.inr ⟨_,_,_,rfl,rfl⟩)) | refine aN ?_ ?_))
 rintro j ⟨hi,hI⟩
 refine aN (fun hz=>?_) (fun hz=>?_)
 ·rename_i i0 hi0 hz0 hi1 hI0
  have hi:=ltD hz
  have hg:=getI (τ:=.fld) hi
  have hm:=List.getElem_mem hi
  have hin:t.f[j].t ∈ Ty.inside t:=List.mem_append_right _ (List.mem_map.2 ⟨_,hm,rfl⟩)
  have hC:=ih t.f[j].t hin
  have hW:=jwrong_spec hu hs true 20 (by decide) t.f[j].dflt (hs.gv ht hm) t.f[j].t (inS_in ht _ hin)
  rw [List.drop_eq_getElem_cons hi,List.all_cons] at hI
  have hfd:fldD s.defs t.f[j] = (!(t.f[j].hasDef && (wrV s.defs true t.f[j].dflt t.f[j].t).2) && allD s.defs t.f[j].t):=rfl
  generalize allD s.defs t.f[j].t = q at hC hfd
  generalize wrV s.defs true t.f[j].dflt t.f[j].t = w at hW hfd
  obtain ⟨w1,w2⟩:=w
  dsimp only at hW hfd
  refine bN2 ?_
  rw [hg]
  (conv=>whnf)
  cases hh:t.f[j].hasDef with
  | true =>
   rw [hh,Bool.true_and] at hfd
   (repeat' (first | (refine aN (fun h=>?_) (fun h=>?_)<;>(try simp [-List.getD_eq_getElem?_getD,-Int.pred_toNat] at h)<;>(try (exfalso; first | omega | contradiction))) | (refine rNG ?_) | (refine bN2 ?_) | (refine bN3 ?_) | (intro _)))
   refine Or.inl (eX _ (aN (hW) ?_))
   cases w2 with
   | true =>
    rw [Bool.not_true,Bool.false_and] at hfd
    rw [hfd,Bool.false_and] at hI
    rw [hI]
    (repeat' (first | (refine aN (fun h=>?_) (fun h=>?_)<;>(try simp [-List.getD_eq_getElem?_getD,-Int.pred_toNat] at h)<;>(try (exfalso; first | omega | contradiction))) | (refine rNG ?_) | (refine bN2 ?_) | (refine bN3 ?_) | (intro _)))
    rfl
   | false =>
    rw [Bool.not_false,Bool.true_and] at hfd
    rw [hfd] at hI
    (repeat' (first | (refine aN (fun h=>?_) (fun h=>?_)<;>(try simp [-List.getD_eq_getElem?_getD,-Int.pred_toNat] at h)<;>(try (exfalso; first | omega | contradiction))) | (refine rNG ?_) | (refine bN2 ?_) | (refine bN3 ?_) | (intro _)))
    refine Or.inl (eX _ (aN (hC) ?_))
    cases q with
    | true =>
     rw [Bool.true_and] at hI
     (repeat' (first | (refine aN (fun h=>?_) (fun h=>?_)<;>(try simp [-List.getD_eq_getElem?_getD,-Int.pred_toNat] at h)<;>(try (exfalso; first | omega | contradiction))) | (refine rNG ?_) | (refine bN2 ?_) | (refine bN3 ?_) | (intro _)))
     refine eX [] (eX (j + 1) (aN ⟨hi,hI⟩ (aN ?_ ?_)))
     ·(repeat' (first | exact trivial | exact Or.inl rfl | exact Or.inr (Or.inl ⟨rfl,_,rfl⟩) | exact Or.inr (Or.inr (Or.inr ⟨_,_,_,rfl,rfl⟩)) | refine aN ?_ ?_))
     ·(exact Nat.sub_lt_sub_left (by omega) (by omega))
    | false =>
     rw [Bool.false_and] at hI
     rw [hI]
     (repeat' (first | (refine aN (fun h=>?_) (fun h=>?_)<;>(try simp [-List.getD_eq_getElem?_getD,-Int.pred_toNat] at h)<;>(try (exfalso; first | omega | contradiction))) | (refine rNG ?_) | (refine bN2 ?_) | (refine bN3 ?_) | (intro _)))
     rfl
  | false =>
   rw [hh,Bool.false_and,Bool.not_false,Bool.true_and] at hfd
   rw [hfd] at hI
   (repeat' (first | (refine aN (fun h=>?_) (fun h=>?_)<;>(try simp [-List.getD_eq_getElem?_getD,-Int.pred_toNat] at h)<;>(try (exfalso; first | omega | contradiction))) | (refine rNG ?_) | (refine bN2 ?_) | (refine bN3 ?_) | (intro _)))
   refine Or.inl (eX _ (aN (hC) ?_))
   cases q with
   | true =>
    rw [Bool.true_and] at hI
    (repeat' (first | (refine aN (fun h=>?_) (fun h=>?_)<;>(try simp [-List.getD_eq_getElem?_getD,-Int.pred_toNat] at h)<;>(try (exfalso; first | omega | contradiction))) | (refine rNG ?_) | (refine bN2 ?_) | (refine bN3 ?_) | (intro _)))
    refine eX [] (eX (j + 1) (aN ⟨hi,hI⟩ (aN ?_ ?_)))
    ·(repeat' (first | exact trivial | exact Or.inl rfl | exact Or.inr (Or.inl ⟨rfl,_,rfl⟩) | exact Or.inr (Or.inr (Or.inr ⟨_,_,_,rfl,rfl⟩)) | refine aN ?_ ?_))
    ·(exact Nat.sub_lt_sub_left (by omega) (by omega))
   | false =>
    rw [Bool.false_and] at hI
    rw [hI]
    (repeat' (first | (refine aN (fun h=>?_) (fun h=>?_)<;>(try simp [-List.getD_eq_getElem?_getD,-Int.pred_toNat] at h)<;>(try (exfalso; first | omega | contradiction))) | (refine rNG ?_) | (refine bN2 ?_) | (refine bN3 ?_) | (intro _)))
    rfl
 (have hi:=geD hi hz)
 rw [List.drop_eq_nil_of_le (by omega),List.all_nil] at hI
 rw [hI]
 (repeat' (first | (refine aN (fun h=>?_) (fun h=>?_)<;>(try simp [-List.getD_eq_getElem?_getD,-Int.pred_toNat] at h)<;>(try (exfalso; first | omega | contradiction))) | (refine rNG ?_) | (refine bN2 ?_) | (refine bN3 ?_) | (intro _)))
 rfl
theorem s_jdef (hu:HasU8) (s:SchemaR) (hs:GS s) (t:TypR) (ht:inS s t) (ih:∀ x ∈ Ty.inside t,PSpec Tryd.prog 107 [.rp (jdg s true),.agg (encTyp x)] (.b (allD s.defs x))):PSpec Tryd.prog 107 [.rp (jdg s true),.agg (encTyp t)] (.b (allD s.defs t)) :=
 pspec_of_vc Γ_good Tryd.func107 rfl Tryd.call107 Tryd.results107 Tryd.ntmps107 (Nat.le_of_ble_eq_true rfl) (w_jdef hu s hs t ht ih)
theorem jdef_spec (hu:HasU8) {s:SchemaR} (hs:GS s):∀ (k:Nat) (t:TypR),SizeOf.sizeOf t < k→inS s t→PSpec Tryd.prog 107 [.rp (jdg s true),.agg (encTyp t)] (.b (allD s.defs t)):=by
 intro k
 induction k with
 | zero=>intro t h; exact absurd h (Nat.not_lt_zero _)
 | succ k ih =>
  intro t h ht
  exact s_jdef hu s hs t ht fun x hx=>ih x (by have:=size_inside hx; omega) (inS_in ht x hx)
end
end Go.Proofs.YtdcdmojbkmedpaaDoor
end
section
namespace Go.Proofs.YtdcdmojbkmedpaaDoor
open Go Go.SX Go.Ck Go.Vl Go.Ut Go.Ty
set_option maxRecDepth 100000
set_option maxHeartbeats 8000000
noncomputable def whyF (s:SchemaR) (z:Val):List PStep × Bool × Int :=
 if typsF s≠0 then ([],false,typsF s) else if (chkV z 0 0).1≠0 then ([],false,(chkV z 0 0).1) else ((wrV s.defs false z s.root).1,!(wrV s.defs false z s.root).2,0)
section
variable [G:Globs]
theorem w_fcheck (hu:HasU8) (s:SchemaR) (hd:∀ d ∈ s.defs,TB d.t) (hr:TB s.root) (hn:s.defs.length≤2000000):vc Tryd.prog Γ 33 [1,2,3,4,6,10,14,16,17,18,19,26,32] (Tryd.f47.body.getD .skip) (postK Γ [.tmp 2] (fun v=>v = .i .i64 (typsF s))) ⟨argSlots 0 [.agg (encSch s)],[]⟩:=by
 have hC:=s_tcheck hu s hd hr
 have hR:typsF s = orI (checkS s) (if ((allP s).all fun p=>okD s.defs p.t) = true then 0 else 12):=rfl
 generalize typsF s = R at hR ⊢
 by_cases c1:checkS s = 0
 rotate_left
 ·rw [orI_ne c1] at hR
  rw [hR]
  (repeat' (first | (refine aN (fun h=>?_) (fun h=>?_)<;>(try simp [-List.getD_eq_getElem?_getD,-Int.pred_toNat] at h)<;>(try (exfalso; first | omega | contradiction))) | (refine rNG ?_) | (refine bN2 ?_) | (refine bN3 ?_) | (intro _)))
  refine Or.inl (eX _ (aN (hC) ?_))
  (repeat' (first | (refine aN (fun h=>?_) (fun h=>?_)<;>(try simp [-List.getD_eq_getElem?_getD,-Int.pred_toNat] at h)<;>(try (exfalso; first | omega | contradiction))) | (refine rNG ?_) | (refine bN2 ?_) | (refine bN3 ?_) | (intro _)))
  rfl
 have hs:=gs_of hd hr c1
 rw [c1,orI_zero,allP_D] at hR
 rw [c1] at hC
 have hR:R = if ((s.defs.drop 0).all (fun d=>allD s.defs d.t) && allD s.defs s.root) = true then 0 else 12:=hR
 (repeat' (first | (refine aN (fun h=>?_) (fun h=>?_)<;>(try simp [-List.getD_eq_getElem?_getD,-Int.pred_toNat] at h)<;>(try (exfalso; first | omega | contradiction))) | (refine rNG ?_) | (refine bN2 ?_) | (refine bN3 ?_) | (intro _)))
 refine Or.inl (eX _ (aN (hC) ?_))
 (repeat' (first | (refine aN (fun h=>?_) (fun h=>?_)<;>(try simp [-List.getD_eq_getElem?_getD,-Int.pred_toNat] at h)<;>(try (exfalso; first | omega | contradiction))) | (refine rNG ?_) | (refine bN2 ?_) | (refine bN3 ?_) | (intro _)))
 refine eX [] (eX [] (eX [] (eX Nat (eX (fun i=>i≤s.defs.length∧R = if ((s.defs.drop i).all (fun d=>allD s.defs d.t) && allD s.defs s.root) = true then 0 else 12) (eX (fun | 0=>⟨[(1,.pt 1 0),(4,.pt 14 0),(16,.rd .dfn s.defs),(17,.i .i64 s.defs.length),(18,.i .i64 ((0:Nat):Int))],[(1,encSch s),(14,jdg s true)]⟩ | (j + 1)=>⟨[(1,.pt 1 0),(4,.rp (jdg s true)),(16,.rd .dfn s.defs),(17,.i .i64 s.defs.length),(18,.i .i64 ((j + 1:Nat):Int))],[(1,encSch s)]⟩) (eX (fun i=>s.defs.length - i) (eX 0 (aN ⟨Nat.zero_le _,hR⟩ (aN ?_ ?_)))))))))
 ·(repeat' (first | exact trivial | exact Or.inl rfl | exact Or.inr (Or.inl ⟨rfl,_,rfl⟩) | exact Or.inr (Or.inr (Or.inr ⟨_,_,_,rfl,rfl⟩)) | refine aN ?_ ?_))
 rintro i ⟨hi,hI⟩
 cases i with
 | zero =>
  refine aN (fun hz=>?_) (fun hz=>?_)
  ·have hi:=ltD hz
   have hg:=getI (τ:=.dfn) hi
   refine bN2 ?_
   rw [hg]
   have hx:=List.getElem_mem hi
   have hD:=jdef_spec hu hs _ s.defs[0].t (Nat.lt_succ_self _) (inS_def hx)
   rw [List.drop_eq_getElem_cons hi,List.all_cons] at hI
   generalize allD s.defs s.defs[0].t = q at hI hD
   (repeat' (first | (refine aN (fun h=>?_) (fun h=>?_)<;>(try simp [-List.getD_eq_getElem?_getD,-Int.pred_toNat] at h)<;>(try (exfalso; first | omega | contradiction))) | (refine rNG ?_) | (refine bN2 ?_) | (refine bN3 ?_) | (intro _)))
   refine Or.inr (Or.inr (Or.inr (Or.inl (eX [14] (eX _ (aN (hD) ?_))))))
   cases q with
   | false =>
    rw [Bool.false_and,Bool.false_and,if_neg (by decide)] at hI
    rw [hI]
    (repeat' (first | (refine aN (fun h=>?_) (fun h=>?_)<;>(try simp [-List.getD_eq_getElem?_getD,-Int.pred_toNat] at h)<;>(try (exfalso; first | omega | contradiction))) | (refine rNG ?_) | (refine bN2 ?_) | (refine bN3 ?_) | (intro _)))
    rfl
   | true =>
    rw [Bool.true_and] at hI
    (repeat' (first | (refine aN (fun h=>?_) (fun h=>?_)<;>(try simp [-List.getD_eq_getElem?_getD,-Int.pred_toNat] at h)<;>(try (exfalso; first | omega | contradiction))) | (refine rNG ?_) | (refine bN2 ?_) | (refine bN3 ?_) | (intro _)))
    refine eX [] (eX (0 + 1) (aN ⟨hi,hI⟩ (aN ?_ ?_)))
    ·(repeat' (first | exact trivial | exact Or.inl rfl | exact Or.inr (Or.inl ⟨rfl,_,rfl⟩) | exact Or.inr (Or.inr (Or.inr ⟨_,_,_,rfl,rfl⟩)) | refine aN ?_ ?_))
    ·(exact Nat.sub_lt_sub_left (by omega) (by omega))
  ·(have hi:=geD hi hz)
   have hD:=jdef_spec hu hs _ s.root (Nat.lt_succ_self _) (inS_root s)
   rw [List.drop_eq_nil_of_le (by omega),List.all_nil,Bool.true_and] at hI
   generalize allD s.defs s.root = q at hI hD
   (repeat' (first | (refine aN (fun h=>?_) (fun h=>?_)<;>(try simp [-List.getD_eq_getElem?_getD,-Int.pred_toNat] at h)<;>(try (exfalso; first | omega | contradiction))) | (refine rNG ?_) | (refine bN2 ?_) | (refine bN3 ?_) | (intro _)))
   refine Or.inr (Or.inr (Or.inr (Or.inl (eX [14] (eX _ (aN (hD) ?_))))))
   cases q with
   | false =>
    rw [if_neg (by decide)] at hI
    rw [hI]
    (repeat' (first | (refine aN (fun h=>?_) (fun h=>?_)<;>(try simp [-List.getD_eq_getElem?_getD,-Int.pred_toNat] at h)<;>(try (exfalso; first | omega | contradiction))) | (refine rNG ?_) | (refine bN2 ?_) | (refine bN3 ?_) | (intro _)))
    rfl
   | true =>
    rw [if_pos rfl] at hI
    rw [hI]
    (repeat' (first | (refine aN (fun h=>?_) (fun h=>?_)<;>(try simp [-List.getD_eq_getElem?_getD,-Int.pred_toNat] at h)<;>(try (exfalso; first | omega | contradiction))) | (refine rNG ?_) | (refine bN2 ?_) | (refine bN3 ?_) | (intro _)))
    rfl
 | succ j =>
  refine aN (fun hz=>?_) (fun hz=>?_)
  ·have hi:=ltD hz
   have hg:=getI (τ:=.dfn) hi
   refine bN2 ?_
   rw [hg]
   have hx:=List.getElem_mem hi
   have hD:=jdef_spec hu hs _ s.defs[j + 1].t (Nat.lt_succ_self _) (inS_def hx)
   rw [List.drop_eq_getElem_cons hi,List.all_cons] at hI
   generalize allD s.defs s.defs[j + 1].t = q at hI hD
   (repeat' (first | (refine aN (fun h=>?_) (fun h=>?_)<;>(try simp [-List.getD_eq_getElem?_getD,-Int.pred_toNat] at h)<;>(try (exfalso; first | omega | contradiction))) | (refine rNG ?_) | (refine bN2 ?_) | (refine bN3 ?_) | (intro _)))
   refine Or.inl (eX _ (aN (hD) ?_))
   cases q with
   | false =>
    rw [Bool.false_and,Bool.false_and,if_neg (by decide)] at hI
    rw [hI]
    (repeat' (first | (refine aN (fun h=>?_) (fun h=>?_)<;>(try simp [-List.getD_eq_getElem?_getD,-Int.pred_toNat] at h)<;>(try (exfalso; first | omega | contradiction))) | (refine rNG ?_) | (refine bN2 ?_) | (refine bN3 ?_) | (intro _)))
    rfl
   | true =>
    rw [Bool.true_and] at hI
    (repeat' (first | (refine aN (fun h=>?_) (fun h=>?_)<;>(try simp [-List.getD_eq_getElem?_getD,-Int.pred_toNat] at h)<;>(try (exfalso; first | omega | contradiction))) | (refine rNG ?_) | (refine bN2 ?_) | (refine bN3 ?_) | (intro _)))
    refine eX [] (eX (j + 1 + 1) (aN ⟨hi,hI⟩ (aN ?_ ?_)))
    ·(repeat' (first | exact trivial | exact Or.inl rfl | exact Or.inr (Or.inl ⟨rfl,_,rfl⟩) | exact Or.inr (Or.inr (Or.inr ⟨_,_,_,rfl,rfl⟩)) | refine aN ?_ ?_))
    ·(exact Nat.sub_lt_sub_left (by omega) (by omega))
  ·(have hi:=geD hi hz)
   have hD:=jdef_spec hu hs _ s.root (Nat.lt_succ_self _) (inS_root s)
   rw [List.drop_eq_nil_of_le (by omega),List.all_nil,Bool.true_and] at hI
   generalize allD s.defs s.root = q at hI hD
   (repeat' (first | (refine aN (fun h=>?_) (fun h=>?_)<;>(try simp [-List.getD_eq_getElem?_getD,-Int.pred_toNat] at h)<;>(try (exfalso; first | omega | contradiction))) | (refine rNG ?_) | (refine bN2 ?_) | (refine bN3 ?_) | (intro _)))
   refine Or.inl (eX _ (aN (hD) ?_))
   cases q with
   | false =>
    rw [if_neg (by decide)] at hI
    rw [hI]
    (repeat' (first | (refine aN (fun h=>?_) (fun h=>?_)<;>(try simp [-List.getD_eq_getElem?_getD,-Int.pred_toNat] at h)<;>(try (exfalso; first | omega | contradiction))) | (refine rNG ?_) | (refine bN2 ?_) | (refine bN3 ?_) | (intro _)))
    rfl
   | true =>
    rw [if_pos rfl] at hI
    rw [hI]
    (repeat' (first | (refine aN (fun h=>?_) (fun h=>?_)<;>(try simp [-List.getD_eq_getElem?_getD,-Int.pred_toNat] at h)<;>(try (exfalso; first | omega | contradiction))) | (refine rNG ?_) | (refine bN2 ?_) | (refine bN3 ?_) | (intro _)))
    rfl
theorem s_fcheck (hu:HasU8) (s:SchemaR) (hd:∀ d ∈ s.defs,TB d.t) (hr:TB s.root) (hn:s.defs.length≤2000000):PSpec Tryd.prog 47 [.agg (encSch s)] (.i .i64 (typsF s)) :=
 pspec_of_vc Γ_good Tryd.func47 rfl Tryd.call47 Tryd.results47 Tryd.ntmps47 (Nat.le_of_ble_eq_true rfl) (w_fcheck hu s hd hr hn)
theorem w_why (hu:HasU8) (s:SchemaR) (hd:∀ d ∈ s.defs,TB d.t) (hr:TB s.root) (hn:s.defs.length≤2000000) (z:Val) (hz:VB z) (hzn:(sizV z).2≤1000000000):vc Tryd.prog Γ 34 [2,3,4,5,6,7,8,9,10,14,19,24] (Tryd.f46.body.getD .skip) (postK Γ [.tmp 4,.tmp 5,.tmp 6] (fun v=>RL v (.tup [.rd .pstep (whyF s z).1,.b (whyF s z).2.1,.i .i64 (whyF s z).2.2]))) ⟨argSlots 0 [.agg (encSch s),.agg (encVal z)],[]⟩:=by
 have hC:=s_fcheck hu s hd hr hn
 have hV:=s_Check hu z hz hzn
 have hR:whyF s z = if typsF s≠0 then ([],false,typsF s) else if (chkV z 0 0).1≠0 then ([],false,(chkV z 0 0).1) else ((wrV s.defs false z s.root).1,!(wrV s.defs false z s.root).2,0):=rfl
 generalize whyF s z = R at hR ⊢
 by_cases c1:typsF s = 0
 rotate_left
 ·rw [if_pos c1] at hR
  subst hR
  (repeat' (first | (refine aN (fun h=>?_) (fun h=>?_)<;>(try simp [-List.getD_eq_getElem?_getD,-Int.pred_toNat] at h)<;>(try (exfalso; first | omega | contradiction))) | (refine rNG ?_) | (refine bN2 ?_) | (refine bN3 ?_) | (intro _)))
  refine Or.inl (eX _ (aN (hC) ?_))
  (repeat' (first | (refine aN (fun h=>?_) (fun h=>?_)<;>(try simp [-List.getD_eq_getElem?_getD,-Int.pred_toNat] at h)<;>(try (exfalso; first | omega | contradiction))) | (refine rNG ?_) | (refine bN2 ?_) | (refine bN3 ?_) | (intro _)))
  (repeat' (first | exact trivial | exact Or.inl rfl | exact Or.inr ⟨rfl,_,rfl⟩ | refine aN ?_ ?_))
 rw [if_neg (fun h=>h c1)] at hR
 rw [c1] at hC
 by_cases c2:(chkV z 0 0).1 = 0
 rotate_left
 ·rw [if_pos c2] at hR
  subst hR
  (repeat' (first | (refine aN (fun h=>?_) (fun h=>?_)<;>(try simp [-List.getD_eq_getElem?_getD,-Int.pred_toNat] at h)<;>(try (exfalso; first | omega | contradiction))) | (refine rNG ?_) | (refine bN2 ?_) | (refine bN3 ?_) | (intro _)))
  refine Or.inl (eX _ (aN (hC) ?_))
  (repeat' (first | (refine aN (fun h=>?_) (fun h=>?_)<;>(try simp [-List.getD_eq_getElem?_getD,-Int.pred_toNat] at h)<;>(try (exfalso; first | omega | contradiction))) | (refine rNG ?_) | (refine bN2 ?_) | (refine bN3 ?_) | (intro _)))
  refine Or.inl (eX _ (aN (hV) ?_))
  (repeat' (first | (refine aN (fun h=>?_) (fun h=>?_)<;>(try simp [-List.getD_eq_getElem?_getD,-Int.pred_toNat] at h)<;>(try (exfalso; first | omega | contradiction))) | (refine rNG ?_) | (refine bN2 ?_) | (refine bN3 ?_) | (intro _)))
  (repeat' (first | exact trivial | exact Or.inl rfl | exact Or.inr ⟨rfl,_,rfl⟩ | refine aN ?_ ?_))
 rw [if_neg (fun h=>h c2)] at hR
 rw [c2] at hV
 have c3:checkS s = 0:=(Up.orI_0 c1).1
 have hW:=jwrong_spec hu (gs_of hd hr c3) false 20 (by decide) z (gv_chk hz c2) s.root (inS_root s)
 generalize wrV s.defs false z s.root = w at hR hW
 subst hR
 (repeat' (first | (refine aN (fun h=>?_) (fun h=>?_)<;>(try simp [-List.getD_eq_getElem?_getD,-Int.pred_toNat] at h)<;>(try (exfalso; first | omega | contradiction))) | (refine rNG ?_) | (refine bN2 ?_) | (refine bN3 ?_) | (intro _)))
 refine Or.inl (eX _ (aN (hC) ?_))
 (repeat' (first | (refine aN (fun h=>?_) (fun h=>?_)<;>(try simp [-List.getD_eq_getElem?_getD,-Int.pred_toNat] at h)<;>(try (exfalso; first | omega | contradiction))) | (refine rNG ?_) | (refine bN2 ?_) | (refine bN3 ?_) | (intro _)))
 refine Or.inl (eX _ (aN (hV) ?_))
 (repeat' (first | (refine aN (fun h=>?_) (fun h=>?_)<;>(try simp [-List.getD_eq_getElem?_getD,-Int.pred_toNat] at h)<;>(try (exfalso; first | omega | contradiction))) | (refine rNG ?_) | (refine bN2 ?_) | (refine bN3 ?_) | (intro _)))
 refine Or.inr (Or.inr (Or.inr (Or.inl (eX [24] (eX _ (aN (hW) ?_))))))
 (repeat' (first | (refine aN (fun h=>?_) (fun h=>?_)<;>(try simp [-List.getD_eq_getElem?_getD,-Int.pred_toNat] at h)<;>(try (exfalso; first | omega | contradiction))) | (refine rNG ?_) | (refine bN2 ?_) | (refine bN3 ?_) | (intro _)))
 (repeat' (first | exact trivial | exact Or.inl rfl | exact Or.inr ⟨rfl,_,rfl⟩ | refine aN ?_ ?_))
theorem s_why (hu:HasU8) (s:SchemaR) (hd:∀ d ∈ s.defs,TB d.t) (hr:TB s.root) (hn:s.defs.length≤2000000) (z:Val) (hz:VB z) (hzn:(sizV z).2≤1000000000):PSpec Tryd.prog 46 [.agg (encSch s),.agg (encVal z)] (.tup [.rd .pstep (whyF s z).1,.b (whyF s z).2.1,.i .i64 (whyF s z).2.2]) :=
 pspec_of_vcL Γ_good Tryd.func46 rfl Tryd.call46 Tryd.results46 Tryd.ntmps46 (Nat.le_of_ble_eq_true rfl) (w_why hu s hd hr hn z hz hzn)
theorem w_ffits (hu:HasU8) (s:SchemaR) (hd:∀ d ∈ s.defs,TB d.t) (hr:TB s.root) (hn:s.defs.length≤2000000) (z:Val) (hz:VB z) (hzn:(sizV z).2≤1000000000):vc Tryd.prog Γ 18 [2,3,4,5,7,8] (Tryd.f45.body.getD .skip) (postK Γ [.tmp 4,.tmp 5] (fun v=>v = .tup [.b (whyF s z).2.1,.i .i64 (whyF s z).2.2])) ⟨argSlots 0 [.agg (encSch s),.agg (encVal z)],[]⟩:=by
 have hC:=s_why hu s hd hr hn z hz hzn
 generalize whyF s z = R at hC ⊢
 (repeat' (first | (refine aN (fun h=>?_) (fun h=>?_)<;>(try simp [-List.getD_eq_getElem?_getD,-Int.pred_toNat] at h)<;>(try (exfalso; first | omega | contradiction))) | (refine rNG ?_) | (refine bN2 ?_) | (refine bN3 ?_) | (intro _)))
 refine Or.inl (eX _ (aN (hC) ?_))
 (repeat' (first | (refine aN (fun h=>?_) (fun h=>?_)<;>(try simp [-List.getD_eq_getElem?_getD,-Int.pred_toNat] at h)<;>(try (exfalso; first | omega | contradiction))) | (refine rNG ?_) | (refine bN2 ?_) | (refine bN3 ?_) | (intro _)))
 rfl
theorem s_ffits (hu:HasU8) (s:SchemaR) (hd:∀ d ∈ s.defs,TB d.t) (hr:TB s.root) (hn:s.defs.length≤2000000) (z:Val) (hz:VB z) (hzn:(sizV z).2≤1000000000):PSpec Tryd.prog 45 [.agg (encSch s),.agg (encVal z)] (.tup [.b (whyF s z).2.1,.i .i64 (whyF s z).2.2]) :=
 pspec_of_vc Γ_good Tryd.func45 rfl Tryd.call45 Tryd.results45 Tryd.ntmps45 (Nat.le_of_ble_eq_true rfl) (w_ffits hu s hd hr hn z hz hzn)
end
end Go.Proofs.YtdcdmojbkmedpaaDoor
end
section
namespace Go.Proofs.YtdcdmojbkmedpaaDoor
open Go Go.SX Go.Ck Go.Vl Go.Ut Go.Ty
set_option maxRecDepth 100000
set_option maxHeartbeats 8000000
theorem flds_ne {l:List Fld} (h:fdsF none l = 0) {i j:Nat} (hij:i < j) (hj:j < l.length):l[i].name≠l[j].name:=by
 obtain ⟨h1,_,_⟩:=fds_rise l none h
 exact Up.less_ne' (List.pairwise_iff_getElem.1 h1 i j (by omega) hj hij)
theorem fldOf_at {l:List Fld} {k:Str} {i:Nat} (hi:i < l.length) (hk:l[i].name = k) (hb:∀ j,j < i→∀ h:j < l.length,l[j].name≠k):fldOf l k = some l[i]:=by
 have e:l.findIdx (fun f=>f.name == k) = i:=(List.findIdx_eq hi).2 ⟨beq_iff_eq.2 hk,fun j hj=>beq_eq_false_iff_ne.2 (hb j hj (by omega))⟩
 rw [(fld_ix k l).1 (by rw [e]; exact hi),e,List.getD_eq_getElem?_getD,List.getElem?_eq_getElem hi]
 rfl
theorem fldOf_no {l:List Fld} {k:Str} (hb:∀ j,∀ h:j < l.length,l[j].name≠k):fldOf l k = none:=by
 unfold fldOf
 rw [List.find?_eq_none]
 intro x hx
 obtain ⟨j,hj,rfl⟩:=List.getElem_of_mem hx
 rw [beq_iff_eq]
 exact hb j hj
section
variable [G:Globs]
theorem w_ron (s:SchemaR) (full:Bool) (z:Val) (t:TypR) (p:PStep) (hl:(wrV s.defs full z t).1.length≤100) (hW:PSpec Tryd.prog 50 [.agg (encSch s),.agg (encTyp t),.agg (encVal z),.b full] (.tup [.rd .pstep (wrV s.defs full z t).1,.b (wrV s.defs full z t).2])):vc Tryd.prog Γ 25 [3,4,5,6,7,8,9,10,11] (Tryd.f108.body.getD .skip) (postK Γ [.tmp 8,.tmp 9] (fun v=>RL v (.tup [.rd .pstep (p::(wrV s.defs full z t).1),.b (wrV s.defs full z t).2]))) ⟨argSlots 0 [.agg (encTyp t),.agg (encVal z),.agg (enc .pstep p),.rp (encSch s),.rp [.b full]],[]⟩:=by
 generalize wrV s.defs full z t = q at hl hW ⊢
 (repeat' (first | (refine aN (fun h=>?_) (fun h=>?_)<;>(try simp [-List.getD_eq_getElem?_getD,-Int.pred_toNat] at h)<;>(try (exfalso; first | omega | contradiction))) | (refine rNG ?_) | (refine bN2 ?_) | (refine bN3 ?_) | (intro _)))
 refine Or.inl (eX _ (aN (hW) ?_))
 (repeat' (first | (refine aN (fun h=>?_) (fun h=>?_)<;>(try simp [-List.getD_eq_getElem?_getD,-Int.pred_toNat] at h)<;>(try (exfalso; first | omega | contradiction))) | (refine rNG ?_) | (refine bN2 ?_) | (refine bN3 ?_) | (intro _)))
 (refine aN (Go.Ty.szB (by (try simp only [List.length_append,List.length_cons,List.length_nil,List.length_map,List.length_take,List.length_drop]); omega) (Nat.le_of_ble_eq_true rfl)) ?_)
 (repeat' (first | (refine aN (fun h=>?_) (fun h=>?_)<;>(try simp [-List.getD_eq_getElem?_getD,-Int.pred_toNat] at h)<;>(try (exfalso; first | omega | contradiction))) | (refine rNG ?_) | (refine bN2 ?_) | (refine bN3 ?_) | (intro _)))
 (repeat' (first | exact trivial | exact Or.inl rfl | exact Or.inr ⟨rfl,_,rfl⟩ | refine aN ?_ ?_))
theorem s_ron (s:SchemaR) (full:Bool) (z:Val) (t:TypR) (p:PStep) (hl:(wrV s.defs full z t).1.length≤100) (hW:PSpec Tryd.prog 50 [.agg (encSch s),.agg (encTyp t),.agg (encVal z),.b full] (.tup [.rd .pstep (wrV s.defs full z t).1,.b (wrV s.defs full z t).2])):PSpec Tryd.prog 108 [.agg (encTyp t),.agg (encVal z),.agg (enc .pstep p),.rp (encSch s),.rp [.b full]] (.tup [.rd .pstep (p::(wrV s.defs full z t).1),.b (wrV s.defs full z t).2]) :=
 pspec_of_vcL Γ_good Tryd.func108 rfl Tryd.call108 Tryd.results108 Tryd.ntmps108 (Nat.le_of_ble_eq_true rfl) (w_ron s full z t p hl hW)
theorem w_rrec (s:SchemaR) (hs:GS s) (full:Bool) (d:Nat) (hd:d≤50) (x:TypR) (hx:inS s x) (hk:x.kind = 10) (z:Val) (hv:GV (d + 1) z) (ih:∀ u,GV d u→∀ y,inS s y→PSpec Tryd.prog 50 [.agg (encSch s),.agg (encTyp y),.agg (encVal u),.b full] (.tup [.rd .pstep (wrV s.defs full u y).1,.b (wrV s.defs full u y).2])):vc Tryd.prog Γ 87 [0,2,3,5,8,9,11,12,14,15,16,18,20,21,22,23,26,27,28,29,36,49,53,59,60,61,62,70,85] (Tryd.f110.body.getD .skip) (postK Γ [.tmp 8,.tmp 9] (fun v=>RL v (.tup [.rd .pstep (wrR s.defs full z.e x.f (miss full x.f z.e)).1,.b (wrR s.defs full z.e x.f (miss full x.f z.e)).2]))) ⟨argSlots 0 [.rd .fld x.f,.agg (encVal z),.b full,.fn 108 [.rp (encSch s),.rp [.b full]]],[]⟩:=by
 have hA:wrR s.defs full z.e x.f (miss full x.f z.e) = wrR s.defs full (z.e.drop 0) x.f (miss full x.f z.e):=rfl
 generalize wrR s.defs full z.e x.f (miss full x.f z.e) = R at hA ⊢
 have hfl:=(by cases hs.tb x hx; omega:x.f.length≤2000000)
 have hel:=(by cases hv; omega:z.e.length≤200)
 have hve:=(by cases hv; assumption:∀ p ∈ z.e,GV d p.2)
 have hne:=fun {i j:Nat}=>flds_ne (i:=i) (j:=j) (hs.flds hx hk)
 (repeat' (first | (refine aN (fun h=>?_) (fun h=>?_)<;>(try simp [-List.getD_eq_getElem?_getD,-Int.pred_toNat] at h)<;>(try (exfalso; first | omega | contradiction))) | (refine rNG ?_) | (refine bN2 ?_) | (refine bN3 ?_) | (intro _)))
 refine eX [] (eX [] (eX [] (eX Nat (eX (fun i=>i≤(z.e).length∧(R = wrR s.defs full (z.e.drop i) x.f (miss full x.f z.e))) (eX (fun i=>⟨[(0,.rd .fld x.f),(2,.b full),(3,.fn 108 [.rp (encSch s),.rp [.b full]]),(5,.pt 5 0),(20,.rd .ent z.e),(21,.i .i64 z.e.length),(22,.i .i64 i)],[(5,encVal z)]⟩) (eX (fun i=>(z.e).length - i) (eX 0 (aN ⟨Nat.zero_le _,hA⟩ (aN ?_ ?_)))))))))
 ·(repeat' (first | exact trivial | exact Or.inl rfl | exact Or.inr (Or.inl ⟨rfl,_,rfl⟩) | exact Or.inr (Or.inr (Or.inr ⟨_,_,_,rfl,rfl⟩)) | refine aN ?_ ?_))
 rintro i ⟨hi,hI⟩
 refine aN (fun hz=>?_) (fun hz=>?_)
 ·have hi:=ltD hz
  have hg:=getI (τ:=.ent) hi
  refine bN2 ?_
  rw [hg]
  have hg9:=hve _ (List.getElem_mem hi)
  rw [wrR_drop s.defs full hi] at hI
  (repeat' (first | (refine aN (fun h=>?_) (fun h=>?_)<;>(try simp [-List.getD_eq_getElem?_getD,-Int.pred_toNat] at h)<;>(try (exfalso; first | omega | contradiction))) | (refine rNG ?_) | (refine bN2 ?_) | (refine bN3 ?_) | (intro _)))
  refine eX [] (eX [] (eX [] (eX (Nat × Bool) (eX (fun q=>q.1≤x.f.length∧((q.2 = false∧∀ j,j < q.1→∀ h:j < x.f.length,x.f[j].name≠z.e[i].1)∨(q.2 = true∧(∀ j,q.1≤j→∀ h:j < x.f.length,x.f[j].name≠z.e[i].1)∧∃ f,fldOf x.f z.e[i].1 = some f∧(wrV s.defs full z.e[i].2 f.t).2 = false))) (eX (fun ⟨j,b⟩=>⟨[(0,.rd .fld x.f),(2,.b full),(3,.fn 108 [.rp (encSch s),.rp [.b full]]),(5,.pt 5 0),(11,.pt 11 0),(12,.b b),(20,.rd .ent z.e),(21,.i .i64 z.e.length),(22,.i .i64 i),(26,.rd .fld x.f),(27,.i .i64 x.f.length),(28,.i .i64 j)],[(5,encVal z),(11,enc .ent z.e[i])]⟩) (eX (fun q=>x.f.length - q.1) (eX (0,false) (aN ⟨Nat.zero_le _,.inl ⟨rfl,fun j h=>absurd h (Nat.not_lt_zero _)⟩⟩ (aN ?_ ?_)))))))))
  ·(repeat' (first | exact trivial | exact Or.inl rfl | exact Or.inr (Or.inl ⟨rfl,_,rfl⟩) | exact Or.inr (Or.inr (Or.inr ⟨_,_,_,rfl,rfl⟩)) | refine aN ?_ ?_))
  rintro ⟨j,b⟩ ⟨hj,hJ⟩
  dsimp only at hj hJ
  refine aN (fun hz2=>?_) (fun hz2=>?_)
  ·have hj:=ltD hz2
   have hg:=getI (τ:=.fld) hj
   refine bN2 ?_
   rw [hg]
   have hfi:inS s x.f[j].t:=inS_in hx _ (List.mem_append_right _ (List.mem_map.2 ⟨_,List.getElem_mem hj,rfl⟩))
   have hON:=s_ron s full z.e[i].2 x.f[j].t ⟨z.e[i].1,-1⟩ (by have:=wr_len s.defs full d _ hg9 x.f[j].t; omega) (ih _ hg9 _ hfi)
   by_cases hq:x.f[j].name = z.e[i].1
   ·have hJ1 : b = false ∧ ∀ j', j' < j → ∀ h : j' < x.f.length, x.f[j'].name ≠ z.e[i].1 := by
     rcases hJ with h | ⟨_,h,_⟩
     ·exact h
     ·exact absurd hq (h j (Nat.le_refl _) hj)
    have hfo:=fldOf_at hj hq hJ1.2
    have hJ2:∀ j',j + 1≤j'→∀ h:j' < x.f.length,x.f[j'].name≠z.e[i].1:=fun j' h1 h2=>by
     rw [← hq]
     exact (hne (by omega) h2).symm
    rw [hfo] at hI
    dsimp only at hI
    (repeat' (first | (refine aN (fun h=>?_) (fun h=>?_)<;>(try simp [-List.getD_eq_getElem?_getD,-Int.pred_toNat] at h)<;>(try (exfalso; first | omega | contradiction))) | (refine rNG ?_) | (refine bN2 ?_) | (refine bN3 ?_) | (intro _)))
    refine Or.inl (eX _ (aN (hON) ?_))
    cases hw:(wrV s.defs full z.e[i].2 x.f[j].t).2 with
    | true =>
     rw [hw,if_pos rfl] at hI
     rw [hI]
     (repeat' (first | (refine aN (fun h=>?_) (fun h=>?_)<;>(try simp [-List.getD_eq_getElem?_getD,-Int.pred_toNat] at h)<;>(try (exfalso; first | omega | contradiction))) | (refine rNG ?_) | (refine bN2 ?_) | (refine bN3 ?_) | (intro _)))
     (repeat' (first | exact trivial | exact Or.inl rfl | exact Or.inr ⟨rfl,_,rfl⟩ | refine aN ?_ ?_))
    | false =>
     (repeat' (first | (refine aN (fun h=>?_) (fun h=>?_)<;>(try simp [-List.getD_eq_getElem?_getD,-Int.pred_toNat] at h)<;>(try (exfalso; first | omega | contradiction))) | (refine rNG ?_) | (refine bN2 ?_) | (refine bN3 ?_) | (intro _)))
     refine eX [] (eX (j + 1,true) (aN ⟨hj,.inr ⟨rfl,hJ2,_,hfo,hw⟩⟩ (aN ?_ ?_)))
     ·(repeat' (first | exact trivial | exact Or.inl rfl | exact Or.inr (Or.inl ⟨rfl,_,rfl⟩) | exact Or.inr (Or.inr (Or.inr ⟨_,_,_,rfl,rfl⟩)) | refine aN ?_ ?_))
     ·(exact Nat.sub_lt_sub_left (by omega) (by omega))
   ·have hJ2 : (b = false ∧ ∀ j', j' < j + 1 → ∀ h : j' < x.f.length, x.f[j'].name ≠ z.e[i].1) ∨ (b = true ∧ (∀ j', j + 1 ≤ j' → ∀ h : j' < x.f.length, x.f[j'].name ≠ z.e[i].1) ∧ ∃ f, fldOf x.f z.e[i].1 = some f ∧ (wrV s.defs full z.e[i].2 f.t).2 = false) := by
     rcases hJ with ⟨h1,h2⟩ | ⟨h1,h2,h3⟩
     ·refine .inl ⟨h1,fun j' hj' h=>?_⟩
      rcases Nat.lt_succ_iff_lt_or_eq.1 hj' with h4 | rfl
      ·exact h2 j' h4 h
      ·exact hq
     ·exact .inr ⟨h1,fun j' hj' h=>h2 j' (by omega) h,h3⟩
    (repeat' (first | (refine aN (fun h=>?_) (fun h=>?_)<;>(try simp [-List.getD_eq_getElem?_getD,-Int.pred_toNat] at h)<;>(try (exfalso; first | omega | contradiction))) | (refine rNG ?_) | (refine bN2 ?_) | (refine bN3 ?_) | (intro _)))
    refine eX [] (eX (j + 1,b) (aN ⟨hj,hJ2⟩ (aN ?_ ?_)))
    ·(repeat' (first | exact trivial | exact Or.inl rfl | exact Or.inr (Or.inl ⟨rfl,_,rfl⟩) | exact Or.inr (Or.inr (Or.inr ⟨_,_,_,rfl,rfl⟩)) | refine aN ?_ ?_))
    ·(exact Nat.sub_lt_sub_left (by omega) (by omega))
  ·have hj:=geD hj hz2
   rcases hJ with ⟨rfl,h2⟩ | ⟨rfl,_,f,h3,h4⟩
   ·rw [fldOf_no fun j' h=>h2 j' (by omega) h] at hI
    rw [hI]
    (repeat' (first | (refine aN (fun h=>?_) (fun h=>?_)<;>(try simp [-List.getD_eq_getElem?_getD,-Int.pred_toNat] at h)<;>(try (exfalso; first | omega | contradiction))) | (refine rNG ?_) | (refine bN2 ?_) | (refine bN3 ?_) | (intro _)))
    (repeat' (first | exact trivial | exact Or.inl rfl | exact Or.inr ⟨rfl,_,rfl⟩ | refine aN ?_ ?_))
   ·rw [h3] at hI
    dsimp only at hI
    rw [h4,if_neg (by decide)] at hI
    (repeat' (first | (refine aN (fun h=>?_) (fun h=>?_)<;>(try simp [-List.getD_eq_getElem?_getD,-Int.pred_toNat] at h)<;>(try (exfalso; first | omega | contradiction))) | (refine rNG ?_) | (refine bN2 ?_) | (refine bN3 ?_) | (intro _)))
    refine eX [] (eX (i + 1) (aN ⟨hi,hI⟩ (aN ?_ ?_)))
    ·(repeat' (first | exact trivial | exact Or.inl rfl | exact Or.inr (Or.inl ⟨rfl,_,rfl⟩) | exact Or.inr (Or.inr (Or.inr ⟨_,_,_,rfl,rfl⟩)) | refine aN ?_ ?_))
    ·(exact Nat.sub_lt_sub_left (by omega) (by omega))
 (have hi:=geD hi hz)
 rw [List.drop_eq_nil_of_le (by omega),wrR] at hI
 subst hI
 have hM:miss full x.f z.e = (x.f.drop 0).any fun f=>askd full f && decide (ixI z.e (keyIs f.name) < 0):=rfl
 generalize miss full x.f z.e = m at hM ⊢
 (repeat' (first | (refine aN (fun h=>?_) (fun h=>?_)<;>(try simp [-List.getD_eq_getElem?_getD,-Int.pred_toNat] at h)<;>(try (exfalso; first | omega | contradiction))) | (refine rNG ?_) | (refine bN2 ?_) | (refine bN3 ?_) | (intro _)))
 refine eX [] (eX [] (eX [] (eX Nat (eX (fun j=>j≤(x.f).length∧(m = (x.f.drop j).any fun f=>askd full f && decide (ixI z.e (keyIs f.name) < 0))) (eX (fun j=>⟨[(2,.b full),(5,.pt 5 0),(59,.rd .fld x.f),(60,.i .i64 x.f.length),(61,.i .i64 j)],[(5,encVal z)]⟩) (eX (fun j=>(x.f).length - j) (eX 0 (aN ⟨Nat.zero_le _,hM⟩ (aN ?_ ?_)))))))))
 ·(repeat' (first | exact trivial | exact Or.inl rfl | exact Or.inr (Or.inl ⟨rfl,_,rfl⟩) | exact Or.inr (Or.inr (Or.inr ⟨_,_,_,rfl,rfl⟩)) | refine aN ?_ ?_))
 rintro j ⟨hi,hI⟩
 refine aN (fun hz=>?_) (fun hz=>?_)
 ·rename_i i0 hi0 hz0 hi1
  have hi:=ltD hz
  have hg:=getI (τ:=.fld) hi
  refine bN2 ?_
  rw [hg]
  have hFd:=s_entAt z.e x.f[j].name
  rw [List.drop_eq_getElem_cons hi,List.any_cons] at hI
  have hak:askd full x.f[j] = ((!x.f[j].opt && !x.f[j].hasDef) || (full && x.f[j].hasDef)):=rfl
  (conv=>whnf)
  (repeat' (first | (refine aN (fun h=>?_) (fun h=>?_)<;>(try simp [-List.getD_eq_getElem?_getD,-Int.pred_toNat] at h)<;>(try (exfalso; first | omega | contradiction))) | (refine rNG ?_) | (refine bN2 ?_) | (refine bN3 ?_) | (intro _)))
  refine Or.inl (eX _ (aN (hFd) ?_))
  by_cases hx9:ixI z.e (keyIs x.f[j].name) < 0
  rotate_left
  ·rw [decide_eq_false hx9,Bool.and_false,Bool.false_or] at hI
   (repeat' (first | (refine aN (fun h=>?_) (fun h=>?_)<;>(try simp [-List.getD_eq_getElem?_getD,-Int.pred_toNat] at h)<;>(try (exfalso; first | omega | contradiction))) | (refine rNG ?_) | (refine bN2 ?_) | (refine bN3 ?_) | (intro _)))
   refine eX [] (eX (j + 1) (aN ⟨hi,hI⟩ (aN ?_ ?_)))
   ·(repeat' (first | exact trivial | exact Or.inl rfl | exact Or.inr (Or.inl ⟨rfl,_,rfl⟩) | exact Or.inr (Or.inr (Or.inr ⟨_,_,_,rfl,rfl⟩)) | refine aN ?_ ?_))
   ·(exact Nat.sub_lt_sub_left (by omega) (by omega))
  rw [decide_eq_true hx9,Bool.and_true] at hI
  cases ho:x.f[j].opt<;>cases hh:x.f[j].hasDef<;>cases full<;>(rw [ho,hh] at hak; simp only [Bool.not_true,Bool.not_false,Bool.and_true,Bool.and_false,Bool.or_true,Bool.or_false,Bool.true_and,Bool.false_and,Bool.true_or,Bool.false_or] at hak; rw [hak] at hI)
  all_goals first | rw [Bool.true_or] at hI | rw [Bool.false_or] at hI
  all_goals first
   | (rw [hI]; (repeat' (first | (refine aN (fun h=>?_) (fun h=>?_)<;>(try simp [-List.getD_eq_getElem?_getD,-Int.pred_toNat] at h)<;>(try (exfalso; first | omega | contradiction))) | (refine rNG ?_) | (refine bN2 ?_) | (refine bN3 ?_) | (intro _))); (repeat' (first | exact trivial | exact Or.inl rfl | exact Or.inr ⟨rfl,_,rfl⟩ | refine aN ?_ ?_)); done)
   | ((repeat' (first | (refine aN (fun h=>?_) (fun h=>?_)<;>(try simp [-List.getD_eq_getElem?_getD,-Int.pred_toNat] at h)<;>(try (exfalso; first | omega | contradiction))) | (refine rNG ?_) | (refine bN2 ?_) | (refine bN3 ?_) | (intro _))); refine eX [] (eX (j + 1) (aN ⟨hi,hI⟩ (aN (by (repeat' (first | exact trivial | exact Or.inl rfl | exact Or.inr (Or.inl ⟨rfl,_,rfl⟩) | exact Or.inr (Or.inr (Or.inr ⟨_,_,_,rfl,rfl⟩)) | refine aN ?_ ?_))) (by (exact Nat.sub_lt_sub_left (by omega) (by omega)))))))
 (have hi:=geD hi hz)
 rw [List.drop_eq_nil_of_le (by omega),List.any_nil] at hI
 rw [hI]
 (repeat' (first | (refine aN (fun h=>?_) (fun h=>?_)<;>(try simp [-List.getD_eq_getElem?_getD,-Int.pred_toNat] at h)<;>(try (exfalso; first | omega | contradiction))) | (refine rNG ?_) | (refine bN2 ?_) | (refine bN3 ?_) | (intro _)))
 (repeat' (first | exact trivial | exact Or.inl rfl | exact Or.inr ⟨rfl,_,rfl⟩ | refine aN ?_ ?_))
theorem s_rrec (s:SchemaR) (hs:GS s) (full:Bool) (d:Nat) (hd:d≤50) (x:TypR) (hx:inS s x) (hk:x.kind = 10) (z:Val) (hv:GV (d + 1) z) (ih:∀ u,GV d u→∀ y,inS s y→PSpec Tryd.prog 50 [.agg (encSch s),.agg (encTyp y),.agg (encVal u),.b full] (.tup [.rd .pstep (wrV s.defs full u y).1,.b (wrV s.defs full u y).2])):PSpec Tryd.prog 110 [.rd .fld x.f,.agg (encVal z),.b full,.fn 108 [.rp (encSch s),.rp [.b full]]] (.tup [.rd .pstep (wrR s.defs full z.e x.f (miss full x.f z.e)).1,.b (wrR s.defs full z.e x.f (miss full x.f z.e)).2]) :=
 pspec_of_vcL Γ_good Tryd.func110 rfl Tryd.call110 Tryd.results110 Tryd.ntmps110 (Nat.le_of_ble_eq_true rfl) (w_rrec s hs full d hd x hx hk z hv ih)
end
end Go.Proofs.YtdcdmojbkmedpaaDoor
end
section
namespace Go.Proofs.YtdcdmojbkmedpaaDoor
open Go Go.SX Go.Ck Go.Vl Go.Ut Go.Ty
set_option maxRecDepth 100000
set_option maxHeartbeats 20000000
def zeroT:TypR:=⟨0,0,0,[],[],[],[]⟩
section
variable [G:Globs]
theorem w_rwrong (s:SchemaR) (hs:GS s) (full:Bool) (d:Nat) (hd:d≤50) (t:TypR) (ht:inS s t) (z:Val) (hv:GV (d + 1) z) (ih:∀ u,GV d u→∀ y,inS s y→PSpec Tryd.prog 50 [.agg (encSch s),.agg (encTyp y),.agg (encVal u),.b full] (.tup [.rd .pstep (wrV s.defs full u y).1,.b (wrV s.defs full u y).2])):vc Tryd.prog Γ 163 [4,5,6,7,8,9,10,12,13,14,16,17,18,19,20,21,23,24,25,28,29,30,31,37,42,43,45,59,75,78,79,80,81,87,89,103,105,106,107,108,124,127,130,131,132,133,150,153] (Tryd.f50.body.getD .skip) (postK Γ [.tmp 8,.tmp 9] (fun v=>RL v (.tup [.rd .pstep (wrV s.defs full z t).1,.b (wrV s.defs full z t).2]))) ⟨argSlots 0 [.agg (encSch s),.agg (encTyp t),.agg (encVal z),.b full],[]⟩:=by
 have hA:=wrV_eq s.defs full z t
 have hPO:=s_partsOf s hs.sb.defs hs.sb.many t (hs.ct ht) (hs.tb t ht) (hs.num ht)
 have hps:=hs.parts ht
 have hlen:=hs.len ht
 have hkz:=(by cases hv; assumption:0≤z.kind∧z.kind≤6)
 have hls:=(by cases hv; assumption:z.s.length≤4000∧z.l.length≤200∧z.e.length≤200)
 have hbad:=(by cases hv; assumption:bad z.s < 0)
 have hzl:=(by cases hv; assumption:∀ u ∈ z.l,GV d u)
 have hze:=(by cases hv; assumption:∀ p ∈ z.e,GV d p.2)
 have hone:=hs.one ht hkz.1 hkz.2
 generalize wrV s.defs full z t = R at hA ⊢
 generalize (comeA s.defs t).1 = ps at hA hPO hps hlen hone
 have hL:=lastF_find ps zeroT hone
 have hL:(pickK ps z.kind).getD zeroT = lastF (fun y=>tellsK y.kind z.kind) zeroT (ps.drop 0):=hL.symm
 (repeat' (first | (refine aN (fun h=>?_) (fun h=>?_)<;>(try simp [-List.getD_eq_getElem?_getD,-Int.pred_toNat] at h)<;>(try (exfalso; first | omega | contradiction))) | (refine rNG ?_) | (refine bN2 ?_) | (refine bN3 ?_) | (intro _)))
 refine Or.inr (Or.inr (Or.inr (Or.inl (eX [4,7] (eX _ (aN (hPO) ?_))))))
 (repeat' (first | (refine aN (fun h=>?_) (fun h=>?_)<;>(try simp [-List.getD_eq_getElem?_getD,-Int.pred_toNat] at h)<;>(try (exfalso; first | omega | contradiction))) | (refine rNG ?_) | (refine bN2 ?_) | (refine bN3 ?_) | (intro _)))
 refine eX [] (eX [] (eX [] (eX (Nat × TypR) (eX (fun q=>q.1≤ps.length∧(pickK ps z.kind).getD zeroT = lastF (fun y=>tellsK y.kind z.kind) q.2 (ps.drop q.1)) (eX (fun ⟨i,p⟩=>⟨[(4,.rp (encSch s)),(6,.pt 6 0),(7,.rp [.b full]),(10,.pt 10 0),(28,.rd .typ ps),(29,.i .i64 ps.length),(30,.i .i64 i)],[(6,encVal z),(10,encTyp p)]⟩) (eX (fun q=>ps.length - q.1) (eX (0,zeroT) (aN ⟨Nat.zero_le _,hL⟩ (aN ?_ ?_)))))))))
 ·(repeat' (first | exact trivial | exact Or.inl rfl | exact Or.inr (Or.inl ⟨rfl,_,rfl⟩) | exact Or.inr (Or.inr (Or.inr ⟨_,_,_,rfl,rfl⟩)) | refine aN ?_ ?_))
 rintro ⟨i,p⟩ ⟨hi,hI⟩
 dsimp only at hi hI
 refine aN (fun hz=>?_) (fun hz=>?_)
 ·have hi:=ltD hz
  have hg:=getI (τ:=.typ) hi
  refine bN2 ?_
  rw [hg]
  obtain ⟨g1,g2⟩:=hps _ (List.getElem_mem hi)
  have hT:=s_tells ps[i] z.kind hkz.1 hkz.2
  rw [List.drop_eq_getElem_cons hi,lastF] at hI
  (repeat' (first | (refine aN (fun h=>?_) (fun h=>?_)<;>(try simp [-List.getD_eq_getElem?_getD,-Int.pred_toNat] at h)<;>(try (exfalso; first | omega | contradiction))) | (refine rNG ?_) | (refine bN2 ?_) | (refine bN3 ?_) | (intro _)))
  refine Or.inl (eX _ (aN (hT) ?_))
  cases hq:tellsK ps[i].kind z.kind with
  | true =>
   rw [hq,if_pos rfl] at hI
   (repeat' (first | (refine aN (fun h=>?_) (fun h=>?_)<;>(try simp [-List.getD_eq_getElem?_getD,-Int.pred_toNat] at h)<;>(try (exfalso; first | omega | contradiction))) | (refine rNG ?_) | (refine bN2 ?_) | (refine bN3 ?_) | (intro _)))
   refine eX [] (eX (i + 1,ps[i]) (aN ⟨hi,hI⟩ (aN ?_ ?_)))
   ·(repeat' (first | exact trivial | exact Or.inl rfl | exact Or.inr (Or.inl ⟨rfl,_,rfl⟩) | exact Or.inr (Or.inr (Or.inr ⟨_,_,_,rfl,rfl⟩)) | refine aN ?_ ?_))
   ·(exact Nat.sub_lt_sub_left (by omega) (by omega))
  | false =>
   rw [hq,if_neg (by decide)] at hI
   (repeat' (first | (refine aN (fun h=>?_) (fun h=>?_)<;>(try simp [-List.getD_eq_getElem?_getD,-Int.pred_toNat] at h)<;>(try (exfalso; first | omega | contradiction))) | (refine rNG ?_) | (refine bN2 ?_) | (refine bN3 ?_) | (intro _)))
   refine eX [] (eX (i + 1,p) (aN ⟨hi,hI⟩ (aN ?_ ?_)))
   ·(repeat' (first | exact trivial | exact Or.inl rfl | exact Or.inr (Or.inl ⟨rfl,_,rfl⟩) | exact Or.inr (Or.inr (Or.inr ⟨_,_,_,rfl,rfl⟩)) | refine aN ?_ ?_))
   ·(exact Nat.sub_lt_sub_left (by omega) (by omega))
 (have hi:=geD hi hz)
 rw [List.drop_eq_nil_of_le (by omega)] at hI
 have hI:(pickK ps z.kind).getD zeroT = p:=hI
 cases hpk:pickK ps z.kind with
 | none =>
  rw [hpk] at hI hA
  have hI:zeroT = p:=hI
  subst hI
  have hA:R = ([],true):=hA
  subst hA
  (repeat' (first | (refine aN (fun h=>?_) (fun h=>?_)<;>(try simp [-List.getD_eq_getElem?_getD,-Int.pred_toNat] at h)<;>(try (exfalso; first | omega | contradiction))) | (refine rNG ?_) | (refine bN2 ?_) | (refine bN3 ?_) | (intro _)))
  (repeat' (first | exact trivial | exact Or.inl rfl | exact Or.inr ⟨rfl,_,rfl⟩ | refine aN ?_ ?_))
 | some x =>
  rw [hpk] at hI hA
  have hI:x = p:=hI
  subst hI
  have hxm:x ∈ ps:=List.mem_of_find?_eq_some hpk
  obtain ⟨hpt,hx⟩:=hps x hxm
  have hk1:1≤x.kind:=hpt.1
  have hk10:x.kind≤10:=hpt.2
  have hA:R = if x.kind = 4 then ([],!betw z.n x.lo x.hi) else if x.kind = 6 then ([],!betw ((runes z.s).length:Nat) x.lo x.hi) else if x.kind = 7 then ([],!(x.texts.any fun y=>y == z.s))
   else if x.kind = 8 then (if betw (z.l.length:Nat) x.lo x.hi = true then wrL s.defs full z.l (x.t.getD 0 (SX.dflt .typ)) 0 else ([],true))
   else if x.kind = 9 then wrM s.defs full z.e (x.t.getD 0 (SX.dflt .typ)) else if x.kind = 10 then wrR s.defs full z.e x.f (miss full x.f z.e) else ([],false):=hA
  have hb:=hs.tb x hx
  clear hPO hps hlen hone hL hpk hxm
  have bw:∀ n:Int,(!betw n x.lo x.hi) = (decide (n < x.lo) || decide (x.hi < n)):=fun n=>by
   unfold betw
   by_cases h1:n < x.lo
   ·rw [decide_eq_true h1,decide_eq_false (by omega)]; rfl
   ·by_cases h2:x.hi < n
    ·rw [decide_eq_false h1,decide_eq_true h2,decide_eq_true (by omega),decide_eq_false (by omega)]; rfl
    ·rw [decide_eq_false h1,decide_eq_false h2,decide_eq_true (by omega),decide_eq_true (by omega)]; rfl
  by_cases c4:x.kind = 4
  ·rw [if_pos c4,bw] at hA
   by_cases h1:z.n < x.lo
   ·rw [decide_eq_true h1,Bool.true_or] at hA
    subst hA
    (repeat' (first | (refine aN (fun h=>?_) (fun h=>?_)<;>(try simp [-List.getD_eq_getElem?_getD,-Int.pred_toNat] at h)<;>(try (exfalso; first | omega | contradiction))) | (refine rNG ?_) | (refine bN2 ?_) | (refine bN3 ?_) | (intro _)))
    refine eX [.blk [0,1,2,3,4,5,6,7,8,9,10,11,12,13]] (aN (by kernel_rfl) ?_)
    (repeat' (first | (refine aN (fun h=>?_) (fun h=>?_)<;>(try simp [-List.getD_eq_getElem?_getD,-Int.pred_toNat] at h)<;>(try (exfalso; first | omega | contradiction))) | (refine rNG ?_) | (refine bN2 ?_) | (refine bN3 ?_) | (intro _)))
    (repeat' (first | exact trivial | exact Or.inl rfl | exact Or.inr ⟨rfl,_,rfl⟩ | refine aN ?_ ?_))
   ·rw [decide_eq_false h1,Bool.false_or] at hA
    subst hA
    (repeat' (first | (refine aN (fun h=>?_) (fun h=>?_)<;>(try simp [-List.getD_eq_getElem?_getD,-Int.pred_toNat] at h)<;>(try (exfalso; first | omega | contradiction))) | (refine rNG ?_) | (refine bN2 ?_) | (refine bN3 ?_) | (intro _)))
    refine eX [.blk [0,1,2,3,4,5,6,7,8,9,10,11,12,13]] (aN (by kernel_rfl) ?_)
    (repeat' (first | (refine aN (fun h=>?_) (fun h=>?_)<;>(try simp [-List.getD_eq_getElem?_getD,-Int.pred_toNat] at h)<;>(try (exfalso; first | omega | contradiction))) | (refine rNG ?_) | (refine bN2 ?_) | (refine bN3 ?_) | (intro _)))
    (repeat' (first | exact trivial | exact Or.inl rfl | exact Or.inr ⟨rfl,_,rfl⟩ | refine aN ?_ ?_))
  rw [if_neg c4] at hA
  by_cases c6:x.kind = 6
  ·rw [if_pos c6,bw] at hA
   have hS:=s_Scalars z.s (by omega) hbad
   by_cases h1:(((runes z.s).length:Nat):Int) < x.lo
   ·rw [decide_eq_true h1,Bool.true_or] at hA
    subst hA
    (repeat' (first | (refine aN (fun h=>?_) (fun h=>?_)<;>(try simp [-List.getD_eq_getElem?_getD,-Int.pred_toNat] at h)<;>(try (exfalso; first | omega | contradiction))) | (refine rNG ?_) | (refine bN2 ?_) | (refine bN3 ?_) | (intro _)))
    refine Or.inl (eX _ (aN (hS) ?_))
    (repeat' (first | (refine aN (fun h=>?_) (fun h=>?_)<;>(try simp [-List.getD_eq_getElem?_getD,-Int.pred_toNat] at h)<;>(try (exfalso; first | omega | contradiction))) | (refine rNG ?_) | (refine bN2 ?_) | (refine bN3 ?_) | (intro _)))
    refine eX [.blk [0,1,2,3,4,5,6,7,8,9,10,11]] (aN (by kernel_rfl) ?_)
    (repeat' (first | (refine aN (fun h=>?_) (fun h=>?_)<;>(try simp [-List.getD_eq_getElem?_getD,-Int.pred_toNat] at h)<;>(try (exfalso; first | omega | contradiction))) | (refine rNG ?_) | (refine bN2 ?_) | (refine bN3 ?_) | (intro _)))
    (repeat' (first | exact trivial | exact Or.inl rfl | exact Or.inr ⟨rfl,_,rfl⟩ | refine aN ?_ ?_))
   ·rw [decide_eq_false h1,Bool.false_or] at hA
    subst hA
    (repeat' (first | (refine aN (fun h=>?_) (fun h=>?_)<;>(try simp [-List.getD_eq_getElem?_getD,-Int.pred_toNat] at h)<;>(try (exfalso; first | omega | contradiction))) | (refine rNG ?_) | (refine bN2 ?_) | (refine bN3 ?_) | (intro _)))
    refine Or.inl (eX _ (aN (hS) ?_))
    (repeat' (first | (refine aN (fun h=>?_) (fun h=>?_)<;>(try simp [-List.getD_eq_getElem?_getD,-Int.pred_toNat] at h)<;>(try (exfalso; first | omega | contradiction))) | (refine rNG ?_) | (refine bN2 ?_) | (refine bN3 ?_) | (intro _)))
    refine eX [.blk [0,1,2,3,4,5,6,7,8,9,10,11]] (aN (by kernel_rfl) ?_)
    (repeat' (first | (refine aN (fun h=>?_) (fun h=>?_)<;>(try simp [-List.getD_eq_getElem?_getD,-Int.pred_toNat] at h)<;>(try (exfalso; first | omega | contradiction))) | (refine rNG ?_) | (refine bN2 ?_) | (refine bN3 ?_) | (intro _)))
    (repeat' (first | exact trivial | exact Or.inl rfl | exact Or.inr ⟨rfl,_,rfl⟩ | refine aN ?_ ?_))
  rw [if_neg c6] at hA
  by_cases c7:x.kind = 7
  ·rw [if_pos c7] at hA
   have hl:=(by cases hb; omega:x.texts.length≤2000000)
   have hA:R = ([],!((x.texts.drop 0).any fun y=>y == z.s)):=hA
   (repeat' (first | (refine aN (fun h=>?_) (fun h=>?_)<;>(try simp [-List.getD_eq_getElem?_getD,-Int.pred_toNat] at h)<;>(try (exfalso; first | omega | contradiction))) | (refine rNG ?_) | (refine bN2 ?_) | (refine bN3 ?_) | (intro _)))
   refine eX [] (eX [] (eX [] (eX Nat (eX (fun j=>j≤(x.texts).length∧(R = ([],!((x.texts.drop j).any fun y=>y == z.s)))) (eX (fun j=>⟨[(6,.pt 6 0),(78,.rd .str x.texts),(79,.i .i64 x.texts.length),(80,.i .i64 j)],[(6,encVal z)]⟩) (eX (fun j=>(x.texts).length - j) (eX 0 (aN ⟨Nat.zero_le _,hA⟩ (aN ?_ ?_)))))))))
   ·(repeat' (first | exact trivial | exact Or.inl rfl | exact Or.inr (Or.inl ⟨rfl,_,rfl⟩) | exact Or.inr (Or.inr (Or.inr ⟨_,_,_,rfl,rfl⟩)) | refine aN ?_ ?_))
   rintro j ⟨hi,hI⟩
   refine aN (fun hz=>?_) (fun hz=>?_)
   ·rename_i i0 p0 hi0 hz0 hi1
    have hi:=ltD hz
    have hg:=getI (τ:=.str) hi
    refine bN2 ?_
    rw [hg]
    rw [List.drop_eq_getElem_cons hi,List.any_cons] at hI
    cases hq:(x.texts[j] == z.s) with
    | true =>
     have hq2:x.texts[j] = z.s:=eq_of_beq hq
     rw [hq,Bool.true_or] at hI
     rw [hI]
     (repeat' (first | (refine aN (fun h=>?_) (fun h=>?_)<;>(try simp [-List.getD_eq_getElem?_getD,-Int.pred_toNat] at h)<;>(try (exfalso; first | omega | contradiction))) | (refine rNG ?_) | (refine bN2 ?_) | (refine bN3 ?_) | (intro _)))
     (repeat' (first | exact trivial | exact Or.inl rfl | exact Or.inr ⟨rfl,_,rfl⟩ | refine aN ?_ ?_))
    | false =>
     have hq2:¬ x.texts[j] = z.s:=ne_of_beq_false hq
     rw [hq,Bool.false_or] at hI
     (repeat' (first | (refine aN (fun h=>?_) (fun h=>?_)<;>(try simp [-List.getD_eq_getElem?_getD,-Int.pred_toNat] at h)<;>(try (exfalso; first | omega | contradiction))) | (refine rNG ?_) | (refine bN2 ?_) | (refine bN3 ?_) | (intro _)))
     refine eX [] (eX (j + 1) (aN ⟨hi,hI⟩ (aN ?_ ?_)))
     ·(repeat' (first | exact trivial | exact Or.inl rfl | exact Or.inr (Or.inl ⟨rfl,_,rfl⟩) | exact Or.inr (Or.inr (Or.inr ⟨_,_,_,rfl,rfl⟩)) | refine aN ?_ ?_))
     ·(exact Nat.sub_lt_sub_left (by omega) (by omega))
   (have hi:=geD hi hz)
   rw [List.drop_eq_nil_of_le (by omega),List.any_nil] at hI
   rw [hI]
   (repeat' (first | (refine aN (fun h=>?_) (fun h=>?_)<;>(try simp [-List.getD_eq_getElem?_getD,-Int.pred_toNat] at h)<;>(try (exfalso; first | omega | contradiction))) | (refine rNG ?_) | (refine bN2 ?_) | (refine bN3 ?_) | (intro _)))
   (repeat' (first | exact trivial | exact Or.inl rfl | exact Or.inr ⟨rfl,_,rfl⟩ | refine aN ?_ ?_))
  rw [if_neg c7] at hA
  by_cases c8:x.kind = 8
  ·rw [if_pos c8] at hA
   obtain ⟨q0,q1,q2,q3⟩:=hs.one_t hx (.inl c8)
   rw [← q1] at q2
   generalize hE:x.t.getD 0 (SX.dflt .typ) = E at hA q2
   have bw2:=bw (z.l.length:Nat)
   cases hbt:betw (z.l.length:Nat) x.lo x.hi with
   | false =>
    rw [hbt,if_neg (by decide)] at hA
    rw [hbt,Bool.not_false] at bw2
    subst hA
    by_cases h1:((z.l.length:Nat):Int) < x.lo
    ·(repeat' (first | (refine aN (fun h=>?_) (fun h=>?_)<;>(try simp [-List.getD_eq_getElem?_getD,-Int.pred_toNat] at h)<;>(try (exfalso; first | omega | contradiction))) | (refine rNG ?_) | (refine bN2 ?_) | (refine bN3 ?_) | (intro _)))
     (repeat' (first | exact trivial | exact Or.inl rfl | exact Or.inr ⟨rfl,_,rfl⟩ | refine aN ?_ ?_))
    ·have h2 : x.hi < ((z.l.length : Nat) : Int) := by
      rw [decide_eq_false h1,Bool.false_or] at bw2
      exact of_decide_eq_true bw2.symm
     (repeat' (first | (refine aN (fun h=>?_) (fun h=>?_)<;>(try simp [-List.getD_eq_getElem?_getD,-Int.pred_toNat] at h)<;>(try (exfalso; first | omega | contradiction))) | (refine rNG ?_) | (refine bN2 ?_) | (refine bN3 ?_) | (intro _)))
     (repeat' (first | exact trivial | exact Or.inl rfl | exact Or.inr ⟨rfl,_,rfl⟩ | refine aN ?_ ?_))
   | true =>
    rw [hbt,if_pos rfl] at hA
    rw [hbt,Bool.not_true] at bw2
    have h1:¬ ((z.l.length:Nat):Int) < x.lo:=fun h=>by rw [decide_eq_true h,Bool.true_or] at bw2; cases bw2
    have h2:¬ x.hi < ((z.l.length:Nat):Int):=fun h=>by rw [decide_eq_true h,Bool.or_true] at bw2; cases bw2
    (repeat' (first | (refine aN (fun h=>?_) (fun h=>?_)<;>(try simp [-List.getD_eq_getElem?_getD,-Int.pred_toNat] at h)<;>(try (exfalso; first | omega | contradiction))) | (refine rNG ?_) | (refine bN2 ?_) | (refine bN3 ?_) | (intro _)))
    refine eX [] (eX [] (eX [] (eX Nat (eX (fun j=>j≤(z.l).length∧(R = wrL s.defs full (z.l.drop j) E j)) (eX (fun j=>⟨[(10,.pt 10 0),(13,.fn 108 [.rp (encSch s),.rp [.b full]]),(105,.rd .val z.l),(106,.i .i64 z.l.length),(107,.i .i64 j)],[(10,encTyp x)]⟩) (eX (fun j=>(z.l).length - j) (eX 0 (aN ⟨Nat.zero_le _,hA⟩ (aN ?_ ?_)))))))))
    ·(repeat' (first | exact trivial | exact Or.inl rfl | exact Or.inr (Or.inl ⟨rfl,_,rfl⟩) | exact Or.inr (Or.inr (Or.inr ⟨_,_,_,rfl,rfl⟩)) | refine aN ?_ ?_))
    rintro j ⟨hi,hI⟩
    refine aN (fun hz=>?_) (fun hz=>?_)
    ·rename_i i0 p0 hi0 hz0 hi1
     have hi:=ltD hz
     have hg:=getI (τ:=.val) hi
     refine bN2 ?_
     rw [hg]
     have hg9:=hzl _ (List.getElem_mem hi)
     have hON:=s_ron s full z.l[j] E ⟨[],(j:Int)⟩ (by have:=wr_len s.defs full d _ hg9 E; omega) (ih _ hg9 _ q2)
     rw [wrL_drop s.defs full hi] at hI
     generalize wrV s.defs full z.l[j] E = q at hI hON
     subst hE
     (repeat' (first | (refine aN (fun h=>?_) (fun h=>?_)<;>(try simp [-List.getD_eq_getElem?_getD,-Int.pred_toNat] at h)<;>(try (exfalso; first | omega | contradiction))) | (refine rNG ?_) | (refine bN2 ?_) | (refine bN3 ?_) | (intro _)))
     refine eX [.blk [0,1,2,3,4,5,6,7,8,9,10,11,12,13]] (aN (by kernel_rfl) ?_)
     refine aN ⟨by decide,by omega⟩ ?_
     refine eX _ (aN (hON) ?_)
     cases hq:q.2 with
     | true =>
      rw [hq,if_pos rfl] at hI
      rw [hI]
      (repeat' (first | (refine aN (fun h=>?_) (fun h=>?_)<;>(try simp [-List.getD_eq_getElem?_getD,-Int.pred_toNat] at h)<;>(try (exfalso; first | omega | contradiction))) | (refine rNG ?_) | (refine bN2 ?_) | (refine bN3 ?_) | (intro _)))
      (repeat' (first | exact trivial | exact Or.inl rfl | exact Or.inr ⟨rfl,_,rfl⟩ | refine aN ?_ ?_))
     | false =>
      rw [hq,if_neg (by decide)] at hI
      (repeat' (first | (refine aN (fun h=>?_) (fun h=>?_)<;>(try simp [-List.getD_eq_getElem?_getD,-Int.pred_toNat] at h)<;>(try (exfalso; first | omega | contradiction))) | (refine rNG ?_) | (refine bN2 ?_) | (refine bN3 ?_) | (intro _)))
      refine eX [] (eX (j + 1) (aN ⟨hi,hI⟩ (aN ?_ ?_)))
      ·(repeat' (first | exact trivial | exact Or.inl rfl | exact Or.inr (Or.inl ⟨rfl,_,rfl⟩) | exact Or.inr (Or.inr (Or.inr ⟨_,_,_,rfl,rfl⟩)) | refine aN ?_ ?_))
      ·(exact Nat.sub_lt_sub_left (by omega) (by omega))
    (have hi:=geD hi hz)
    rw [List.drop_eq_nil_of_le (by omega),wrL] at hI
    subst hI
    (repeat' (first | (refine aN (fun h=>?_) (fun h=>?_)<;>(try simp [-List.getD_eq_getElem?_getD,-Int.pred_toNat] at h)<;>(try (exfalso; first | omega | contradiction))) | (refine rNG ?_) | (refine bN2 ?_) | (refine bN3 ?_) | (intro _)))
    (repeat' (first | exact trivial | exact Or.inl rfl | exact Or.inr ⟨rfl,_,rfl⟩ | refine aN ?_ ?_))
  rw [if_neg c8] at hA
  by_cases c9:x.kind = 9
  ·rw [if_pos c9] at hA
   obtain ⟨q0,q1,q2,q3⟩:=hs.one_t hx (.inr c9)
   rw [← q1] at q2
   generalize hE:x.t.getD 0 (SX.dflt .typ) = E at hA q2
   (repeat' (first | (refine aN (fun h=>?_) (fun h=>?_)<;>(try simp [-List.getD_eq_getElem?_getD,-Int.pred_toNat] at h)<;>(try (exfalso; first | omega | contradiction))) | (refine rNG ?_) | (refine bN2 ?_) | (refine bN3 ?_) | (intro _)))
   refine eX [] (eX [] (eX [] (eX Nat (eX (fun j=>j≤(z.e).length∧(R = wrM s.defs full (z.e.drop j) E)) (eX (fun j=>⟨[(10,.pt 10 0),(13,.fn 108 [.rp (encSch s),.rp [.b full]]),(130,.rd .ent z.e),(131,.i .i64 z.e.length),(132,.i .i64 j)],[(10,encTyp x)]⟩) (eX (fun j=>(z.e).length - j) (eX 0 (aN ⟨Nat.zero_le _,hA⟩ (aN ?_ ?_)))))))))
   ·(repeat' (first | exact trivial | exact Or.inl rfl | exact Or.inr (Or.inl ⟨rfl,_,rfl⟩) | exact Or.inr (Or.inr (Or.inr ⟨_,_,_,rfl,rfl⟩)) | refine aN ?_ ?_))
   rintro j ⟨hi,hI⟩
   refine aN (fun hz=>?_) (fun hz=>?_)
   ·rename_i i0 p0 hi0 hz0 hi1
    have hi:=ltD hz
    have hg:=getI (τ:=.ent) hi
    refine bN2 ?_
    rw [hg]
    have hg9:=hze _ (List.getElem_mem hi)
    have hON:=s_ron s full z.e[j].2 E ⟨z.e[j].1,-1⟩ (by have:=wr_len s.defs full d _ hg9 E; omega) (ih _ hg9 _ q2)
    rw [wrM_drop s.defs full hi] at hI
    generalize wrV s.defs full z.e[j].2 E = q at hI hON
    subst hE
    (repeat' (first | (refine aN (fun h=>?_) (fun h=>?_)<;>(try simp [-List.getD_eq_getElem?_getD,-Int.pred_toNat] at h)<;>(try (exfalso; first | omega | contradiction))) | (refine rNG ?_) | (refine bN2 ?_) | (refine bN3 ?_) | (intro _)))
    refine eX [.blk [0,1,2,3,4,5,6,7,8,9,10,11,12,13,14,15]] (aN (by kernel_rfl) ?_)
    refine aN ⟨by decide,by omega⟩ ?_
    refine eX _ (aN (hON) ?_)
    cases hq:q.2 with
    | true =>
     rw [hq,if_pos rfl] at hI
     rw [hI]
     (repeat' (first | (refine aN (fun h=>?_) (fun h=>?_)<;>(try simp [-List.getD_eq_getElem?_getD,-Int.pred_toNat] at h)<;>(try (exfalso; first | omega | contradiction))) | (refine rNG ?_) | (refine bN2 ?_) | (refine bN3 ?_) | (intro _)))
     (repeat' (first | exact trivial | exact Or.inl rfl | exact Or.inr ⟨rfl,_,rfl⟩ | refine aN ?_ ?_))
    | false =>
     rw [hq,if_neg (by decide)] at hI
     (repeat' (first | (refine aN (fun h=>?_) (fun h=>?_)<;>(try simp [-List.getD_eq_getElem?_getD,-Int.pred_toNat] at h)<;>(try (exfalso; first | omega | contradiction))) | (refine rNG ?_) | (refine bN2 ?_) | (refine bN3 ?_) | (intro _)))
     refine eX [] (eX (j + 1) (aN ⟨hi,hI⟩ (aN ?_ ?_)))
     ·(repeat' (first | exact trivial | exact Or.inl rfl | exact Or.inr (Or.inl ⟨rfl,_,rfl⟩) | exact Or.inr (Or.inr (Or.inr ⟨_,_,_,rfl,rfl⟩)) | refine aN ?_ ?_))
     ·(exact Nat.sub_lt_sub_left (by omega) (by omega))
   (have hi:=geD hi hz)
   rw [List.drop_eq_nil_of_le (by omega),wrM] at hI
   subst hI
   (repeat' (first | (refine aN (fun h=>?_) (fun h=>?_)<;>(try simp [-List.getD_eq_getElem?_getD,-Int.pred_toNat] at h)<;>(try (exfalso; first | omega | contradiction))) | (refine rNG ?_) | (refine bN2 ?_) | (refine bN3 ?_) | (intro _)))
   (repeat' (first | exact trivial | exact Or.inl rfl | exact Or.inr ⟨rfl,_,rfl⟩ | refine aN ?_ ?_))
  rw [if_neg c9] at hA
  by_cases c10:x.kind = 10
  ·rw [if_pos c10] at hA
   subst hA
   have hR:=s_rrec s hs full d hd x hx c10 z hv ih
   (repeat' (first | (refine aN (fun h=>?_) (fun h=>?_)<;>(try simp [-List.getD_eq_getElem?_getD,-Int.pred_toNat] at h)<;>(try (exfalso; first | omega | contradiction))) | (refine rNG ?_) | (refine bN2 ?_) | (refine bN3 ?_) | (intro _)))
   refine Or.inl (eX _ (aN (hR) ?_))
   (repeat' (first | (refine aN (fun h=>?_) (fun h=>?_)<;>(try simp [-List.getD_eq_getElem?_getD,-Int.pred_toNat] at h)<;>(try (exfalso; first | omega | contradiction))) | (refine rNG ?_) | (refine bN2 ?_) | (refine bN3 ?_) | (intro _)))
   (repeat' (first | exact trivial | exact Or.inl rfl | exact Or.inr ⟨rfl,_,rfl⟩ | refine aN ?_ ?_))
  rw [if_neg c10] at hA
  subst hA
  (repeat' (first | (refine aN (fun h=>?_) (fun h=>?_)<;>(try simp [-List.getD_eq_getElem?_getD,-Int.pred_toNat] at h)<;>(try (exfalso; first | omega | contradiction))) | (refine rNG ?_) | (refine bN2 ?_) | (refine bN3 ?_) | (intro _)))
  (repeat' (first | exact trivial | exact Or.inl rfl | exact Or.inr ⟨rfl,_,rfl⟩ | refine aN ?_ ?_))
theorem s_rwrong (s:SchemaR) (hs:GS s) (full:Bool) (d:Nat) (hd:d≤50) (t:TypR) (ht:inS s t) (z:Val) (hv:GV (d + 1) z) (ih:∀ u,GV d u→∀ y,inS s y→PSpec Tryd.prog 50 [.agg (encSch s),.agg (encTyp y),.agg (encVal u),.b full] (.tup [.rd .pstep (wrV s.defs full u y).1,.b (wrV s.defs full u y).2])):PSpec Tryd.prog 50 [.agg (encSch s),.agg (encTyp t),.agg (encVal z),.b full] (.tup [.rd .pstep (wrV s.defs full z t).1,.b (wrV s.defs full z t).2]) :=
 pspec_of_vcL Γ_good Tryd.func50 rfl Tryd.call50 Tryd.results50 Tryd.ntmps50 (Nat.le_of_ble_eq_true rfl) (w_rwrong s hs full d hd t ht z hv ih)
theorem rwrong_spec {s:SchemaR} (hs:GS s) (full:Bool):∀ (d:Nat),d≤50→∀ z:Val,GV d z→∀ t,inS s t→PSpec Tryd.prog 50 [.agg (encSch s),.agg (encTyp t),.agg (encVal z),.b full] (.tup [.rd .pstep (wrV s.defs full z t).1,.b (wrV s.defs full z t).2]):=by
 intro d
 induction d with
 | zero=>intro _ z h; exact nomatch h
 | succ d ih =>
  intro hd z hz t ht
  exact s_rwrong s hs full d (by omega) t ht z hz fun u hu y hy=>ih (by omega) u hu y hy
end
end Go.Proofs.YtdcdmojbkmedpaaDoor
end
section
namespace Go.Proofs.YtdcdmojbkmedpaaDoor
open Go Go.SX Go.Ck Go.Vl Go.Ut Go.Ty
set_option maxRecDepth 100000
set_option maxHeartbeats 8000000
theorem wrL_nil {l:List DefR} {full:Bool} {t:TypR}:∀ (L:List Val) (i:Nat),(wrL l full L t i).2 = false→(wrL l full L t i).1 = []
 | [],_,_=>by rw [wrL]
 | x::r,i,h=>by
  rw [wrL] at h ⊢
  split at h
  ·cases h
  ·rename_i c
   rw [if_neg c]
   exact wrL_nil r (i + 1) h
theorem wrM_nil {l:List DefR} {full:Bool} {t:TypR}:∀ (E:List Ent),(wrM l full E t).2 = false→(wrM l full E t).1 = []
 | [],_=>by rw [wrM]
 | p::r,h=>by
  rw [wrM] at h ⊢
  split at h
  ·cases h
  ·rename_i c
   rw [if_neg c]
   exact wrM_nil r h
theorem wrR_nil {l:List DefR} {full:Bool} {fl:List Fld} {m:Bool}:∀ (E:List Ent),(wrR l full E fl m).2 = false→(wrR l full E fl m).1 = []
 | [],_=>by rw [wrR]
 | p::r,h=>by
  rw [wrR] at h ⊢
  cases hf:fldOf fl p.1 with
  | none=>rw [hf] at h; cases h
  | some f =>
   rw [hf] at h
   dsimp only at h ⊢
   split at h
   ·cases h
   ·rename_i c
    rw [if_neg c]
    exact wrR_nil r h
theorem wrV_nil {l:List DefR} {full:Bool} {v:Val} {t:TypR} (h:(wrV l full v t).2 = false):(wrV l full v t).1 = []:=by
 rw [wrV_eq] at h ⊢
 cases hx:pickK (comeA l t).1 v.kind with
 | none=>simp [hx] at h
 | some x =>
  rw [hx] at h
  dsimp only at h ⊢
  unfold prtF at h ⊢
  split at h
  ·rename_i c; rw [if_pos c]
  rename_i c1
  rw [if_neg c1]
  split at h
  ·rename_i c; rw [if_pos c]
  rename_i c2
  rw [if_neg c2]
  split at h
  ·rename_i c; rw [if_pos c]
  rename_i c3
  rw [if_neg c3]
  split at h
  ·rename_i c
   rw [if_pos c]
   split at h
   ·rename_i c; rw [if_pos c]; exact wrL_nil _ _ h
   ·cases h
  rename_i c4
  rw [if_neg c4]
  split at h
  ·rename_i c; rw [if_pos c]; exact wrM_nil _ h
  rename_i c5
  rw [if_neg c5]
  split at h
  ·rename_i c; rw [if_pos c]; exact wrR_nil _ h
  ·rename_i c; rw [if_neg c]
theorem all_le {s:SchemaR} (h:checkS s = 0):(allP s).length≤200:=by
 unfold checkS at h
 split at h
 ·cases h
 have h1:nmsF none (s.defs.map (·.name)) = 0:=Decidable.byContradiction fun c=>by rw [orI_ne c] at h; exact c h
 rw [h1,orI_zero] at h
 have h2:(scan s.defs (allP s) 0).1 = 0:=Decidable.byContradiction fun c=>by rw [orI_ne c] at h; exact c h
 have:=(scan_zero (allP s) 0 (by decide) h2).2
 omega
section
variable [G:Globs]
theorem w_samePthF (l k:List PStep):vc Tryd.prog Γ 26 [0,1,4,5,10,12,13,14,24] (Tryd.f51.body.getD .skip) (postK Γ [.tmp 4] (fun v=>v = .b (decide (l = k)))) ⟨argSlots 0 [.rd .pstep l,.rd .pstep k],[]⟩:=by
 intro hl
 intro hk
 refine aN (fun hq=>?_) (fun hq=>?_)
 ·have hq:l.length≠k.length:=by have:=hq; simp only [bne_iff_ne,ne_eq] at this; omega
  refine congrArg AV.b ?_
  rw [eq_comm,decide_eq_false_iff_not]
  exact fun e=>hq (by rw [e])
 have hq:l.length = k.length:=by have:((l.length:Int) != (k.length:Int)) = false:=hq; simp only [bne_eq_false_iff_eq] at this; omega
 intro _
 refine eX [] (eX [] (eX [] (eX Nat (eX (fun i=>i≤(l).length∧(l.take i = k.take i)) (eX (fun i=>⟨[(0,.rd .pstep l),(1,.rd .pstep k),(12,.i .i64 l.length),(13,.i .i64 i)],[]⟩) (eX (fun i=>(l).length - i) (eX 0 (aN ⟨Nat.zero_le _,rfl⟩ (aN ?_ ?_)))))))))
 ·(repeat' (first | exact trivial | exact Or.inl rfl | exact Or.inr (Or.inl ⟨rfl,_,rfl⟩) | exact Or.inr (Or.inr (Or.inr ⟨_,_,_,rfl,rfl⟩)) | refine aN ?_ ?_))
 rintro i ⟨hi,hI⟩
 refine aN (fun hz=>?_) (fun hz=>?_)
 ·have hi:=ltD hz
  have hg:=getI (τ:=.pstep) hi
  have hg2:=getI (τ:=.pstep) (l:=k) (show i < k.length by omega)
  refine eX [.blk [0,1,2,3,4,5,6,7,8]] (aN (by kernel_rfl) ?_)
  refine bN2 ?_
  refine bN2 ?_
  rw [hg,hg2]
  have hik:i < k.length:=by omega
  have hll:=len_le hl
  have hst:(l[i].key == k[i].key && (decide (l[i].i = k[i].i) && true)) = decide (l[i] = k[i]):=by
   rw [Bool.eq_iff_iff]
   simp only [Bool.and_true,Bool.and_eq_true,beq_iff_eq,decide_eq_true_eq]
   constructor
   ·rintro ⟨h1,h2⟩
    cases hl1:l[i]; cases hk1:k[i]
    rw [hl1,hk1] at h1 h2
    simp only at h1 h2
    rw [h1,h2]
   ·intro h; rw [h]; exact ⟨rfl,rfl⟩
  refine aN (fun hc=>?_) (fun hc=>?_)
  ·have hc:(!(l[i].key == k[i].key && (decide (l[i].i = k[i].i) && true))) = true:=hc
   rw [hst] at hc
   have hne:l[i]≠k[i]:=by simpa using hc
   refine congrArg AV.b ?_
   rw [eq_comm,decide_eq_false_iff_not]
   intro e
   exact hne (by subst e; rfl)
  ·have hc:(!(l[i].key == k[i].key && (decide (l[i].i = k[i].i) && true))) = false:=hc
   rw [hst] at hc
   have heq:l[i] = k[i]:=by simpa using hc
   (refine rNG ?_)
   refine eX [] (eX (_ + 1) (aN ⟨hi,(by rw [take_snoc hi,take_snoc hik,hI,heq])⟩ (aN ?_ ?_)))
   ·(repeat' (first | exact trivial | exact Or.inl rfl | exact Or.inr (Or.inl ⟨rfl,_,rfl⟩) | exact Or.inr (Or.inr (Or.inr ⟨_,_,_,rfl,rfl⟩)) | refine aN ?_ ?_))
   ·(exact Nat.sub_lt_sub_left (by omega) (by omega))
 ·(have hi:=geD hi hz)
  subst hi
  rw [List.take_length,hq,List.take_length] at hI
  exact congrArg AV.b (by rw [eq_comm,decide_eq_true_eq]; exact hI)
theorem s_samePthF (l k:List PStep):PSpec Tryd.prog 51 [.rd .pstep l,.rd .pstep k] (.b (decide (l = k))) :=
 pspec_of_vc Γ_good Tryd.func51 rfl Tryd.call51 Tryd.results51 Tryd.ntmps51 (Nat.le_of_ble_eq_true rfl) (w_samePthF l k)
theorem w_typesFault (hu:HasU8) (s:SchemaR) (hd:∀ d ∈ s.defs,TB d.t) (hr:TB s.root) (hn:s.defs.length≤2000000):vc Tryd.prog Γ 49 [1,2,3,4,7,9,11,15,22,23,24,25,29,30,31,32,36,46] (Tryd.f48.body.getD .skip) (postK Γ [.tmp 2] (fun v=>v = .i .i64 (typsF s))) ⟨argSlots 0 [.agg (encSch s)],[]⟩:=by
 have hC:=s_schemaFault hu s hd hr hn
 have hG:=s_gone s hd hr hn
 have hR:typsF s = orI (checkS s) (if ((allP s).all fun p=>okD s.defs p.t) = true then 0 else 12):=rfl
 generalize typsF s = R at hR ⊢
 by_cases c1:checkS s = 0
 rotate_left
 ·rw [orI_ne c1] at hR
  rw [hR]
  (repeat' (first | (refine aN (fun h=>?_) (fun h=>?_)<;>(try simp [-List.getD_eq_getElem?_getD,-Int.pred_toNat] at h)<;>(try (exfalso; first | omega | contradiction))) | (refine rNG ?_) | (refine bN2 ?_) | (refine bN3 ?_) | (intro _)))
  refine Or.inl (eX _ (aN (hC) ?_))
  (repeat' (first | (refine aN (fun h=>?_) (fun h=>?_)<;>(try simp [-List.getD_eq_getElem?_getD,-Int.pred_toNat] at h)<;>(try (exfalso; first | omega | contradiction))) | (refine rNG ?_) | (refine bN2 ?_) | (refine bN3 ?_) | (intro _)))
  rfl
 have hs:=gs_of hd hr c1
 have hal:=all_le c1
 rw [List.take_of_length_le (by omega)] at hG
 rw [c1,orI_zero] at hR
 rw [c1] at hC
 have hR:R = if ((allP s).drop 0).all (fun p=>okD s.defs p.t) = true then 0 else 12:=hR
 have hin:∀ p ∈ allP s,inS s p.t:=fun p hp=>⟨p,hp,rfl⟩
 generalize allP s = A at hG hR hal hin
 have hml:(A.map (·.t)).length = A.length:=List.length_map ..
 (repeat' (first | (refine aN (fun h=>?_) (fun h=>?_)<;>(try simp [-List.getD_eq_getElem?_getD,-Int.pred_toNat] at h)<;>(try (exfalso; first | omega | contradiction))) | (refine rNG ?_) | (refine bN2 ?_) | (refine bN3 ?_) | (intro _)))
 refine Or.inl (eX _ (aN (hC) ?_))
 (repeat' (first | (refine aN (fun h=>?_) (fun h=>?_)<;>(try simp [-List.getD_eq_getElem?_getD,-Int.pred_toNat] at h)<;>(try (exfalso; first | omega | contradiction))) | (refine rNG ?_) | (refine bN2 ?_) | (refine bN3 ?_) | (intro _)))
 refine Or.inl (eX _ (aN (hG) ?_))
 (repeat' (first | (refine aN (fun h=>?_) (fun h=>?_)<;>(try simp [-List.getD_eq_getElem?_getD,-Int.pred_toNat] at h)<;>(try (exfalso; first | omega | contradiction))) | (refine rNG ?_) | (refine bN2 ?_) | (refine bN3 ?_) | (intro _)))
 refine eX [] (eX [] (eX [] (eX Nat (eX (fun i=>i≤((A.map (·.t))).length∧(R = if (A.drop i).all (fun p=>okD s.defs p.t) = true then 0 else 12)) (eX (fun i=>⟨[(1,.pt 1 0),(22,.rd .typ (A.map (·.t))),(23,.i .i64 (A.map (·.t)).length),(24,.i .i64 i)],[(1,encSch s)]⟩) (eX (fun i=>((A.map (·.t))).length - i) (eX 0 (aN ⟨Nat.zero_le _,hR⟩ (aN ?_ ?_)))))))))
 ·(repeat' (first | exact trivial | exact Or.inl rfl | exact Or.inr (Or.inl ⟨rfl,_,rfl⟩) | exact Or.inr (Or.inr (Or.inr ⟨_,_,_,rfl,rfl⟩)) | refine aN ?_ ?_))
 rintro i ⟨hi,hI⟩
 refine aN (fun hz=>?_) (fun hz=>?_)
 ·have hi:=ltD hz
  have hg:=getI (τ:=.typ) hi
  refine bN2 ?_
  rw [hg]
  have hiA:i < A.length:=by omega
  have eT:(A.map (·.t))[i] = A[i].t:=by rw [List.getElem_map]
  rw [eT]
  have hti:=hin _ (List.getElem_mem hiA)
  rw [List.drop_eq_getElem_cons hiA,List.all_cons] at hI
  generalize A[i].t = t at hI hti
  have hI8:=hI
  clear hI
  have hok:okD s.defs t = (t.f.drop 0).all fun f=>!(f.hasDef && (wrV s.defs true f.dflt f.t).2):=rfl
  have htl:=(by cases hs.tb t hti; omega:t.f.length≤2000000)
  (repeat' (first | (refine aN (fun h=>?_) (fun h=>?_)<;>(try simp [-List.getD_eq_getElem?_getD,-Int.pred_toNat] at h)<;>(try (exfalso; first | omega | contradiction))) | (refine rNG ?_) | (refine bN2 ?_) | (refine bN3 ?_) | (intro _)))
  refine eX [] (eX [] (eX [] (eX Nat (eX (fun j=>j≤(t.f).length∧(okD s.defs t = (t.f.drop j).all fun f=>!(f.hasDef && (wrV s.defs true f.dflt f.t).2))) (eX (fun j=>⟨[(1,.pt 1 0),(22,.rd .typ (A.map (·.t))),(23,.i .i64 (A.map (·.t)).length),(24,.i .i64 i),(29,.rd .fld t.f),(30,.i .i64 t.f.length),(31,.i .i64 j)],[(1,encSch s)]⟩) (eX (fun j=>(t.f).length - j) (eX 0 (aN ⟨Nat.zero_le _,hok⟩ (aN ?_ ?_)))))))))
  ·(repeat' (first | exact trivial | exact Or.inl rfl | exact Or.inr (Or.inl ⟨rfl,_,rfl⟩) | exact Or.inr (Or.inr (Or.inr ⟨_,_,_,rfl,rfl⟩)) | refine aN ?_ ?_))
  rintro j ⟨hi,hI⟩
  refine aN (fun hz=>?_) (fun hz=>?_)
  ·have hj:=ltD hz
   have hg:=getI (τ:=.fld) hj
   have hm:=List.getElem_mem hj
   have hW:=rwrong_spec hs true 20 (by decide) t.f[j].dflt (hs.gv hti hm) t.f[j].t (inS_in hti _ (List.mem_append_right _ (List.mem_map.2 ⟨_,hm,rfl⟩)))
   rw [List.drop_eq_getElem_cons hj,List.all_cons] at hI
   generalize wrV s.defs true t.f[j].dflt t.f[j].t = w at hW hI
   obtain ⟨w1,w2⟩:=w
   dsimp only at hW hI
   refine bN2 ?_
   rw [hg]
   (conv=>whnf)
   cases hh:t.f[j].hasDef with
   | true =>
    rw [hh,Bool.true_and] at hI
    (repeat' (first | (refine aN (fun h=>?_) (fun h=>?_)<;>(try simp [-List.getD_eq_getElem?_getD,-Int.pred_toNat] at h)<;>(try (exfalso; first | omega | contradiction))) | (refine rNG ?_) | (refine bN2 ?_) | (refine bN3 ?_) | (intro _)))
    refine Or.inl (eX _ (aN (hW) ?_))
    cases w2 with
    | true =>
     rw [Bool.not_true,Bool.false_and] at hI
     rw [hI,Bool.false_and,if_neg (by decide)] at hI8
     rw [hI8]
     (repeat' (first | (refine aN (fun h=>?_) (fun h=>?_)<;>(try simp [-List.getD_eq_getElem?_getD,-Int.pred_toNat] at h)<;>(try (exfalso; first | omega | contradiction))) | (refine rNG ?_) | (refine bN2 ?_) | (refine bN3 ?_) | (intro _)))
     rfl
    | false =>
     rw [Bool.not_false,Bool.true_and] at hI
     (repeat' (first | (refine aN (fun h=>?_) (fun h=>?_)<;>(try simp [-List.getD_eq_getElem?_getD,-Int.pred_toNat] at h)<;>(try (exfalso; first | omega | contradiction))) | (refine rNG ?_) | (refine bN2 ?_) | (refine bN3 ?_) | (intro _)))
     refine eX [] (eX (j + 1) (aN ⟨hj,hI⟩ (aN ?_ ?_)))
     ·(repeat' (first | exact trivial | exact Or.inl rfl | exact Or.inr (Or.inl ⟨rfl,_,rfl⟩) | exact Or.inr (Or.inr (Or.inr ⟨_,_,_,rfl,rfl⟩)) | refine aN ?_ ?_))
     ·(exact Nat.sub_lt_sub_left (by omega) (by omega))
   | false =>
    rw [hh,Bool.false_and,Bool.not_false,Bool.true_and] at hI
    (repeat' (first | (refine aN (fun h=>?_) (fun h=>?_)<;>(try simp [-List.getD_eq_getElem?_getD,-Int.pred_toNat] at h)<;>(try (exfalso; first | omega | contradiction))) | (refine rNG ?_) | (refine bN2 ?_) | (refine bN3 ?_) | (intro _)))
    refine eX [] (eX (j + 1) (aN ⟨hj,hI⟩ (aN ?_ ?_)))
    ·(repeat' (first | exact trivial | exact Or.inl rfl | exact Or.inr (Or.inl ⟨rfl,_,rfl⟩) | exact Or.inr (Or.inr (Or.inr ⟨_,_,_,rfl,rfl⟩)) | refine aN ?_ ?_))
    ·(exact Nat.sub_lt_sub_left (by omega) (by omega))
  ·have hj:=geD hi hz
   rw [List.drop_eq_nil_of_le (by omega),List.all_nil] at hI
   rw [hI,Bool.true_and] at hI8
   (repeat' (first | (refine aN (fun h=>?_) (fun h=>?_)<;>(try simp [-List.getD_eq_getElem?_getD,-Int.pred_toNat] at h)<;>(try (exfalso; first | omega | contradiction))) | (refine rNG ?_) | (refine bN2 ?_) | (refine bN3 ?_) | (intro _)))
   refine eX [] (eX (i + 1) (aN ⟨by omega,hI8⟩ (aN ?_ ?_)))
   ·(repeat' (first | exact trivial | exact Or.inl rfl | exact Or.inr (Or.inl ⟨rfl,_,rfl⟩) | exact Or.inr (Or.inr (Or.inr ⟨_,_,_,rfl,rfl⟩)) | refine aN ?_ ?_))
   ·(exact Nat.sub_lt_sub_left (by omega) (by omega))
 (have hi:=geD hi hz)
 rw [List.drop_eq_nil_of_le (by omega),List.all_nil,if_pos rfl] at hI
 rw [hI]
 (repeat' (first | (refine aN (fun h=>?_) (fun h=>?_)<;>(try simp [-List.getD_eq_getElem?_getD,-Int.pred_toNat] at h)<;>(try (exfalso; first | omega | contradiction))) | (refine rNG ?_) | (refine bN2 ?_) | (refine bN3 ?_) | (intro _)))
 rfl
theorem s_typesFault (hu:HasU8) (s:SchemaR) (hd:∀ d ∈ s.defs,TB d.t) (hr:TB s.root) (hn:s.defs.length≤2000000):PSpec Tryd.prog 48 [.agg (encSch s)] (.i .i64 (typsF s)) :=
 pspec_of_vc Γ_good Tryd.func48 rfl Tryd.call48 Tryd.results48 Tryd.ntmps48 (Nat.le_of_ble_eq_true rfl) (w_typesFault hu s hd hr hn)
theorem w_lfault (hu:HasU8) (s:SchemaR) (hd:∀ d ∈ s.defs,TB d.t) (hr:TB s.root) (hn:s.defs.length≤2000000) (z:Val) (hz:VB z) (hzn:(sizV z).2≤1000000000):vc Tryd.prog Γ 13 [2,3,4,5,9] (Tryd.f49.body.getD .skip) (postK Γ [.tmp 4] (fun v=>v = .i .i64 (orI (typsF s) (chkV z 0 0).1))) ⟨argSlots 0 [.agg (encSch s),.agg (encVal z)],[]⟩:=by
 have hC:=s_typesFault hu s hd hr hn
 have hV:=s_fault z hz hzn
 rw [← chk_T] at hV
 by_cases c1:typsF s = 0
 ·rw [c1,orI_zero]
  rw [c1] at hC
  (repeat' (first | (refine aN (fun h=>?_) (fun h=>?_)<;>(try simp [-List.getD_eq_getElem?_getD,-Int.pred_toNat] at h)<;>(try (exfalso; first | omega | contradiction))) | (refine rNG ?_) | (refine bN2 ?_) | (refine bN3 ?_) | (intro _)))
  refine Or.inl (eX _ (aN (hC) ?_))
  (repeat' (first | (refine aN (fun h=>?_) (fun h=>?_)<;>(try simp [-List.getD_eq_getElem?_getD,-Int.pred_toNat] at h)<;>(try (exfalso; first | omega | contradiction))) | (refine rNG ?_) | (refine bN2 ?_) | (refine bN3 ?_) | (intro _)))
  refine Or.inl (eX _ (aN (hV) ?_))
  (repeat' (first | (refine aN (fun h=>?_) (fun h=>?_)<;>(try simp [-List.getD_eq_getElem?_getD,-Int.pred_toNat] at h)<;>(try (exfalso; first | omega | contradiction))) | (refine rNG ?_) | (refine bN2 ?_) | (refine bN3 ?_) | (intro _)))
  rfl
 ·rw [orI_ne c1]
  (repeat' (first | (refine aN (fun h=>?_) (fun h=>?_)<;>(try simp [-List.getD_eq_getElem?_getD,-Int.pred_toNat] at h)<;>(try (exfalso; first | omega | contradiction))) | (refine rNG ?_) | (refine bN2 ?_) | (refine bN3 ?_) | (intro _)))
  refine Or.inl (eX _ (aN (hC) ?_))
  (repeat' (first | (refine aN (fun h=>?_) (fun h=>?_)<;>(try simp [-List.getD_eq_getElem?_getD,-Int.pred_toNat] at h)<;>(try (exfalso; first | omega | contradiction))) | (refine rNG ?_) | (refine bN2 ?_) | (refine bN3 ?_) | (intro _)))
  rfl
theorem s_lfault (hu:HasU8) (s:SchemaR) (hd:∀ d ∈ s.defs,TB d.t) (hr:TB s.root) (hn:s.defs.length≤2000000) (z:Val) (hz:VB z) (hzn:(sizV z).2≤1000000000):PSpec Tryd.prog 49 [.agg (encSch s),.agg (encVal z)] (.i .i64 (orI (typsF s) (chkV z 0 0).1)) :=
 pspec_of_vc Γ_good Tryd.func49 rfl Tryd.call49 Tryd.results49 Tryd.ntmps49 (Nat.le_of_ble_eq_true rfl) (w_lfault hu s hd hr hn z hz hzn)
end
end Go.Proofs.YtdcdmojbkmedpaaDoor
end
section
namespace Go.Proofs.YtdcdmojbkmedpaaDoor
open Go Go.SX Go.Ck Go.Vl Go.Ut Go.Ty
set_option maxRecDepth 100000
set_option maxHeartbeats 8000000
section
variable [G:Globs]
theorem w_flaw (hu:HasU8) (s:SchemaR) (hd:∀ d ∈ s.defs,TB d.t) (hr:TB s.root) (hn:s.defs.length≤2000000) (z:Val) (hz:VB z) (hzn:(sizV z).2≤1000000000):vc Tryd.prog Γ 102 [2,3,4,5,6,7,8,9,10,11,12,30,35,65] (Tryd.f9.body.getD .skip) (postK Γ [.tmp 4] (fun v=>v = .b true)) ⟨argSlots 0 [.agg (encSch s),.agg (encVal z)],[]⟩:=by
 have hF:=s_ffits hu s hd hr hn z hz hzn
 have hW:=s_why hu s hd hr hn z hz hzn
 have hC:=s_fcheck hu s hd hr hn
 have hT:=s_typesFault hu s hd hr hn
 have hL:=s_lfault hu s hd hr hn z hz hzn
 have hR:whyF s z = if typsF s≠0 then ([],false,typsF s) else if (chkV z 0 0).1≠0 then ([],false,(chkV z 0 0).1) else ((wrV s.defs false z s.root).1,!(wrV s.defs false z s.root).2,0):=rfl
 by_cases c1:typsF s = 0
 rotate_left
 ·rw [if_pos c1] at hR
  rw [orI_ne c1] at hL
  rw [hR] at hF hW
  dsimp only at hF hW
  generalize typsF s = e at hC hT hL hF hW c1
  (repeat' (first | (refine aN (fun h=>?_) (fun h=>?_)<;>(try simp [-List.getD_eq_getElem?_getD,-Int.pred_toNat] at h)<;>(try (exfalso; first | omega | contradiction))) | (refine rNG ?_) | (refine bN2 ?_) | (refine bN3 ?_) | (intro _)))
  refine Or.inl (eX _ (aN (hF) ?_))
  (repeat' (first | (refine aN (fun h=>?_) (fun h=>?_)<;>(try simp [-List.getD_eq_getElem?_getD,-Int.pred_toNat] at h)<;>(try (exfalso; first | omega | contradiction))) | (refine rNG ?_) | (refine bN2 ?_) | (refine bN3 ?_) | (intro _)))
  refine Or.inl (eX _ (aN (hW) ?_))
  (repeat' (first | (refine aN (fun h=>?_) (fun h=>?_)<;>(try simp [-List.getD_eq_getElem?_getD,-Int.pred_toNat] at h)<;>(try (exfalso; first | omega | contradiction))) | (refine rNG ?_) | (refine bN2 ?_) | (refine bN3 ?_) | (intro _)))
  refine eX [.blk [0,1,2,3,4]] (aN (by kernel_rfl) ?_)
  refine eX _ (aN (hC) ?_)
  (repeat' (first | (refine aN (fun h=>?_) (fun h=>?_)<;>(try simp [-List.getD_eq_getElem?_getD,-Int.pred_toNat] at h)<;>(try (exfalso; first | omega | contradiction))) | (refine rNG ?_) | (refine bN2 ?_) | (refine bN3 ?_) | (intro _)))
  refine eX _ (aN (hT) ?_)
  (repeat' (first | (refine aN (fun h=>?_) (fun h=>?_)<;>(try simp [-List.getD_eq_getElem?_getD,-Int.pred_toNat] at h)<;>(try (exfalso; first | omega | contradiction))) | (refine rNG ?_) | (refine bN2 ?_) | (refine bN3 ?_) | (intro _)))
  refine Or.inl (eX _ (aN (hL) ?_))
  (repeat' (first | (refine aN (fun h=>?_) (fun h=>?_)<;>(try simp [-List.getD_eq_getElem?_getD,-Int.pred_toNat] at h)<;>(try (exfalso; first | omega | contradiction))) | (refine rNG ?_) | (refine bN2 ?_) | (refine bN3 ?_) | (intro _)))
  exact congrArg AV.b (beq_self_eq_true e)
 rw [if_neg (fun h=>h c1)] at hR
 rw [c1,orI_zero] at hL
 rw [c1] at hC hT
 by_cases c2:(chkV z 0 0).1 = 0
 rotate_left
 ·rw [if_pos c2] at hR
  rw [hR] at hF hW
  dsimp only at hF hW
  generalize (chkV z 0 0).1 = e at hL hF hW c2
  (repeat' (first | (refine aN (fun h=>?_) (fun h=>?_)<;>(try simp [-List.getD_eq_getElem?_getD,-Int.pred_toNat] at h)<;>(try (exfalso; first | omega | contradiction))) | (refine rNG ?_) | (refine bN2 ?_) | (refine bN3 ?_) | (intro _)))
  refine Or.inl (eX _ (aN (hF) ?_))
  (repeat' (first | (refine aN (fun h=>?_) (fun h=>?_)<;>(try simp [-List.getD_eq_getElem?_getD,-Int.pred_toNat] at h)<;>(try (exfalso; first | omega | contradiction))) | (refine rNG ?_) | (refine bN2 ?_) | (refine bN3 ?_) | (intro _)))
  refine Or.inl (eX _ (aN (hW) ?_))
  (repeat' (first | (refine aN (fun h=>?_) (fun h=>?_)<;>(try simp [-List.getD_eq_getElem?_getD,-Int.pred_toNat] at h)<;>(try (exfalso; first | omega | contradiction))) | (refine rNG ?_) | (refine bN2 ?_) | (refine bN3 ?_) | (intro _)))
  refine eX [.blk [0,1,2,3,4]] (aN (by kernel_rfl) ?_)
  refine eX _ (aN (hC) ?_)
  (repeat' (first | (refine aN (fun h=>?_) (fun h=>?_)<;>(try simp [-List.getD_eq_getElem?_getD,-Int.pred_toNat] at h)<;>(try (exfalso; first | omega | contradiction))) | (refine rNG ?_) | (refine bN2 ?_) | (refine bN3 ?_) | (intro _)))
  refine eX _ (aN (hT) ?_)
  (repeat' (first | (refine aN (fun h=>?_) (fun h=>?_)<;>(try simp [-List.getD_eq_getElem?_getD,-Int.pred_toNat] at h)<;>(try (exfalso; first | omega | contradiction))) | (refine rNG ?_) | (refine bN2 ?_) | (refine bN3 ?_) | (intro _)))
  refine Or.inl (eX _ (aN (hL) ?_))
  (repeat' (first | (refine aN (fun h=>?_) (fun h=>?_)<;>(try simp [-List.getD_eq_getElem?_getD,-Int.pred_toNat] at h)<;>(try (exfalso; first | omega | contradiction))) | (refine rNG ?_) | (refine bN2 ?_) | (refine bN3 ?_) | (intro _)))
  exact congrArg AV.b (beq_self_eq_true e)
 rw [if_neg (fun h=>h c2)] at hR
 rw [c2] at hL
 have c3:checkS s = 0:=(Up.orI_0 c1).1
 have hs:=gs_of hd hr c3
 have hRW:=rwrong_spec hs false 20 (by decide) z (gv_chk hz c2) s.root (inS_root s)
 have hnil:=wrV_nil (l:=s.defs) (full:=false) (v:=z) (t:=s.root)
 have hSP:=s_samePthF (wrV s.defs false z s.root).1 (wrV s.defs false z s.root).1
 rw [decide_eq_true rfl] at hSP
 rw [hR] at hF hW
 dsimp only at hF hW
 generalize wrV s.defs false z s.root = w at hF hW hRW hnil hSP
 obtain ⟨w1,w2⟩:=w
 dsimp only at hF hW hRW hnil hSP
 cases w2 with
 | true =>
  (repeat' (first | (refine aN (fun h=>?_) (fun h=>?_)<;>(try simp [-List.getD_eq_getElem?_getD,-Int.pred_toNat] at h)<;>(try (exfalso; first | omega | contradiction))) | (refine rNG ?_) | (refine bN2 ?_) | (refine bN3 ?_) | (intro _)))
  refine Or.inl (eX _ (aN (hF) ?_))
  (repeat' (first | (refine aN (fun h=>?_) (fun h=>?_)<;>(try simp [-List.getD_eq_getElem?_getD,-Int.pred_toNat] at h)<;>(try (exfalso; first | omega | contradiction))) | (refine rNG ?_) | (refine bN2 ?_) | (refine bN3 ?_) | (intro _)))
  refine Or.inl (eX _ (aN (hW) ?_))
  (repeat' (first | (refine aN (fun h=>?_) (fun h=>?_)<;>(try simp [-List.getD_eq_getElem?_getD,-Int.pred_toNat] at h)<;>(try (exfalso; first | omega | contradiction))) | (refine rNG ?_) | (refine bN2 ?_) | (refine bN3 ?_) | (intro _)))
  refine eX [.blk [0,1,2,3,4]] (aN (by kernel_rfl) ?_)
  refine eX _ (aN (hC) ?_)
  (repeat' (first | (refine aN (fun h=>?_) (fun h=>?_)<;>(try simp [-List.getD_eq_getElem?_getD,-Int.pred_toNat] at h)<;>(try (exfalso; first | omega | contradiction))) | (refine rNG ?_) | (refine bN2 ?_) | (refine bN3 ?_) | (intro _)))
  refine eX _ (aN (hT) ?_)
  (repeat' (first | (refine aN (fun h=>?_) (fun h=>?_)<;>(try simp [-List.getD_eq_getElem?_getD,-Int.pred_toNat] at h)<;>(try (exfalso; first | omega | contradiction))) | (refine rNG ?_) | (refine bN2 ?_) | (refine bN3 ?_) | (intro _)))
  refine Or.inl (eX _ (aN (hL) ?_))
  (repeat' (first | (refine aN (fun h=>?_) (fun h=>?_)<;>(try simp [-List.getD_eq_getElem?_getD,-Int.pred_toNat] at h)<;>(try (exfalso; first | omega | contradiction))) | (refine rNG ?_) | (refine bN2 ?_) | (refine bN3 ?_) | (intro _)))
  refine Or.inl (eX _ (aN (hRW) ?_))
  (repeat' (first | (refine aN (fun h=>?_) (fun h=>?_)<;>(try simp [-List.getD_eq_getElem?_getD,-Int.pred_toNat] at h)<;>(try (exfalso; first | omega | contradiction))) | (refine rNG ?_) | (refine bN2 ?_) | (refine bN3 ?_) | (intro _)))
  refine Or.inl (eX _ (aN (hSP) ?_))
  (repeat' (first | (refine aN (fun h=>?_) (fun h=>?_)<;>(try simp [-List.getD_eq_getElem?_getD,-Int.pred_toNat] at h)<;>(try (exfalso; first | omega | contradiction))) | (refine rNG ?_) | (refine bN2 ?_) | (refine bN3 ?_) | (intro _)))
  rfl
 | false =>
  have hnil:=hnil rfl
  subst hnil
  (repeat' (first | (refine aN (fun h=>?_) (fun h=>?_)<;>(try simp [-List.getD_eq_getElem?_getD,-Int.pred_toNat] at h)<;>(try (exfalso; first | omega | contradiction))) | (refine rNG ?_) | (refine bN2 ?_) | (refine bN3 ?_) | (intro _)))
  refine Or.inl (eX _ (aN (hF) ?_))
  (repeat' (first | (refine aN (fun h=>?_) (fun h=>?_)<;>(try simp [-List.getD_eq_getElem?_getD,-Int.pred_toNat] at h)<;>(try (exfalso; first | omega | contradiction))) | (refine rNG ?_) | (refine bN2 ?_) | (refine bN3 ?_) | (intro _)))
  refine Or.inl (eX _ (aN (hW) ?_))
  (repeat' (first | (refine aN (fun h=>?_) (fun h=>?_)<;>(try simp [-List.getD_eq_getElem?_getD,-Int.pred_toNat] at h)<;>(try (exfalso; first | omega | contradiction))) | (refine rNG ?_) | (refine bN2 ?_) | (refine bN3 ?_) | (intro _)))
  refine eX [.blk [0,1,2,3,4]] (aN (by kernel_rfl) ?_)
  refine eX _ (aN (hC) ?_)
  (repeat' (first | (refine aN (fun h=>?_) (fun h=>?_)<;>(try simp [-List.getD_eq_getElem?_getD,-Int.pred_toNat] at h)<;>(try (exfalso; first | omega | contradiction))) | (refine rNG ?_) | (refine bN2 ?_) | (refine bN3 ?_) | (intro _)))
  refine eX _ (aN (hT) ?_)
  (repeat' (first | (refine aN (fun h=>?_) (fun h=>?_)<;>(try simp [-List.getD_eq_getElem?_getD,-Int.pred_toNat] at h)<;>(try (exfalso; first | omega | contradiction))) | (refine rNG ?_) | (refine bN2 ?_) | (refine bN3 ?_) | (intro _)))
  refine Or.inl (eX _ (aN (hL) ?_))
  (repeat' (first | (refine aN (fun h=>?_) (fun h=>?_)<;>(try simp [-List.getD_eq_getElem?_getD,-Int.pred_toNat] at h)<;>(try (exfalso; first | omega | contradiction))) | (refine rNG ?_) | (refine bN2 ?_) | (refine bN3 ?_) | (intro _)))
  refine Or.inl (eX _ (aN (hRW) ?_))
  (repeat' (first | (refine aN (fun h=>?_) (fun h=>?_)<;>(try simp [-List.getD_eq_getElem?_getD,-Int.pred_toNat] at h)<;>(try (exfalso; first | omega | contradiction))) | (refine rNG ?_) | (refine bN2 ?_) | (refine bN3 ?_) | (intro _)))
  rfl
theorem s_flaw (hu:HasU8) (s:SchemaR) (hd:∀ d ∈ s.defs,TB d.t) (hr:TB s.root) (hn:s.defs.length≤2000000) (z:Val) (hz:VB z) (hzn:(sizV z).2≤1000000000):PSpec Tryd.prog 9 [.agg (encSch s),.agg (encVal z)] (.b true) :=
 pspec_of_vc Γ_good Tryd.func9 rfl Tryd.call9 Tryd.results9 Tryd.ntmps9 (Nat.le_of_ble_eq_true rfl) (w_flaw hu s hd hr hn z hz hzn)
end
end Go.Proofs.YtdcdmojbkmedpaaDoor
end
section
namespace Go.SX
open Go.RowKit Go.WideShapes Go.ChangeShapes Go.Deep
structure BulkS {H:Type} (bk:DataW H→Nat):Prop where
 sl:∀ els rest,(els.map bk).sum + 1≤bk (.slice els rest)
 ag:∀ ds,(ds.map bk).sum + 1≤bk (.agg ds)
 st:∀ b,b.length + 1≤bk (.lit (.string b))
 pos:∀ d,1≤bk d
/-! the bulk of a value -/
mutual
def bkV:Val→Nat
 | ⟨_,_,_,s,l,e⟩=>s.length + bkL l + bkE e + 7
def bkL:List Val→Nat
 | []=>0
 | x::xs=>bkV x + bkL xs
def bkE:List (Str × Val)→Nat
 | []=>0
 | x::xs=>bkP x + bkE xs
def bkP:Str × Val→Nat
 | (k,x)=>k.length + bkV x + 2
end
theorem bkL_sum (l:List Val):bkL l = (l.map bkV).sum:=by
 induction l with
 | nil=>rfl
 | cons x r ih=>rw [bkL,List.map_cons,List.sum_cons,ih]
theorem bkE_sum (l:List (Str × Val)):bkE l = (l.map bkP).sum:=by
 induction l with
 | nil=>rfl
 | cons x r ih=>rw [bkE,List.map_cons,List.sum_cons,ih]
theorem bkV_eq (v:Val):bkV v = v.s.length + (v.l.map bkV).sum + (v.e.map bkP).sum + 7:=by
 cases v
 rw [bkV,bkL_sum,bkE_sum]
theorem bkP_eq (p:Str × Val):bkP p = p.1.length + bkV p.2 + 2:=by
 cases p
 rw [bkP]
theorem sum_mem {α:Type} {m:α→Nat}:∀ {l:List α} {x:α},x ∈ l→m x≤(l.map m).sum
 | y::r,x,h=>by
  rw [List.map_cons,List.sum_cons]
  rcases List.mem_cons.1 h with rfl | h
  ·omega
  ·have:=sum_mem (m:=m) h
   omega
theorem sum_len {α:Type} {m:α→Nat} (h1:∀ x,1≤m x):∀ l:List α,l.length≤(l.map m).sum
 | []=>Nat.zero_le _
 | x::r=>by
  have:=sum_len h1 r
  have:=h1 x
  rw [List.map_cons,List.sum_cons,List.length_cons]
  omega
theorem sum_le2 {α β:Type} {m:α→Nat} {k:β→Nat}:∀ {l:List α} {r:List β},l.length = r.length→(∀ (i:Nat) x y,l[i]? = some x→r[i]? = some y→m x≤k y)→(l.map m).sum≤(r.map k).sum
 | [],_,_,_=>Nat.zero_le _
 | x::l,[],h,_=>nomatch h
 | x::l,y::r,h,hh=>by
  have h1:=hh 0 x y rfl rfl
  have h2:=sum_le2 (m:=m) (k:=k) (l:=l) (r:=r) (by simpa using h) (fun i a b ha hb=>hh (i + 1) a b (by simpa using ha) (by simpa using hb))
  rw [List.map_cons,List.sum_cons,List.map_cons,List.sum_cons]
  omega
theorem bkV_pos (v:Val):1≤bkV v:=by rw [bkV_eq]; omega
theorem bkP_pos (p:Str × Val):1≤bkP p:=by rw [bkP_eq]; omega
theorem bkV_mem {v x:Val} (h:x ∈ v.l):bkV x < bkV v:=by
 have:=sum_mem (m:=bkV) h
 rw [bkV_eq v]
 omega
theorem bkV_ent {v:Val} {p:Str × Val} (h:p ∈ v.e):bkV p.2 + p.1.length < bkV v:=by
 have:=sum_mem (m:=bkP) h
 rw [bkP_eq] at this
 rw [bkV_eq v]
 omega
theorem bkV_len (v:Val):v.s.length + v.l.length + v.e.length < bkV v:=by
 have h1:=sum_len (m:=bkV) bkV_pos v.l
 have h2:=sum_len (m:=bkP) bkP_pos v.e
 rw [bkV_eq v]
 omega
section
variable [Globs]
variable {H:Type} {encH:TypeId × Value→H} {P:Program} {W:World} {sp:Nat→Bool} {hd:Bool} {O:Nat→Prop} {bk:DataW H→Nat}
theorem arg_sliceS {t e : TypeId} {τ : Ty} {m : den τ → Nat} {R : den τ → Prop} (hbk : BulkS bk) (hO : ∀ k, ¬ O k) (ht : P.underlying t = some (.slice e)) (hc : P.cellsOf e = esz τ) {fuel : Nat}
  (hel:∀ n,n < fuel→∀ (cs:List Value) (x:DataW H × List MemPlace),DataW.trod encH P W 0 sp hd n e cs = some x→∃ y:den τ,All2 (Im O W) (enc τ y) cs∧m y≤bk x.1∧R y)
  {cs:List Value} {x:DataW H × List MemPlace} (h:DataW.trod encH P W 0 sp hd fuel t cs = some x):∃ (l:List (den τ)) (v:Value),cs = [v]∧Im O W (.rd τ l) v∧(l.map m).sum + 1≤bk x.1∧∀ y ∈ l,R y:=by
 rcases DataW.trod_slice ht h with ⟨rfl,rfl⟩ | ⟨a,len,cap,elems,rest,n,rfl,rfl,rfl,hb,hlc,hcm,hlen,hall,_,_⟩
 ·exact ⟨[],_,rfl,.rd0 τ none 0 (Nat.zero_le _),by simpa using hbk.pos _,fun y hy=>nomatch hy⟩
 by_cases h0:len = 0
 ·subst h0; exact ⟨[],_,rfl,.rd0 τ _ _ hcm,by simpa using hbk.pos _,fun y hy=>nomatch hy⟩
 have hall:∀ i,i < len→∃ (us:List Value) (y:DataW H × List MemPlace),W.cells? 0 (a.add (i * P.cellsOf e)) (P.cellsOf e) = some us∧DataW.trod encH P W 0 sp hd n e us = some y∧elems[i]? = some y:=fun i hi=>by
  have:=hall i hi
  rw [List.getElem?_eq_getElem (by omega)] at this
  obtain ⟨us,h1,h2⟩:=Option.bind_eq_some_iff.1 this
  exact ⟨us,_,h1,h2,List.getElem?_eq_getElem _⟩
 have hch:∀ i,i < len→∃ (y:den τ) (us:List Value),(All2 (Im O W) (enc τ y) us∧(∀ d,elems[i]? = some d→m y≤bk d.1)∧R y)∧us.length = esz τ∧∀ (j:Nat) v,us[j]? = some v→W.cell? ⟨a.block,a.off + (i * esz τ + j),none⟩ = some v:=by
  intro i hi
  obtain ⟨us,yy,h1,h2,hm⟩:=hall i hi
  obtain ⟨y,hy⟩:=hel n (Nat.lt_succ_self n) _ _ h2
  rw [hc] at h1
  obtain ⟨h3,h4⟩:=cells_get h1
  refine ⟨y,us,⟨hy.1,fun d hd=>?_,hy.2.2⟩,h3,fun j v hv=>?_⟩
  ·rw [hm] at hd
   injection hd with hd
   subst hd
   exact hy.2.1
  have h5:=h4 j v hv
  have hs:∀ j v,us[j]? = some v→((a.add (i * esz τ)).add j).spot = none:=fun j v hv=>World.cell?_spot (h4 j v hv)
  have hpos:=esz_pos τ
  have h00:(a.add (i * esz τ)).spot = none:=by
   have:=hs 0 (us[0]'(by omega)) (List.getElem?_eq_getElem _)
   simpa [Addr.add] using this
  have e1:=add_of h00
  rw [e1] at h5
  rw [add_none] at h5
  rw [← h5,Nat.add_assoc]
 have ys:∃ l:List (den τ),l.length = len∧∀ (i:Nat) y,l[i]? = some y→∃ us:List Value,(All2 (Im O W) (enc τ y) us∧(∀ d,elems[i]? = some d→m y≤bk d.1)∧R y)∧∀ (j:Nat) v,us[j]? = some v→W.cell? ⟨a.block,a.off + (i * esz τ + j),none⟩ = some v:=by
  have hch':=fun (i:Fin len)=>hch i.1 i.2
  refine ⟨List.ofFn fun i:Fin len=>Classical.choose (hch' i),by simp,fun i y hy=>?_⟩
  have hi:i < len:=by have:=(List.getElem?_eq_some_iff.1 hy).1; simpa using this
  rw [List.getElem?_ofFn,dif_pos hi] at hy
  injection hy with hy
  subst hy
  obtain ⟨us,h1,_,h2⟩:=Classical.choose_spec (hch' ⟨i,hi⟩)
  exact ⟨us,h1,h2⟩
 obtain ⟨l,hll,hl⟩:=ys
 refine ⟨l,_,rfl,?_,?_,fun y hy=>?_⟩
 rotate_left
 ·have h1:=hbk.sl (elems.map (·.1)) (rest.map (·.1))
  have h2:(l.map m).sum≤((elems.map (·.1)).map bk).sum:=sum_le2 (by rw [List.length_map]; omega) fun i y d hy hd=>by
   obtain ⟨us,h3,_⟩:=hl i y hy
   rw [List.getElem?_map,Option.map_eq_some_iff] at hd
   obtain ⟨d',hd',rfl⟩:=hd
   exact h3.2.1 d' hd'
  exact Nat.le_trans (Nat.succ_le_succ h2) h1
 ·obtain ⟨i,hi,rfl⟩:=List.getElem_of_mem hy
  obtain ⟨us,h1,_⟩:=hl i _ (List.getElem?_eq_getElem hi)
  exact h1.2.2
 have hane:a = ⟨a.block,a.off,none⟩:=by
  obtain ⟨us',yy,h1,h2,_⟩:=hall 0 (by omega)
  have hpos:=esz_pos τ
  rw [hc] at h1
  obtain ⟨h5,h6⟩:=cells_get h1
  have:=World.cell?_spot (h6 0 (us'[0]'(by omega)) (List.getElem?_eq_getElem _))
  simp [Addr.add] at this
  obtain ⟨b,o,s⟩:=a
  simp only at this
  subst this
  rfl
 rw [hane,← hll]
 refine .rd τ l a.block a.off cap (fun i j=>(W.cell? ⟨a.block,a.off + (i * esz τ + j),none⟩).getD undef) (hO _) (by omega) hcm (fun e=>h0 (by rw [← hll,e]; rfl)) (fun i y j av hy hav=>?_) (fun i y j av hy hav=>?_)
 ·obtain ⟨us,h1,h2⟩:=hl i y hy
  have hj:j < us.length:=by rw [← h1.1.1]; exact (List.getElem?_eq_some_iff.1 hav).1
  rw [h2 j _ (List.getElem?_eq_getElem hj)]; rfl
 ·obtain ⟨us,h1,h2⟩:=hl i y hy
  have hj:j < us.length:=by rw [← h1.1.1]; exact (List.getElem?_eq_some_iff.1 hav).1
  rw [h2 j _ (List.getElem?_eq_getElem hj)]
  exact h1.1.2 j av _ hav (List.getElem?_eq_getElem hj)
theorem one_fieldS {t : TypeId} {fs : Array Field} {fuel : Nat} {cs : List Value} {x : DataW H × List MemPlace} (ht : P.underlying t = some (.struct fs)) (h : DataW.trod encH P W 0 sp hd fuel t cs = some x) :
  ∃ (n:Nat) (ds:List (DataW H)),fuel = n + 1∧cs.length = P.cellsOf t∧x.1 = .agg ds∧ds.length = fs.size∧∀ (i off:Nat) (t':TypeId),HasF fs i off t'→∃ y,DataW.trod encH P W 0 sp hd n t' ((cs.drop off).take (P.cellsOf t')) = some y∧ds[i]? = some y.1:=by
 obtain ⟨xs,n,hn,rfl,h1,h2,h3⟩:=DataW.trod_struct ht h
 refine ⟨n,xs.map (·.1),hn,h1,rfl,by rw [List.length_map]; exact h2,fun i off t' hf=>?_⟩
 obtain ⟨f,hf,rfl,rfl⟩:=hf
 have hi:i < xs.length:=by rw [h2]; exact (Array.getElem?_eq_some_iff.1 hf).1
 rw [h3 i f hf,List.getElem?_eq_getElem hi]
 exact ⟨_,rfl,by rw [List.getElem?_map,List.getElem?_eq_getElem hi]; rfl⟩
theorem arg_strS (hbk:BulkS bk) {t:TypeId} {fuel:Nat} {cs:List Value} {x:DataW H × List MemPlace} (ht:P.underlying t = some .string) (h:DataW.trod encH P W 0 sp hd fuel t cs = some x):∃ (l:Str) (v:Value),cs = [v]∧Im O W (.s l) v∧l.length + 1≤bk x.1:=by
 obtain ⟨s,h1,h3,h2⟩:=DataW.trod_string ht h
 refine ⟨s.data.toList,.string s,h1,?_,?_⟩
 ·have:=Im.s (O:=O) (w:=W) s.data.toList (by rw [Array.length_toList]; exact h2)
  simpa using this
 ·rw [h3]; exact hbk.st _
theorem arg_valS {V:TypeId} (hbk:BulkS bk) (T:VTy P V) (hs:T.fs.size = 6) (hs2:T.gs.size = 2) (hO:∀ k,¬ O k):∀ (fuel:Nat) (cs:List Value) (x:DataW H × List MemPlace),DataW.trod encH P W 0 sp hd fuel V cs = some x→∃ y:Val,All2 (Im O W) (encVal y) cs∧bkV y≤bk x.1∧VB y:=by
 intro fuel
 induction fuel using Nat.strongRecOn with
 | _ fuel ih =>
 intro cs x h
 obtain ⟨n,ds,rfl,hl,hag,hds,hf⟩:=one_fieldS T.hV h
 rw [T.cV] at hl
 rw [hs] at hds
 obtain ⟨c0,c1,c2,c3,c4,c5⟩:=T.c
 match cs,hl,ds,hds with
 | [u0,u1,u2,u3,u4,u5],_,[d0,d1,d2,d3,d4,d5],_ =>
  obtain ⟨y0,q0,k0⟩:=hf 0 0 _ T.h0
  obtain ⟨y1,q1,k1⟩:=hf 1 1 _ T.h1
  obtain ⟨y2,q2,k2⟩:=hf 2 2 _ T.h2
  obtain ⟨y3,q3,k3⟩:=hf 3 3 _ T.h3
  obtain ⟨y4,q4,k4⟩:=hf 4 4 _ T.h4
  obtain ⟨y5,q5,k5⟩:=hf 5 5 _ T.h5
  simp only [List.getElem?_cons_zero,List.getElem?_cons_succ,Option.some.injEq] at k0 k1 k2 k3 k4 k5
  subst k0 k1 k2 k3 k4 k5
  rw [c0] at q0
  rw [c1] at q1
  rw [c2] at q2
  rw [c3] at q3
  rw [c4] at q4
  rw [c5] at q5
  obtain ⟨k,e0,i0,w0⟩:=arg_int (O:=O) T.uK q0
  obtain ⟨m,e1,i1,w1⟩:=arg_int (O:=O) T.uN q1
  obtain ⟨f,e2,i2,w2⟩:=arg_int (O:=O) T.uU q2
  obtain ⟨s,vs,e3,i3,z3⟩:=arg_strS (O:=O) hbk T.uS q3
  obtain ⟨l,vl,e4,i4,z4,r4⟩:=arg_sliceS (O:=O) (τ:=.val) (m:=bkV) (R:=VB) hbk hO T.uL T.cV (fun n' hn cs' x' hx=>ih n' (by omega) cs' x' hx) q4
  obtain ⟨es,ve,e5,i5,z5,r5⟩:=arg_sliceS (O:=O) (τ:=.ent) (m:=bkP) (R:=fun p=>VB p.2) hbk hO T.uE T.cE (fun n' hn cs' x' hx=>by
   obtain ⟨n2,ds2,rfl,hl2,hag2,hds2,hf2⟩:=one_fieldS T.hE hx
   rw [T.cE] at hl2
   rw [hs2] at hds2
   match cs',hl2,ds2,hds2 with
   | [z0,z1,z2,z3,z4,z5,z6],_,[g0,g1],_ =>
    obtain ⟨_,p0,m0⟩:=hf2 0 0 _ T.g0
    obtain ⟨_,p1,m1⟩:=hf2 1 1 _ T.g1
    simp only [List.getElem?_cons_zero,List.getElem?_cons_succ,Option.some.injEq] at m0 m1
    subst m0 m1
    rw [c3] at p0
    rw [T.cV] at p1
    obtain ⟨ks,kv,d0,j0,lk⟩:=arg_strS (O:=O) hbk T.uS p0
    obtain ⟨y,j1,hyb,hy⟩:=ih n2 (by omega) _ _ p1
    simp at d0
    subst d0
    refine ⟨(ks,y),All2.cons j0 (by simpa using j1),?_,hy⟩
    rw [hag2]
    refine Nat.le_trans ?_ (hbk.ag _)
    rw [bkP_eq]
    simp only [List.map_cons,List.map_nil,List.sum_cons,List.sum_nil]
    omega) q5
  simp at e0 e1 e2 e3 e4 e5
  subst e0 e1 e2 e3 e4 e5
  refine ⟨⟨k,m,f,s,l,es⟩,All2.cons i0 (All2.cons i1 (All2.cons i2 (All2.cons i3 (All2.cons i4 (All2.cons i5 (All2.nil _)))))),?_,.mk _ (wf_i64 w0) (wf_i64 w1) (wf_u64 w2) r4 r5⟩
  have h9:=hbk.ag [y0.1,y1.1,y2.1,y3.1,y4.1,y5.1]
  have p0:=hbk.pos y0.1
  have p1:=hbk.pos y1.1
  have p2:=hbk.pos y2.1
  rw [hag]
  refine Nat.le_trans ?_ h9
  rw [bkV_eq]
  simp only [List.map_cons,List.map_nil,List.sum_cons,List.sum_nil]
  omega
end
end Go.SX
end
section
namespace Go.Ck
open Go.SX Go.Vl
theorem sum_bulk:∀ l:List Val,(∀ x ∈ l,(sizV x).2≤(bkV x:Int))→sumT (l.map fun v=>(⟨v,0⟩:VPlace))≤((l.map bkV).sum:Nat)
 | [],_=>by simp [sumT]
 | x::r,h=>by
  have h1:=h x (.head _)
  have h2:=sum_bulk r fun y hy=>h y (.tail _ hy)
  rw [List.map_cons,sumT,List.map_cons,List.sum_cons]
  show (sizV x).2 + _≤_
  omega
theorem siz_bulk_n:∀ (n:Nat) (v:Val),SizeOf.sizeOf v < n→(sizV v).2≤(bkV v:Int):=by
 intro n
 induction n with
 | zero=>intro v h; exact absurd h (Nat.not_lt_zero _)
 | succ n ih =>
  intro v h
  have h1:=sum_bulk (partsOf v) fun x hx=>ih x (by have:=parts_sz hx; omega)
  have h2:=fold_sum (partsOf v) (0,1) 0
  have h3:((partsOf v).map bkV).sum≤(v.l.map bkV).sum + (v.e.map bkP).sum:=by
   unfold partsOf
   rw [List.map_append,List.sum_append,List.map_map]
   have:(v.e.map (bkV ∘ (·.2))).sum≤(v.e.map bkP).sum:=by
    generalize v.e = e
    induction e with
    | nil=>exact Nat.le_refl _
    | cons p r ih =>
     rw [List.map_cons,List.sum_cons,List.map_cons,List.sum_cons,bkP_eq]
     simp only [Function.comp]
     omega
   omega
  rw [sizV_eq,bkV_eq]
  simp only at h2 ⊢
  omega
theorem siz_bulk (v:Val):(sizV v).2≤(bkV v:Int):=siz_bulk_n _ v (Nat.lt_succ_self _)
end Go.Ck
end
section
namespace Go.SX
open Go.RowKit Go.WideShapes Go.ChangeShapes Go.Deep
def I64 (n:Int):Prop:=-9223372036854775808≤n∧n≤9223372036854775807
structure STy (P:Program) (T:TypeId) where
 (fs:Array Field) (K S:TypeId)
 hT:P.underlying T = some (.struct fs)
 sz:fs.size = 2
 cT:P.cellsOf T = 2
 h0:HasF fs 0 0 S
 h1:HasF fs 1 1 K
 uK:P.underlying K = some (.int .i64)
 uS:P.underlying S = some .string
 c:P.cellsOf K = 1∧P.cellsOf S = 1
structure OTy (P:Program) (T:TypeId) where
 (fs:Array Field) (K S Q V St:TypeId) (Tv:VTy P V) (S':STy P St)
 hT:P.underlying T = some (.struct fs)
 sz:fs.size = 4
 cT:P.cellsOf T = 9
 h0:HasF fs 0 0 K
 h1:HasF fs 1 1 Q
 h2:HasF fs 2 2 V
 h3:HasF fs 3 8 S
 uK:P.underlying K = some (.int .i64)
 uS:P.underlying S = some .string
 uQ:P.underlying Q = some (.slice St)
 c:P.cellsOf K = 1∧P.cellsOf S = 1∧P.cellsOf Q = 1
section
variable [Globs]
variable {H:Type} {encH:TypeId × Value→H} {P:Program} {W:World} {sp:Nat→Bool} {hd:Bool} {O:Nat→Prop} {bk:DataW H→Nat}
end
end Go.SX
end
section
namespace Go.SX
open Go.RowKit Go.WideShapes Go.ChangeShapes Go.Deep
def bkT (s:Str):Nat:=s.length + 1
section
variable [Globs]
variable {H:Type} {encH:TypeId × Value→H} {P:Program} {W:World} {sp:Nat→Bool} {hd:Bool} {O:Nat→Prop} {bk:DataW H→Nat}
end
end Go.SX
end
section
namespace Go.SX
open Go.RowKit Go.WideShapes Go.ChangeShapes Go.Deep
/-! the bulk of a type -/
mutual
def bkY:TypR→Nat
 | ⟨_,_,_,tx,t,f,n⟩=>(tx.map bkT).sum + bkYL t + bkYF f + n.length + 1
def bkYL:List TypR→Nat
 | []=>0
 | x::r=>bkY x + bkYL r
def bkYF:List (FldP TypR)→Nat
 | []=>0
 | x::r=>bkYP x + bkYF r
def bkYP:FldP TypR→Nat
 | ⟨n,_,_,t,d⟩=>n.length + bkY t + bkV d + 1
end
theorem bkYL_sum (l:List TypR):bkYL l = (l.map bkY).sum:=by
 induction l with
 | nil=>rfl
 | cons x r ih=>rw [bkYL,List.map_cons,List.sum_cons,ih]
theorem bkYF_sum (l:List (FldP TypR)):bkYF l = (l.map bkYP).sum:=by
 induction l with
 | nil=>rfl
 | cons x r ih=>rw [bkYF,List.map_cons,List.sum_cons,ih]
theorem bkY_eq (t:TypR):bkY t = (t.texts.map bkT).sum + (t.t.map bkY).sum + (t.f.map bkYP).sum + t.name.length + 1:=by
 cases t
 rw [bkY,bkYL_sum,bkYF_sum]
theorem bkYP_eq (f:FldP TypR):bkYP f = f.name.length + bkY f.t + bkV f.dflt + 1:=by
 cases f
 rw [bkYP]
def bkD (d:DefR):Nat:=d.name.length + bkY d.t + 1
def bkC (s:SchemaR):Nat:=(s.defs.map bkD).sum + bkY s.root + 1
inductive YB:TypR→Prop
 | mk (t:TypR):(I64 t.kind∧I64 t.lo∧I64 t.hi)→(∀ f ∈ t.f,VB f.dflt)→(∀ x ∈ t.t,YB x)→(∀ f ∈ t.f,YB f.t)→YB t
structure TTy (P:Program) (T:TypeId) where
 (fs gs:Array Field) (K N S B Q L F Fd V:TypeId) (Tv:VTy P V)
 hT:P.underlying T = some (.struct fs)
 cT:P.cellsOf T = 7
 h0:HasF fs 0 0 K
 h1:HasF fs 1 1 N
 h2:HasF fs 2 2 N
 h3:HasF fs 3 3 Q
 h4:HasF fs 4 4 L
 h5:HasF fs 5 5 F
 h6:HasF fs 6 6 S
 uK:P.underlying K = some (.int .i64)
 uN:P.underlying N = some (.int .i64)
 uS:P.underlying S = some .string
 uB:P.underlying B = some .bool
 uQ:P.underlying Q = some (.slice S)
 uL:P.underlying L = some (.slice T)
 uF:P.underlying F = some (.slice Fd)
 c:P.cellsOf K = 1∧P.cellsOf N = 1∧P.cellsOf S = 1∧P.cellsOf B = 1∧P.cellsOf Q = 1∧P.cellsOf L = 1∧P.cellsOf F = 1
 hF:P.underlying Fd = some (.struct gs)
 cF:P.cellsOf Fd = 16
 g0:HasF gs 0 0 S
 g1:HasF gs 1 1 B
 g2:HasF gs 2 2 B
 g3:HasF gs 3 3 T
 g4:HasF gs 4 10 V
structure CTy (P:Program) (C:TypeId) where
 (fs gs:Array Field) (T D De S:TypeId) (Y:TTy P T)
 hC:P.underlying C = some (.struct fs)
 cC:P.cellsOf C = 8
 h0:HasF fs 0 0 D
 h1:HasF fs 1 1 T
 uD:P.underlying D = some (.slice De)
 uS:P.underlying S = some .string
 c:P.cellsOf D = 1∧P.cellsOf S = 1
 hD:P.underlying De = some (.struct gs)
 cD:P.cellsOf De = 8
 g0:HasF gs 0 0 S
 g1:HasF gs 1 1 T
section
variable [Globs]
variable {H:Type} {encH:TypeId × Value→H} {P:Program} {W:World} {sp:Nat→Bool} {hd:Bool} {O:Nat→Prop} {bk:DataW H→Nat}
theorem arg_typS {T:TypeId} (hbk:BulkS bk) (Y:TTy P T) (hs:Y.fs.size = 7) (hs2:Y.gs.size = 5) (hv:Y.Tv.fs.size = 6) (hv2:Y.Tv.gs.size = 2) (hO:∀ k,¬ O k):∀ (fuel:Nat) (cs:List Value) (x:DataW H × List MemPlace),DataW.trod encH P W 0 sp hd fuel T cs = some x→∃ y:TypR,All2 (Im O W) (encTyp y) cs∧bkY y≤bk x.1∧YB y:=by
 intro fuel
 induction fuel using Nat.strongRecOn with
 | _ fuel ih =>
 intro cs x h
 obtain ⟨n,ds,rfl,hl,hag,hds,hf⟩:=one_fieldS Y.hT h
 rw [Y.cT] at hl
 rw [hs] at hds
 obtain ⟨c0,c1,c2,c3,c4,c5,c6⟩:=Y.c
 match cs,hl,ds,hds with
 | [u0,u1,u2,u3,u4,u5,u6],_,[d0,d1,d2,d3,d4,d5,d6],_ =>
  obtain ⟨y0,q0,k0⟩:=hf 0 0 _ Y.h0
  obtain ⟨y1,q1,k1⟩:=hf 1 1 _ Y.h1
  obtain ⟨y2,q2,k2⟩:=hf 2 2 _ Y.h2
  obtain ⟨y3,q3,k3⟩:=hf 3 3 _ Y.h3
  obtain ⟨y4,q4,k4⟩:=hf 4 4 _ Y.h4
  obtain ⟨y5,q5,k5⟩:=hf 5 5 _ Y.h5
  obtain ⟨y6,q6,k6⟩:=hf 6 6 _ Y.h6
  simp only [List.getElem?_cons_zero,List.getElem?_cons_succ,Option.some.injEq] at k0 k1 k2 k3 k4 k5 k6
  subst k0 k1 k2 k3 k4 k5 k6
  rw [c0] at q0
  rw [c1] at q1 q2
  rw [c4] at q3
  rw [c5] at q4
  rw [c6] at q5
  rw [c2] at q6
  obtain ⟨k,e0,i0,w0⟩:=arg_int (O:=O) Y.uK q0
  obtain ⟨lo,e1,i1,w1⟩:=arg_int (O:=O) Y.uN q1
  obtain ⟨hi,e2,i2,w2⟩:=arg_int (O:=O) Y.uN q2
  obtain ⟨tx,vx,e3,i3,z3,_⟩:=arg_sliceS (O:=O) (τ:=.str) (m:=bkT) (R:=fun _=>True) hbk hO Y.uQ c2 (fun n' hn cs' x' hx=>by
   obtain ⟨ks,kv,d0,j0,zz⟩:=arg_strS (O:=O) hbk Y.uS hx
   subst d0
   exact ⟨ks,All2.cons j0 (All2.nil _),zz,trivial⟩) q3
  obtain ⟨l,vl,e4,i4,z4,r4⟩:=arg_sliceS (O:=O) (τ:=.typ) (m:=bkY) (R:=YB) hbk hO Y.uL Y.cT (fun n' hn cs' x' hx=>ih n' (by omega) cs' x' hx) q4
  obtain ⟨fl,vf,e5,i5,z5,r5⟩:=arg_sliceS (O:=O) (τ:=.fld) (m:=bkYP) (R:=fun f=>VB f.dflt∧YB f.t) hbk hO Y.uF Y.cF (fun n' hn cs' x' hx=>by
   obtain ⟨n2,ds2,rfl,hl2,hag2,hds2,hf2⟩:=one_fieldS Y.hF hx
   rw [Y.cF] at hl2
   rw [hs2] at hds2
   match cs',hl2,ds2,hds2 with
   | [z0,z1,z2,z3,z4,z5,z6,z7,z8,z9,z10,z11,z12,z13,z14,z15],_,[g0,g1,g2,g3,g4],_ =>
    obtain ⟨_,p0,m0⟩:=hf2 0 0 _ Y.g0
    obtain ⟨_,p1,m1⟩:=hf2 1 1 _ Y.g1
    obtain ⟨_,p2,m2⟩:=hf2 2 2 _ Y.g2
    obtain ⟨_,p3,m3⟩:=hf2 3 3 _ Y.g3
    obtain ⟨_,p4,m4⟩:=hf2 4 10 _ Y.g4
    simp only [List.getElem?_cons_zero,List.getElem?_cons_succ,Option.some.injEq] at m0 m1 m2 m3 m4
    subst m0 m1 m2 m3 m4
    rw [c2] at p0
    rw [c3] at p1 p2
    rw [Y.cT] at p3
    rw [Y.Tv.cV] at p4
    obtain ⟨ks,kv,d0,j0,lk⟩:=arg_strS (O:=O) hbk Y.uS p0
    obtain ⟨b1,d1,j1⟩:=arg_bool (O:=O) Y.uB p1
    obtain ⟨b2,d2,j2⟩:=arg_bool (O:=O) Y.uB p2
    obtain ⟨y,j3,hyb,hy⟩:=ih n2 (by omega) _ _ p3
    obtain ⟨v,j4,hvb,hv⟩:=arg_valS (O:=O) hbk Y.Tv hv hv2 hO _ _ _ p4
    simp at d0 d1 d2
    subst d0 d1 d2
    have j3:All2 (Im O W) (encTyp y) [z3,z4,z5,z6,z7,z8,z9]:=by simpa using j3
    have j4:All2 (Im O W) (encVal v) [z10,z11,z12,z13,z14,z15]:=by simpa using j4
    refine ⟨⟨ks,b1,b2,y,v⟩,All2.cons j0 (All2.cons j1 (All2.cons j2 (j3.append j4))),?_,hv,hy⟩
    rw [hag2]
    refine Nat.le_trans ?_ (hbk.ag _)
    rw [bkYP_eq]
    simp only [List.map_cons,List.map_nil,List.sum_cons,List.sum_nil]
    omega) q5
  obtain ⟨nm,vn,e6,i6,z6⟩:=arg_strS (O:=O) hbk Y.uS q6
  simp at e0 e1 e2 e3 e4 e5 e6
  subst e0 e1 e2 e3 e4 e5 e6
  refine ⟨⟨k,lo,hi,tx,l,fl,nm⟩,All2.cons i0 (All2.cons i1 (All2.cons i2 (All2.cons i3 (All2.cons i4 (All2.cons i5 (All2.cons i6 (All2.nil _))))))),?_,.mk _ ⟨wf_i64 w0,wf_i64 w1,wf_i64 w2⟩ (fun f hf=>(r5 f hf).1) r4 fun f hf=>(r5 f hf).2⟩
  have h9:=hbk.ag [y0.1,y1.1,y2.1,y3.1,y4.1,y5.1,y6.1]
  have p0:=hbk.pos y0.1
  rw [hag]
  refine Nat.le_trans ?_ h9
  rw [bkY_eq]
  simp only [List.map_cons,List.map_nil,List.sum_cons,List.sum_nil]
  omega
theorem arg_schS {C : TypeId} (hbk : BulkS bk) (S : CTy P C) (h1 : S.fs.size = 2) (h2 : S.gs.size = 2) (hs : S.Y.fs.size = 7) (hs2 : S.Y.gs.size = 5) (hv : S.Y.Tv.fs.size = 6) (hv2 : S.Y.Tv.gs.size = 2) (hO : ∀ k, ¬ O k) {fuel : Nat} {cs : List Value} {x : DataW H × List MemPlace} (h : DataW.trod encH P W 0 sp hd fuel C cs = some x) :
  ∃ y:SchemaR,All2 (Im O W) (.rd .dfn y.defs::encTyp y.root) cs∧bkC y≤bk x.1∧(∀ d ∈ y.defs,YB d.t)∧YB y.root:=by
 obtain ⟨n,ds,rfl,hl,hag,hds,hf⟩:=one_fieldS S.hC h
 rw [S.cC] at hl
 rw [h1] at hds
 obtain ⟨c0,c1⟩:=S.c
 match cs,hl,ds,hds with
 | [u0,u1,u2,u3,u4,u5,u6,u7],_,[d0,d1],_ =>
  obtain ⟨y0,q0,k0⟩:=hf 0 0 _ S.h0
  obtain ⟨y1,q1,k1⟩:=hf 1 1 _ S.h1
  simp only [List.getElem?_cons_zero,List.getElem?_cons_succ,Option.some.injEq] at k0 k1
  subst k0 k1
  rw [c0] at q0
  rw [S.Y.cT] at q1
  obtain ⟨l,vl,e0,i0,z0,r0⟩:=arg_sliceS (O:=O) (τ:=.dfn) (m:=bkD) (R:=fun d=>YB d.t) hbk hO S.uD S.cD (fun n' hn cs' x' hx=>by
   obtain ⟨n2,ds2,rfl,hl2,hag2,hds2,hf2⟩:=one_fieldS S.hD hx
   rw [S.cD] at hl2
   rw [h2] at hds2
   match cs',hl2,ds2,hds2 with
   | [z0,z1,z2,z3,z4,z5,z6,z7],_,[g0,g1],_ =>
    obtain ⟨_,p0,m0⟩:=hf2 0 0 _ S.g0
    obtain ⟨_,p1,m1⟩:=hf2 1 1 _ S.g1
    simp only [List.getElem?_cons_zero,List.getElem?_cons_succ,Option.some.injEq] at m0 m1
    subst m0 m1
    rw [c1] at p0
    rw [S.Y.cT] at p1
    obtain ⟨ks,kv,d0,j0,lk⟩:=arg_strS (O:=O) hbk S.uS p0
    obtain ⟨y,j1,hyb,hy⟩:=arg_typS (O:=O) hbk S.Y hs hs2 hv hv2 hO _ _ _ p1
    simp at d0
    subst d0
    have j1:All2 (Im O W) (encTyp y) [z1,z2,z3,z4,z5,z6,z7]:=by simpa using j1
    refine ⟨⟨ks,y⟩,All2.cons j0 j1,?_,hy⟩
    rw [hag2]
    refine Nat.le_trans ?_ (hbk.ag _)
    simp only [bkD,List.map_cons,List.map_nil,List.sum_cons,List.sum_nil]
    omega) q0
  obtain ⟨y,j1,hyb,hy⟩:=arg_typS (O:=O) hbk S.Y hs hs2 hv hv2 hO _ _ _ q1
  simp at e0
  subst e0
  have j1:All2 (Im O W) (encTyp y) [u1,u2,u3,u4,u5,u6,u7]:=by simpa using j1
  refine ⟨⟨l,y⟩,All2.cons i0 j1,?_,r0,hy⟩
  have h9:=hbk.ag [y0.1,y1.1]
  rw [hag]
  refine Nat.le_trans ?_ h9
  simp only [bkC,List.map_cons,List.map_nil,List.sum_cons,List.sum_nil]
  omega
end
/-! what bulk bounds -/
theorem bkT_pos (s:Str):1≤bkT s:=Nat.le_add_left ..
theorem bkY_pos (t:TypR):1≤bkY t:=by rw [bkY_eq]; omega
theorem bkYP_pos (f:FldP TypR):1≤bkYP f:=by rw [bkYP_eq]; omega
theorem bkD_pos (d:DefR):1≤bkD d:=Nat.le_add_left ..
theorem bkY_len (t:TypR):t.texts.length + t.t.length + t.f.length + t.name.length < bkY t:=by
 have h1:=sum_len (m:=bkT) bkT_pos t.texts
 have h2:=sum_len (m:=bkY) bkY_pos t.t
 have h3:=sum_len (m:=bkYP) bkYP_pos t.f
 rw [bkY_eq]
 omega
theorem bkY_t {t x:TypR} (h:x ∈ t.t):bkY x < bkY t:=by
 have:=sum_mem (m:=bkY) h
 rw [bkY_eq t]
 omega
theorem bkY_f {t:TypR} {f:FldP TypR} (h:f ∈ t.f):bkY f.t + bkV f.dflt + f.name.length < bkY t:=by
 have:=sum_mem (m:=bkYP) h
 rw [bkYP_eq] at this
 rw [bkY_eq t]
 omega
theorem bkC_len (s:SchemaR):s.defs.length < bkC s:=by
 have:=sum_len (m:=bkD) bkD_pos s.defs
 unfold bkC
 omega
theorem bkC_def {s:SchemaR} {d:DefR} (h:d ∈ s.defs):bkY d.t + d.name.length < bkC s:=by
 have:=sum_mem (m:=bkD) h
 have e:bkD d = d.name.length + bkY d.t + 1:=rfl
 rw [e] at this
 unfold bkC
 omega
theorem bkC_root (s:SchemaR):bkY s.root < bkC s:=by
 unfold bkC
 omega
end Go.SX
end
section
namespace Go.Proofs.YtdcdmojbkmedpaaDoor
open Go Go.SX Go.Ck Go.Vl Go.Ut Go.Ty
theorem vn_bulk {n:Nat}:∀ (k:Nat) (v:Val),SizeOf.sizeOf v < k→bkV v≤n→VN n v:=by
 intro k
 induction k with
 | zero=>intro v h; exact absurd h (Nat.not_lt_zero _)
 | succ k ih =>
  intro v h hb
  have hl:=bkV_len v
  refine .mk v (by omega) (by omega) (fun x hx=>ih x ?_ ?_) (fun p hp=>ih p.2 ?_ ?_)
  ·have h1:=List.sizeOf_lt_of_mem hx
   obtain ⟨a,b,c,d,e,f⟩:=v
   simp only at h1
   simp only [Val.mk.sizeOf_spec] at h
   omega
  ·have:=bkV_mem hx
   omega
  ·have h1:=List.sizeOf_lt_of_mem hp
   obtain ⟨a,b,c,d,e,f⟩:=v
   obtain ⟨q,w⟩:=p
   simp only [Prod.mk.sizeOf_spec] at h1
   simp only [Val.mk.sizeOf_spec] at h
   show SizeOf.sizeOf w < k
   omega
  ·have:=bkV_ent hp
   omega
theorem tb_bulk:∀ (k:Nat) (t:TypR),SizeOf.sizeOf t < k→YB t→bkY t≤1048576→TB t∧DN t:=by
 intro k
 induction k with
 | zero=>intro t h; exact absurd h (Nat.not_lt_zero _)
 | succ k ih =>
  intro t h hy hb
  have hl:=bkY_len t
  have hin:∀ x ∈ Ty.inside t,TB x∧DN x:=fun x hx=>by
   refine ih x (by have:=size_inside hx; omega) ?_ ?_
   ·cases hy with
    | mk _ _ _ h1 h2 =>
     rcases List.mem_append.1 hx with hx | hx
     ·exact h1 x hx
     ·obtain ⟨f,hf,rfl⟩:=List.mem_map.1 hx
      exact h2 f hf
   ·rcases List.mem_append.1 hx with hx | hx
    ·have:=bkY_t hx
     omega
    ·obtain ⟨f,hf,rfl⟩:=List.mem_map.1 hx
     have:=bkY_f hf
     omega
  cases hy with
  | mk _ h1 h2 _ _ =>
   refine ⟨.mk t h1.1 h1.2.1 h1.2.2 ⟨by omega,by omega,by omega⟩ (fun f hf=>⟨h2 f hf,?_⟩) (fun x hx=>(hin x (List.mem_append_left _ hx)).1) (fun f hf=>(hin f.t (List.mem_append_right _ (List.mem_map.2 ⟨f,hf,rfl⟩))).1),.mk t (fun f hf=>vn_bulk _ f.dflt (Nat.lt_succ_self _) ?_) fun x hx=>(hin x hx).2⟩
   ·have:=siz_bulk f.dflt
    have:=bkY_f hf
    omega
   ·have:=bkY_f hf
    omega
theorem tb_of {t:TypR} (h:YB t) (hb:bkY t≤1048576):TB t∧DN t:=tb_bulk _ t (Nat.lt_succ_self _) h hb
theorem tb_defs {s:SchemaR} (h:∀ d ∈ s.defs,YB d.t) (hr:YB s.root) (hb:bkC s≤1048576):(∀ d ∈ s.defs,TB d.t∧DN d.t)∧(TB s.root∧DN s.root)∧s.defs.length≤2000000 :=
 ⟨fun d hd=>tb_of (h d hd) (by have:=bkC_def hd; omega),tb_of hr (by have:=bkC_root s; omega),by have:=bkC_len s; omega⟩
end Go.Proofs.YtdcdmojbkmedpaaDoor
end
