/-
  A part of a proof: plain laws and walks, one after the other. No conditions.
-/
import Derived.Test.YtdcdmojbkmedpaaDoorFt4
set_option linter.constructorNameAsVariable false
set_option linter.unusedVariables false
set_option linter.unusedSimpArgs false
set_option linter.unusedSectionVars false
section
namespace Go.Proofs.YtdcdmojbkmedpaaDoor
open Go Go.SX Go.Ck Go.Vl Go.Ut Go.Ty
set_option maxRecDepth 100000
set_option maxHeartbeats 4000000
def orL (a:Int) (l:List TypR):Int:=l.foldl (fun a t=>bits .or .i64 a (kindsF t.kind)) a
theorem orL_append (a:Int) (l m:List TypR):orL a (l++m) = orL (orL a l) m:=List.foldl_append ..
def appL (a:List TypR):List TypR→List TypR
 | []=>a
 | x::r=>a++(x::r)
theorem appL_eq (a l:List TypR):appL a l = a++l:=by
 cases l with
 | nil=>exact (List.append_nil a).symm
 | cons x r=>rfl
theorem appL_append (a l m:List TypR):appL a (l++m) = appL (appL a l) m:=by rw [appL_eq,appL_eq,appL_eq,List.append_assoc]
theorem appL_len (a l:List TypR):(appL a l).length = a.length + l.length:=by rw [appL_eq,List.length_append]
section
variable [G:Globs]
theorem w_come0 (s:SchemaR) (m:Int) (hl:∀ d ∈ s.defs,CT s.defs d.t∧TB d.t) (k:Nat) (ih:∀ (x:TypR) (fs:Met),CT s.defs x→TB x→need s.defs x fs < k→fs.length + cnt s.defs fs≤1000→CSpecM Tryd.prog 156 [.rp (chkC s m),.agg (encTyp x),.ob 1001 1001 (.mp .str .bool fs),.fn 164 []] [] (.tup []) 2 (.ob 1001 1001 (.mp .str .bool (comeF s.defs k x fs).2)) []) (t:TypR) (es:Met) (ht:CT s.defs t) (hb:TB t) (hk:need s.defs t es < k + 1) (hc:es.length + cnt s.defs es≤1000):vc Tryd.prog Γ 56 [0,2,3,5,9,11,15,21,41,44,45,46,47,1001] (Tryd.f156.body.getD .skip) (postMK Γ [] (.tup []) 2 (.ob 1001 1001 (.mp .str .bool (comeF s.defs (k + 1) t es).2)) []) ⟨argSlots 0 [.rp (chkC s m),.agg (encTyp t),.ob 1001 1001 (.mp .str .bool es),.fn 164 []],[]⟩:=by
 have hF:comeF s.defs (k + 1) t es = if t.kind = 12 then (if met es t.name = true then ([],es) else comeF s.defs k (defT s.defs t.name) (meet es t.name)) else if t.kind = 11 then comeL (comeF s.defs k) t.t es else ([t],es):=rfl
 generalize comeF s.defs (k + 1) t es = R at hF ⊢
 by_cases c1:t.kind = 12
 ·rw [if_pos c1] at hF
  by_cases c2:met es t.name = true
  ·rw [if_pos c2] at hF
   subst hF
   have c2:(mpGet (κ:=.str) (τ:=.bool) es t.name).getD false = true:=c2
   (repeat' (first | (refine aN (fun h=>?_) (fun h=>?_)<;>(try simp [-List.getD_eq_getElem?_getD,-Int.pred_toNat] at h)<;>(try (exfalso; first | omega | contradiction))) | (refine rNG ?_) | (refine bN2 ?_) | (refine bN3 ?_) | (intro _)))
   ·exact absurd (show (mpGet (κ:=.str) (τ:=.bool) es t.name).getD false = false by assumption) (by rw [c2]; decide)
   (repeat' (first | (refine aN (fun h=>?_) (fun h=>?_)<;>(try simp [-List.getD_eq_getElem?_getD,-Int.pred_toNat] at h)<;>(try (exfalso; first | omega | contradiction))) | (refine rNG ?_) | (refine bN2 ?_) | (refine bN3 ?_) | (intro _)))
   exact aN rfl (eX [] (aN rfl (by (repeat' (first | exact trivial | exact Or.inl rfl | exact Or.inr (Or.inl ⟨rfl,_,rfl⟩) | exact Or.inr (Or.inr (Or.inr ⟨_,_,_,rfl,rfl⟩)) | refine aN ?_ ?_)))))
  rw [if_neg c2] at hF
  subst hF
  have h0:0≤defI s.defs t.name:=by cases ht with | mk _ _ h _=>exact h c1
  have hD:=s_defP s m t.name
  have c2:(mpGet (κ:=.str) (τ:=.bool) es t.name).getD false = false:=Bool.eq_false_iff.2 c2
  (repeat' (first | (refine aN (fun h=>?_) (fun h=>?_)<;>(try simp [-List.getD_eq_getElem?_getD,-Int.pred_toNat] at h)<;>(try (exfalso; first | omega | contradiction))) | (refine rNG ?_) | (refine bN2 ?_) | (refine bN3 ?_) | (intro _)))
  refine aN (show es.length < 9223372036854775807 by omega) ?_
  (repeat' (first | (refine aN (fun h=>?_) (fun h=>?_)<;>(try simp [-List.getD_eq_getElem?_getD,-Int.pred_toNat] at h)<;>(try (exfalso; first | omega | contradiction))) | (refine rNG ?_) | (refine bN2 ?_) | (refine bN3 ?_) | (intro _)))
  refine eX [.blk [0,1,2,3,4,5,6,7,8,9,10,11,12,13,14],.one 15] (aN (by kernel_rfl) ?_)
  refine eX _ (aN (hD) ?_)
  obtain ⟨g1,g2⟩:=defI_get h0
  have gg:s.defs.getD (defI s.defs t.name).toNat (dflt .dfn) = s.defs[(defI s.defs t.name).toNat]:=by rw [List.getD_eq_getElem?_getD,List.getElem?_eq_getElem g1]; rfl
  refine aN ⟨h0,by omega⟩ ?_
  (repeat' (first | (refine aN (fun h=>?_) (fun h=>?_)<;>(try simp [-List.getD_eq_getElem?_getD,-Int.pred_toNat] at h)<;>(try (exfalso; first | omega | contradiction))) | (refine rNG ?_) | (refine bN2 ?_) | (refine bN3 ?_) | (intro _)))
  refine Or.inr (Or.inr (Or.inr (Or.inr (Or.inr (eX [] (eX _ (eX _ (eX _ (eX _ (eX _ (eX _ (eX _ (eX [(1001,1001)] (eX [2] (aN ((ih (defT s.defs t.name) (meet es t.name) (CT.defT (fun d hd=>(hl d hd).1) h0) (by obtain ⟨d,hd,_,e⟩:=defT_mem h0; rw [← e]; exact (hl d hd).2) (by have:=need_ref h0 (es:=es) c2; omega) (by have:=cnt_ref h0 (es:=es) c2; omega))) ?_)))))))))))))))
  refine (aN rfl (aN rfl (aN rfl (aN rfl (aN rfl (aN (aN rfl trivial) ?_))))))
  (repeat' (first | (refine aN (fun h=>?_) (fun h=>?_)<;>(try simp [-List.getD_eq_getElem?_getD,-Int.pred_toNat] at h)<;>(try (exfalso; first | omega | contradiction))) | (refine rNG ?_) | (refine bN2 ?_) | (refine bN3 ?_) | (intro _)))
  exact aN rfl (eX [] (aN rfl (by (repeat' (first | exact trivial | exact Or.inl rfl | exact Or.inr (Or.inl ⟨rfl,_,rfl⟩) | exact Or.inr (Or.inr (Or.inr ⟨_,_,_,rfl,rfl⟩)) | refine aN ?_ ?_)))))
 rw [if_neg c1] at hF
 by_cases c3:t.kind = 11
 ·rw [if_pos c3] at hF
  (repeat' (first | (refine aN (fun h=>?_) (fun h=>?_)<;>(try simp [-List.getD_eq_getElem?_getD,-Int.pred_toNat] at h)<;>(try (exfalso; first | omega | contradiction))) | (refine rNG ?_) | (refine bN2 ?_) | (refine bN3 ?_) | (intro _)))
  refine eX [] (eX [] (eX [] (eX (Nat × Met × List TypR) (eX (fun x=>x.1≤t.t.length∧(∀ n,met es n = true→met x.2.1 n = true)∧x.2.1.length + cnt s.defs x.2.1≤1000∧(True)∧R = (x.2.2++(comeL (comeF s.defs k) (t.t.drop x.1) x.2.1).1,(comeL (comeF s.defs k) (t.t.drop x.1) x.2.1).2)) (eX (fun ⟨i,fs,pre⟩=>⟨[(0,.rp (chkC s m)),(2,.ob 1001 1001 (.mp .str .bool fs)),(3,.fn 164 []),(44,.rd .typ t.t),(45,.i .i64 t.t.length),(46,.i .i64 i)],[]⟩) (eX (fun x=>t.t.length - x.1) (eX (0,es,[]) (aN ⟨Nat.zero_le _,fun _ h=>h,hc,trivial,hF⟩ (aN ?_ ?_)))))))))
  ·(repeat' (first | exact trivial | exact Or.inl rfl | exact Or.inr (Or.inl ⟨rfl,_,rfl⟩) | exact Or.inr (Or.inr (Or.inr ⟨_,_,_,rfl,rfl⟩)) | refine aN ?_ ?_))
  rintro ⟨i,fs,pre⟩ ⟨hi,hm,hq,hw2,hI⟩
  dsimp only at hi hm hq hw2 hI
  refine aN (fun hz=>?_) (fun hz=>?_)
  ·have hi:=ltD hz
   have hg:=getI (τ:=.typ) hi
   refine bN2 ?_
   rw [hg]
   have hx:=List.getElem_mem hi
   have hp:=ht.part _ hx
   have hq2:=come_cnt (fun d hd=>(hl d hd).1) k t.t[i] fs hp
   have hm2:∀ n,met es n = true→met (comeF s.defs k t.t[i] fs).2 n = true:=fun n h=>come_met s.defs k _ _ n (hm n h)
   skip
   have hC:=ih t.t[i] fs hp (by cases hb with | mk _ _ _ _ _ _ h _=>exact h _ hx) (by have:=need_part (l:=s.defs) hx hm; omega) hq
   rw [List.drop_eq_getElem_cons hi,comeL,← List.append_assoc] at hI
   have hll:=(by cases hb; omega:t.t.length≤2000000)
   (repeat' (first | (refine aN (fun h=>?_) (fun h=>?_)<;>(try simp [-List.getD_eq_getElem?_getD,-Int.pred_toNat] at h)<;>(try (exfalso; first | omega | contradiction))) | (refine rNG ?_) | (refine bN2 ?_) | (refine bN3 ?_) | (intro _)))
   refine Or.inr (Or.inr (Or.inr (Or.inr (Or.inr (eX [] (eX _ (eX _ (eX _ (eX _ (eX _ (eX _ (eX _ (eX [(1001,1001)] (eX [2] (aN (hC) ?_)))))))))))))))
   refine (aN rfl (aN rfl (aN rfl (aN rfl (aN rfl (aN (aN rfl trivial) ?_))))))
   (repeat' (first | (refine aN (fun h=>?_) (fun h=>?_)<;>(try simp [-List.getD_eq_getElem?_getD,-Int.pred_toNat] at h)<;>(try (exfalso; first | omega | contradiction))) | (refine rNG ?_) | (refine bN2 ?_) | (refine bN3 ?_) | (intro _)))
   refine eX [] (eX (i + 1,(comeF s.defs k t.t[i] fs).2,pre++(comeF s.defs k t.t[i] fs).1) (aN ⟨hi,hm2,by dsimp only; omega,trivial,hI⟩ (aN ?_ ?_)))
   ·(repeat' (first | exact trivial | exact Or.inl rfl | exact Or.inr (Or.inl ⟨rfl,_,rfl⟩) | exact Or.inr (Or.inr (Or.inr ⟨_,_,_,rfl,rfl⟩)) | refine aN ?_ ?_))
   ·(exact Nat.sub_lt_sub_left (by omega) (by omega))
  ·(have hi:=geD hi hz)
   rw [List.drop_eq_nil_of_le (by omega)] at hI
   have hI:R = (pre++[],fs):=hI
   rw [List.append_nil] at hI
   subst hI
   (repeat' (first | (refine aN (fun h=>?_) (fun h=>?_)<;>(try simp [-List.getD_eq_getElem?_getD,-Int.pred_toNat] at h)<;>(try (exfalso; first | omega | contradiction))) | (refine rNG ?_) | (refine bN2 ?_) | (refine bN3 ?_) | (intro _)))
   exact aN rfl (eX [] (aN rfl (by (repeat' (first | exact trivial | exact Or.inl rfl | exact Or.inr (Or.inl ⟨rfl,_,rfl⟩) | exact Or.inr (Or.inr (Or.inr ⟨_,_,_,rfl,rfl⟩)) | refine aN ?_ ?_)))))
 rw [if_neg c3] at hF
 subst hF
 (repeat' (first | (refine aN (fun h=>?_) (fun h=>?_)<;>(try simp [-List.getD_eq_getElem?_getD,-Int.pred_toNat] at h)<;>(try (exfalso; first | omega | contradiction))) | (refine rNG ?_) | (refine bN2 ?_) | (refine bN3 ?_) | (intro _)))
 refine Or.inr (Or.inl (eX [] (eX _ (eX _ (eX _ (eX _ (eX _ (eX [] (aN (s_part0 t) ?_)))))))))
 refine (aN rfl (aN rfl (aN rfl (aN rfl ?_))))
 (repeat' (first | (refine aN (fun h=>?_) (fun h=>?_)<;>(try simp [-List.getD_eq_getElem?_getD,-Int.pred_toNat] at h)<;>(try (exfalso; first | omega | contradiction))) | (refine rNG ?_) | (refine bN2 ?_) | (refine bN3 ?_) | (intro _)))
 exact aN rfl (eX [] (aN rfl (by (repeat' (first | exact trivial | exact Or.inl rfl | exact Or.inr (Or.inl ⟨rfl,_,rfl⟩) | exact Or.inr (Or.inr (Or.inr ⟨_,_,_,rfl,rfl⟩)) | refine aN ?_ ?_)))))
theorem s_come0 (s:SchemaR) (m:Int) (hl:∀ d ∈ s.defs,CT s.defs d.t∧TB d.t) (k:Nat) (ih:∀ (x:TypR) (fs:Met),CT s.defs x→TB x→need s.defs x fs < k→fs.length + cnt s.defs fs≤1000→CSpecM Tryd.prog 156 [.rp (chkC s m),.agg (encTyp x),.ob 1001 1001 (.mp .str .bool fs),.fn 164 []] [] (.tup []) 2 (.ob 1001 1001 (.mp .str .bool (comeF s.defs k x fs).2)) []) (t:TypR) (es:Met) (ht:CT s.defs t) (hb:TB t) (hk:need s.defs t es < k + 1) (hc:es.length + cnt s.defs es≤1000):CSpecM Tryd.prog 156 [.rp (chkC s m),.agg (encTyp t),.ob 1001 1001 (.mp .str .bool es),.fn 164 []] [] (.tup []) 2 (.ob 1001 1001 (.mp .str .bool (comeF s.defs (k + 1) t es).2)) [] :=
 cspecM_of_vc Γ_good Tryd.func156 rfl Tryd.call156 Tryd.results156 Tryd.ntmps156 (Nat.le_of_ble_eq_true rfl) (Nat.le_of_ble_eq_true rfl) (by rfl) (Nat.lt_of_lt_of_le (Nat.lt_succ_self _) (Nat.le_of_ble_eq_true rfl)) (by kernel_rfl) (w_come0 s m hl k ih t es ht hb hk hc)
theorem w_come1 (s:SchemaR) (m:Int) (hl:∀ d ∈ s.defs,CT s.defs d.t∧TB d.t) (k:Nat) (ih:∀ (x:TypR) (fs:Met) (a:Int),CT s.defs x→TB x→need s.defs x fs < k→fs.length + cnt s.defs fs≤1000→CSpecM Tryd.prog 156 [.rp (chkC s m),.agg (encTyp x),.ob 1001 1001 (.mp .str .bool fs),.fn 212 [.pt 1000 0]] [(1000,[.i .i64 a])] (.tup []) 2 (.ob 1001 1001 (.mp .str .bool (comeF s.defs k x fs).2)) [(1000,[.i .i64 (orL a (comeF s.defs k x fs).1)])]) (t:TypR) (es:Met) (a:Int) (ht:CT s.defs t) (hb:TB t) (hk:need s.defs t es < k + 1) (hc:es.length + cnt s.defs es≤1000):vc Tryd.prog Γ 56 [0,2,3,5,9,11,15,21,41,44,45,46,47,1000,1001] (Tryd.f156.body.getD .skip) (postMK Γ [] (.tup []) 2 (.ob 1001 1001 (.mp .str .bool (comeF s.defs (k + 1) t es).2)) [(1000,[.i .i64 (orL a (comeF s.defs (k + 1) t es).1)])]) ⟨argSlots 0 [.rp (chkC s m),.agg (encTyp t),.ob 1001 1001 (.mp .str .bool es),.fn 212 [.pt 1000 0]],[(1000,[.i .i64 a])]⟩:=by
 have hF:comeF s.defs (k + 1) t es = if t.kind = 12 then (if met es t.name = true then ([],es) else comeF s.defs k (defT s.defs t.name) (meet es t.name)) else if t.kind = 11 then comeL (comeF s.defs k) t.t es else ([t],es):=rfl
 generalize comeF s.defs (k + 1) t es = R at hF ⊢
 by_cases c1:t.kind = 12
 ·rw [if_pos c1] at hF
  by_cases c2:met es t.name = true
  ·rw [if_pos c2] at hF
   subst hF
   have c2:(mpGet (κ:=.str) (τ:=.bool) es t.name).getD false = true:=c2
   (repeat' (first | (refine aN (fun h=>?_) (fun h=>?_)<;>(try simp [-List.getD_eq_getElem?_getD,-Int.pred_toNat] at h)<;>(try (exfalso; first | omega | contradiction))) | (refine rNG ?_) | (refine bN2 ?_) | (refine bN3 ?_) | (intro _)))
   ·exact absurd (show (mpGet (κ:=.str) (τ:=.bool) es t.name).getD false = false by assumption) (by rw [c2]; decide)
   (repeat' (first | (refine aN (fun h=>?_) (fun h=>?_)<;>(try simp [-List.getD_eq_getElem?_getD,-Int.pred_toNat] at h)<;>(try (exfalso; first | omega | contradiction))) | (refine rNG ?_) | (refine bN2 ?_) | (refine bN3 ?_) | (intro _)))
   exact aN rfl (eX [] (aN rfl (by (repeat' (first | exact trivial | exact Or.inl rfl | exact Or.inr (Or.inl ⟨rfl,_,rfl⟩) | exact Or.inr (Or.inr (Or.inr ⟨_,_,_,rfl,rfl⟩)) | refine aN ?_ ?_)))))
  rw [if_neg c2] at hF
  subst hF
  have h0:0≤defI s.defs t.name:=by cases ht with | mk _ _ h _=>exact h c1
  have hD:=s_defP s m t.name
  have c2:(mpGet (κ:=.str) (τ:=.bool) es t.name).getD false = false:=Bool.eq_false_iff.2 c2
  (repeat' (first | (refine aN (fun h=>?_) (fun h=>?_)<;>(try simp [-List.getD_eq_getElem?_getD,-Int.pred_toNat] at h)<;>(try (exfalso; first | omega | contradiction))) | (refine rNG ?_) | (refine bN2 ?_) | (refine bN3 ?_) | (intro _)))
  refine aN (show es.length < 9223372036854775807 by omega) ?_
  (repeat' (first | (refine aN (fun h=>?_) (fun h=>?_)<;>(try simp [-List.getD_eq_getElem?_getD,-Int.pred_toNat] at h)<;>(try (exfalso; first | omega | contradiction))) | (refine rNG ?_) | (refine bN2 ?_) | (refine bN3 ?_) | (intro _)))
  refine eX [.blk [0,1,2,3,4,5,6,7,8,9,10,11,12,13,14],.one 15] (aN (by kernel_rfl) ?_)
  refine eX _ (aN (hD) ?_)
  obtain ⟨g1,g2⟩:=defI_get h0
  have gg:s.defs.getD (defI s.defs t.name).toNat (dflt .dfn) = s.defs[(defI s.defs t.name).toNat]:=by rw [List.getD_eq_getElem?_getD,List.getElem?_eq_getElem g1]; rfl
  refine aN ⟨h0,by omega⟩ ?_
  (repeat' (first | (refine aN (fun h=>?_) (fun h=>?_)<;>(try simp [-List.getD_eq_getElem?_getD,-Int.pred_toNat] at h)<;>(try (exfalso; first | omega | contradiction))) | (refine rNG ?_) | (refine bN2 ?_) | (refine bN3 ?_) | (intro _)))
  refine Or.inr (Or.inr (Or.inr (Or.inr (Or.inr (eX [] (eX _ (eX _ (eX _ (eX _ (eX _ (eX _ (eX _ (eX [(1001,1001),(1000,1000)] (eX [2] (aN ((ih (defT s.defs t.name) (meet es t.name) a (CT.defT (fun d hd=>(hl d hd).1) h0) (by obtain ⟨d,hd,_,e⟩:=defT_mem h0; rw [← e]; exact (hl d hd).2) (by have:=need_ref h0 (es:=es) c2; omega) (by have:=cnt_ref h0 (es:=es) c2; omega))) ?_)))))))))))))))
  refine (aN rfl (aN rfl (aN rfl (aN rfl (aN rfl (aN rfl (aN (aN rfl trivial) ?_)))))))
  (repeat' (first | (refine aN (fun h=>?_) (fun h=>?_)<;>(try simp [-List.getD_eq_getElem?_getD,-Int.pred_toNat] at h)<;>(try (exfalso; first | omega | contradiction))) | (refine rNG ?_) | (refine bN2 ?_) | (refine bN3 ?_) | (intro _)))
  exact aN rfl (eX [] (aN rfl (by (repeat' (first | exact trivial | exact Or.inl rfl | exact Or.inr (Or.inl ⟨rfl,_,rfl⟩) | exact Or.inr (Or.inr (Or.inr ⟨_,_,_,rfl,rfl⟩)) | refine aN ?_ ?_)))))
 rw [if_neg c1] at hF
 by_cases c3:t.kind = 11
 ·rw [if_pos c3] at hF
  (repeat' (first | (refine aN (fun h=>?_) (fun h=>?_)<;>(try simp [-List.getD_eq_getElem?_getD,-Int.pred_toNat] at h)<;>(try (exfalso; first | omega | contradiction))) | (refine rNG ?_) | (refine bN2 ?_) | (refine bN3 ?_) | (intro _)))
  refine eX [] (eX [] (eX [] (eX (Nat × Met × List TypR) (eX (fun x=>x.1≤t.t.length∧(∀ n,met es n = true→met x.2.1 n = true)∧x.2.1.length + cnt s.defs x.2.1≤1000∧(True)∧R = (x.2.2++(comeL (comeF s.defs k) (t.t.drop x.1) x.2.1).1,(comeL (comeF s.defs k) (t.t.drop x.1) x.2.1).2)) (eX (fun ⟨i,fs,pre⟩=>⟨[(0,.rp (chkC s m)),(2,.ob 1001 1001 (.mp .str .bool fs)),(3,.fn 212 [.pt 1000 0]),(44,.rd .typ t.t),(45,.i .i64 t.t.length),(46,.i .i64 i)],[(1000,[.i .i64 (orL a pre)])]⟩) (eX (fun x=>t.t.length - x.1) (eX (0,es,[]) (aN ⟨Nat.zero_le _,fun _ h=>h,hc,trivial,hF⟩ (aN ?_ ?_)))))))))
  ·(repeat' (first | exact trivial | exact Or.inl rfl | exact Or.inr (Or.inl ⟨rfl,_,rfl⟩) | exact Or.inr (Or.inr (Or.inr ⟨_,_,_,rfl,rfl⟩)) | refine aN ?_ ?_))
  rintro ⟨i,fs,pre⟩ ⟨hi,hm,hq,hw2,hI⟩
  dsimp only at hi hm hq hw2 hI
  refine aN (fun hz=>?_) (fun hz=>?_)
  ·have hi:=ltD hz
   have hg:=getI (τ:=.typ) hi
   refine bN2 ?_
   rw [hg]
   have hx:=List.getElem_mem hi
   have hp:=ht.part _ hx
   have hq2:=come_cnt (fun d hd=>(hl d hd).1) k t.t[i] fs hp
   have hm2:∀ n,met es n = true→met (comeF s.defs k t.t[i] fs).2 n = true:=fun n h=>come_met s.defs k _ _ n (hm n h)
   skip
   have hC:=ih t.t[i] fs (orL a pre) hp (by cases hb with | mk _ _ _ _ _ _ h _=>exact h _ hx) (by have:=need_part (l:=s.defs) hx hm; omega) hq
   rw [List.drop_eq_getElem_cons hi,comeL,← List.append_assoc] at hI
   have hll:=(by cases hb; omega:t.t.length≤2000000)
   (repeat' (first | (refine aN (fun h=>?_) (fun h=>?_)<;>(try simp [-List.getD_eq_getElem?_getD,-Int.pred_toNat] at h)<;>(try (exfalso; first | omega | contradiction))) | (refine rNG ?_) | (refine bN2 ?_) | (refine bN3 ?_) | (intro _)))
   refine Or.inr (Or.inr (Or.inr (Or.inr (Or.inr (eX [] (eX _ (eX _ (eX _ (eX _ (eX _ (eX _ (eX _ (eX [(1001,1001),(1000,1000)] (eX [2] (aN (hC) ?_)))))))))))))))
   refine (aN rfl (aN rfl (aN rfl (aN rfl (aN rfl (aN rfl (aN (aN rfl trivial) ?_)))))))
   (repeat' (first | (refine aN (fun h=>?_) (fun h=>?_)<;>(try simp [-List.getD_eq_getElem?_getD,-Int.pred_toNat] at h)<;>(try (exfalso; first | omega | contradiction))) | (refine rNG ?_) | (refine bN2 ?_) | (refine bN3 ?_) | (intro _)))
   refine eX [] (eX (i + 1,(comeF s.defs k t.t[i] fs).2,pre++(comeF s.defs k t.t[i] fs).1) (aN ⟨hi,hm2,by dsimp only; omega,trivial,hI⟩ (aN ?_ ?_)))
   ·(repeat' (first | exact trivial | exact Or.inl rfl | exact Or.inl (congrArg (AV.i .i64) (orL_append ..).symm) | refine aN ?_ ?_))
   ·(exact Nat.sub_lt_sub_left (by omega) (by omega))
  ·(have hi:=geD hi hz)
   rw [List.drop_eq_nil_of_le (by omega)] at hI
   have hI:R = (pre++[],fs):=hI
   rw [List.append_nil] at hI
   subst hI
   (repeat' (first | (refine aN (fun h=>?_) (fun h=>?_)<;>(try simp [-List.getD_eq_getElem?_getD,-Int.pred_toNat] at h)<;>(try (exfalso; first | omega | contradiction))) | (refine rNG ?_) | (refine bN2 ?_) | (refine bN3 ?_) | (intro _)))
   exact aN rfl (eX [] (aN rfl (by (repeat' (first | exact trivial | exact Or.inl rfl | exact Or.inr (Or.inl ⟨rfl,_,rfl⟩) | exact Or.inr (Or.inr (Or.inr ⟨_,_,_,rfl,rfl⟩)) | refine aN ?_ ?_)))))
 rw [if_neg c3] at hF
 subst hF
 (repeat' (first | (refine aN (fun h=>?_) (fun h=>?_)<;>(try simp [-List.getD_eq_getElem?_getD,-Int.pred_toNat] at h)<;>(try (exfalso; first | omega | contradiction))) | (refine rNG ?_) | (refine bN2 ?_) | (refine bN3 ?_) | (intro _)))
 refine Or.inr (Or.inl (eX [] (eX _ (eX _ (eX _ (eX _ (eX _ (eX [(1000,1000)] (aN (s_part1 t (by cases ht with | mk _ h _ _=>exact h.1) (by cases ht with | mk _ h _ _=>omega) a) ?_)))))))))
 refine (aN rfl (aN rfl (aN rfl (aN rfl (aN rfl ?_)))))
 (repeat' (first | (refine aN (fun h=>?_) (fun h=>?_)<;>(try simp [-List.getD_eq_getElem?_getD,-Int.pred_toNat] at h)<;>(try (exfalso; first | omega | contradiction))) | (refine rNG ?_) | (refine bN2 ?_) | (refine bN3 ?_) | (intro _)))
 exact aN rfl (eX [] (aN rfl (by (repeat' (first | exact trivial | exact Or.inl rfl | exact Or.inr (Or.inl ⟨rfl,_,rfl⟩) | exact Or.inr (Or.inr (Or.inr ⟨_,_,_,rfl,rfl⟩)) | refine aN ?_ ?_)))))
theorem s_come1 (s:SchemaR) (m:Int) (hl:∀ d ∈ s.defs,CT s.defs d.t∧TB d.t) (k:Nat) (ih:∀ (x:TypR) (fs:Met) (a:Int),CT s.defs x→TB x→need s.defs x fs < k→fs.length + cnt s.defs fs≤1000→CSpecM Tryd.prog 156 [.rp (chkC s m),.agg (encTyp x),.ob 1001 1001 (.mp .str .bool fs),.fn 212 [.pt 1000 0]] [(1000,[.i .i64 a])] (.tup []) 2 (.ob 1001 1001 (.mp .str .bool (comeF s.defs k x fs).2)) [(1000,[.i .i64 (orL a (comeF s.defs k x fs).1)])]) (t:TypR) (es:Met) (a:Int) (ht:CT s.defs t) (hb:TB t) (hk:need s.defs t es < k + 1) (hc:es.length + cnt s.defs es≤1000):CSpecM Tryd.prog 156 [.rp (chkC s m),.agg (encTyp t),.ob 1001 1001 (.mp .str .bool es),.fn 212 [.pt 1000 0]] [(1000,[.i .i64 a])] (.tup []) 2 (.ob 1001 1001 (.mp .str .bool (comeF s.defs (k + 1) t es).2)) [(1000,[.i .i64 (orL a (comeF s.defs (k + 1) t es).1)])] :=
 cspecM_of_vc Γ_good Tryd.func156 rfl Tryd.call156 Tryd.results156 Tryd.ntmps156 (Nat.le_of_ble_eq_true rfl) (Nat.le_of_ble_eq_true rfl) (by rfl) (Nat.lt_of_lt_of_le (Nat.lt_succ_self _) (Nat.le_of_ble_eq_true rfl)) (by kernel_rfl) (w_come1 s m hl k ih t es a ht hb hk hc)
theorem w_come2 (s:SchemaR) (m:Int) (hl:∀ d ∈ s.defs,CT s.defs d.t∧TB d.t) (k:Nat) (ih:∀ (x:TypR) (fs:Met) (a:List TypR),CT s.defs x→TB x→need s.defs x fs < k→fs.length + cnt s.defs fs≤1000→a.length + tyN x + restN s.defs fs≤100000→CSpecM Tryd.prog 156 [.rp (chkC s m),.agg (encTyp x),.ob 1001 1001 (.mp .str .bool fs),.fn 157 [.pt 1000 0]] [(1000,[.vec 1002 .typ a])] (.tup []) 2 (.ob 1001 1001 (.mp .str .bool (comeF s.defs k x fs).2)) [(1000,[.vec 1002 .typ (appL a (comeF s.defs k x fs).1)])]) (t:TypR) (es:Met) (a:List TypR) (ht:CT s.defs t) (hb:TB t) (hk:need s.defs t es < k + 1) (hc:es.length + cnt s.defs es≤1000) (hw:a.length + tyN t + restN s.defs es≤100000):vc Tryd.prog Γ 56 [0,2,3,5,9,11,15,21,41,44,45,46,47,1000,1001,1002] (Tryd.f156.body.getD .skip) (postMK Γ [] (.tup []) 2 (.ob 1001 1001 (.mp .str .bool (comeF s.defs (k + 1) t es).2)) [(1000,[.vec 1002 .typ (appL a (comeF s.defs (k + 1) t es).1)])]) ⟨argSlots 0 [.rp (chkC s m),.agg (encTyp t),.ob 1001 1001 (.mp .str .bool es),.fn 157 [.pt 1000 0]],[(1000,[.vec 1002 .typ a])]⟩:=by
 have hF:comeF s.defs (k + 1) t es = if t.kind = 12 then (if met es t.name = true then ([],es) else comeF s.defs k (defT s.defs t.name) (meet es t.name)) else if t.kind = 11 then comeL (comeF s.defs k) t.t es else ([t],es):=rfl
 generalize comeF s.defs (k + 1) t es = R at hF ⊢
 by_cases c1:t.kind = 12
 ·rw [if_pos c1] at hF
  by_cases c2:met es t.name = true
  ·rw [if_pos c2] at hF
   subst hF
   have c2:(mpGet (κ:=.str) (τ:=.bool) es t.name).getD false = true:=c2
   (repeat' (first | (refine aN (fun h=>?_) (fun h=>?_)<;>(try simp [-List.getD_eq_getElem?_getD,-Int.pred_toNat] at h)<;>(try (exfalso; first | omega | contradiction))) | (refine rNG ?_) | (refine bN2 ?_) | (refine bN3 ?_) | (intro _)))
   ·exact absurd (show (mpGet (κ:=.str) (τ:=.bool) es t.name).getD false = false by assumption) (by rw [c2]; decide)
   (repeat' (first | (refine aN (fun h=>?_) (fun h=>?_)<;>(try simp [-List.getD_eq_getElem?_getD,-Int.pred_toNat] at h)<;>(try (exfalso; first | omega | contradiction))) | (refine rNG ?_) | (refine bN2 ?_) | (refine bN3 ?_) | (intro _)))
   exact aN rfl (eX [] (aN rfl (by (repeat' (first | exact trivial | exact Or.inl rfl | exact Or.inr (Or.inl ⟨rfl,_,rfl⟩) | exact Or.inr (Or.inr (Or.inr ⟨_,_,_,rfl,rfl⟩)) | refine aN ?_ ?_)))))
  rw [if_neg c2] at hF
  subst hF
  have h0:0≤defI s.defs t.name:=by cases ht with | mk _ _ h _=>exact h c1
  have hD:=s_defP s m t.name
  have c2:(mpGet (κ:=.str) (τ:=.bool) es t.name).getD false = false:=Bool.eq_false_iff.2 c2
  (repeat' (first | (refine aN (fun h=>?_) (fun h=>?_)<;>(try simp [-List.getD_eq_getElem?_getD,-Int.pred_toNat] at h)<;>(try (exfalso; first | omega | contradiction))) | (refine rNG ?_) | (refine bN2 ?_) | (refine bN3 ?_) | (intro _)))
  refine aN (show es.length < 9223372036854775807 by omega) ?_
  (repeat' (first | (refine aN (fun h=>?_) (fun h=>?_)<;>(try simp [-List.getD_eq_getElem?_getD,-Int.pred_toNat] at h)<;>(try (exfalso; first | omega | contradiction))) | (refine rNG ?_) | (refine bN2 ?_) | (refine bN3 ?_) | (intro _)))
  refine eX [.blk [0,1,2,3,4,5,6,7,8,9,10,11,12,13,14],.one 15] (aN (by kernel_rfl) ?_)
  refine eX _ (aN (hD) ?_)
  obtain ⟨g1,g2⟩:=defI_get h0
  have gg:s.defs.getD (defI s.defs t.name).toNat (dflt .dfn) = s.defs[(defI s.defs t.name).toNat]:=by rw [List.getD_eq_getElem?_getD,List.getElem?_eq_getElem g1]; rfl
  refine aN ⟨h0,by omega⟩ ?_
  (repeat' (first | (refine aN (fun h=>?_) (fun h=>?_)<;>(try simp [-List.getD_eq_getElem?_getD,-Int.pred_toNat] at h)<;>(try (exfalso; first | omega | contradiction))) | (refine rNG ?_) | (refine bN2 ?_) | (refine bN3 ?_) | (intro _)))
  refine Or.inr (Or.inr (Or.inr (Or.inr (Or.inr (eX [] (eX _ (eX _ (eX _ (eX _ (eX _ (eX _ (eX _ (eX [(1001,1001),(1000,1000),(1002,1002)] (eX [2] (aN ((ih (defT s.defs t.name) (meet es t.name) a (CT.defT (fun d hd=>(hl d hd).1) h0) (by obtain ⟨d,hd,_,e⟩:=defT_mem h0; rw [← e]; exact (hl d hd).2) (by have:=need_ref h0 (es:=es) c2; omega) (by have:=cnt_ref h0 (es:=es) c2; omega) (by have:=restN_ref h0 (es:=es) c2; have:=sumN_part t; omega))) ?_)))))))))))))))
  refine (aN rfl (aN rfl (aN rfl (aN rfl (aN rfl (aN rfl (aN (aN rfl trivial) ?_)))))))
  (repeat' (first | (refine aN (fun h=>?_) (fun h=>?_)<;>(try simp [-List.getD_eq_getElem?_getD,-Int.pred_toNat] at h)<;>(try (exfalso; first | omega | contradiction))) | (refine rNG ?_) | (refine bN2 ?_) | (refine bN3 ?_) | (intro _)))
  exact aN rfl (eX [] (aN rfl (by (repeat' (first | exact trivial | exact Or.inl rfl | exact Or.inr (Or.inl ⟨rfl,_,rfl⟩) | exact Or.inr (Or.inr (Or.inr ⟨_,_,_,rfl,rfl⟩)) | refine aN ?_ ?_)))))
 rw [if_neg c1] at hF
 by_cases c3:t.kind = 11
 ·rw [if_pos c3] at hF
  (repeat' (first | (refine aN (fun h=>?_) (fun h=>?_)<;>(try simp [-List.getD_eq_getElem?_getD,-Int.pred_toNat] at h)<;>(try (exfalso; first | omega | contradiction))) | (refine rNG ?_) | (refine bN2 ?_) | (refine bN3 ?_) | (intro _)))
  refine eX [] (eX [] (eX [] (eX (Nat × Met × List TypR) (eX (fun x=>x.1≤t.t.length∧(∀ n,met es n = true→met x.2.1 n = true)∧x.2.1.length + cnt s.defs x.2.1≤1000∧(a.length + x.2.2.length + sumN (t.t.drop x.1) + restN s.defs x.2.1≤100000)∧R = (x.2.2++(comeL (comeF s.defs k) (t.t.drop x.1) x.2.1).1,(comeL (comeF s.defs k) (t.t.drop x.1) x.2.1).2)) (eX (fun ⟨i,fs,pre⟩=>⟨[(0,.rp (chkC s m)),(2,.ob 1001 1001 (.mp .str .bool fs)),(3,.fn 157 [.pt 1000 0]),(44,.rd .typ t.t),(45,.i .i64 t.t.length),(46,.i .i64 i)],[(1000,[.vec 1002 .typ (appL a pre)])]⟩) (eX (fun x=>t.t.length - x.1) (eX (0,es,[]) (aN ⟨Nat.zero_le _,fun _ h=>h,hc,(by have:=sumN_part t; show a.length + 0 + sumN t.t + restN s.defs es≤100000; omega),hF⟩ (aN ?_ ?_)))))))))
  ·(repeat' (first | exact trivial | exact Or.inl rfl | exact Or.inr (Or.inl ⟨rfl,_,rfl⟩) | exact Or.inr (Or.inr (Or.inr ⟨_,_,_,rfl,rfl⟩)) | refine aN ?_ ?_))
  rintro ⟨i,fs,pre⟩ ⟨hi,hm,hq,hw2,hI⟩
  dsimp only at hi hm hq hw2 hI
  refine aN (fun hz=>?_) (fun hz=>?_)
  ·have hi:=ltD hz
   have hg:=getI (τ:=.typ) hi
   refine bN2 ?_
   rw [hg]
   have hx:=List.getElem_mem hi
   have hp:=ht.part _ hx
   have hq2:=come_cnt (fun d hd=>(hl d hd).1) k t.t[i] fs hp
   have hm2:∀ n,met es n = true→met (comeF s.defs k t.t[i] fs).2 n = true:=fun n h=>come_met s.defs k _ _ n (hm n h)
   rw [List.drop_eq_getElem_cons hi,sumN_cons] at hw2
   have hw3:=come_wt (fun d hd=>(hl d hd).1) k t.t[i] fs hp
   have hC:=ih t.t[i] fs (appL a pre) hp (by cases hb with | mk _ _ _ _ _ _ h _=>exact h _ hx) (by have:=need_part (l:=s.defs) hx hm; omega) hq (by rw [appL_len]; omega)
   rw [List.drop_eq_getElem_cons hi,comeL,← List.append_assoc] at hI
   have hll:=(by cases hb; omega:t.t.length≤2000000)
   (repeat' (first | (refine aN (fun h=>?_) (fun h=>?_)<;>(try simp [-List.getD_eq_getElem?_getD,-Int.pred_toNat] at h)<;>(try (exfalso; first | omega | contradiction))) | (refine rNG ?_) | (refine bN2 ?_) | (refine bN3 ?_) | (intro _)))
   refine Or.inr (Or.inr (Or.inr (Or.inr (Or.inr (eX [] (eX _ (eX _ (eX _ (eX _ (eX _ (eX _ (eX _ (eX [(1001,1001),(1000,1000),(1002,1002)] (eX [2] (aN (hC) ?_)))))))))))))))
   refine (aN rfl (aN rfl (aN rfl (aN rfl (aN rfl (aN rfl (aN (aN rfl trivial) ?_)))))))
   (repeat' (first | (refine aN (fun h=>?_) (fun h=>?_)<;>(try simp [-List.getD_eq_getElem?_getD,-Int.pred_toNat] at h)<;>(try (exfalso; first | omega | contradiction))) | (refine rNG ?_) | (refine bN2 ?_) | (refine bN3 ?_) | (intro _)))
   refine eX [] (eX (i + 1,(comeF s.defs k t.t[i] fs).2,pre++(comeF s.defs k t.t[i] fs).1) (aN ⟨hi,hm2,by dsimp only; omega,by dsimp only; rw [List.length_append]; omega,hI⟩ (aN ?_ ?_)))
   ·(repeat' (first | exact trivial | exact Or.inl rfl | exact Or.inl (congrArg (AV.vec 1002 .typ) (appL_append ..).symm) | refine aN ?_ ?_))
   ·(exact Nat.sub_lt_sub_left (by omega) (by omega))
  ·(have hi:=geD hi hz)
   rw [List.drop_eq_nil_of_le (by omega)] at hI
   have hI:R = (pre++[],fs):=hI
   rw [List.append_nil] at hI
   subst hI
   (repeat' (first | (refine aN (fun h=>?_) (fun h=>?_)<;>(try simp [-List.getD_eq_getElem?_getD,-Int.pred_toNat] at h)<;>(try (exfalso; first | omega | contradiction))) | (refine rNG ?_) | (refine bN2 ?_) | (refine bN3 ?_) | (intro _)))
   exact aN rfl (eX [] (aN rfl (by (repeat' (first | exact trivial | exact Or.inl rfl | exact Or.inr (Or.inl ⟨rfl,_,rfl⟩) | exact Or.inr (Or.inr (Or.inr ⟨_,_,_,rfl,rfl⟩)) | refine aN ?_ ?_)))))
 rw [if_neg c3] at hF
 subst hF
 (repeat' (first | (refine aN (fun h=>?_) (fun h=>?_)<;>(try simp [-List.getD_eq_getElem?_getD,-Int.pred_toNat] at h)<;>(try (exfalso; first | omega | contradiction))) | (refine rNG ?_) | (refine bN2 ?_) | (refine bN3 ?_) | (intro _)))
 refine Or.inr (Or.inl (eX [] (eX _ (eX _ (eX _ (eX _ (eX _ (eX [(1000,1000),(1001,1002)] (aN (s_part2 t a (by omega)) ?_)))))))))
 refine (aN rfl (aN rfl (aN rfl (aN rfl (aN rfl ?_)))))
 (repeat' (first | (refine aN (fun h=>?_) (fun h=>?_)<;>(try simp [-List.getD_eq_getElem?_getD,-Int.pred_toNat] at h)<;>(try (exfalso; first | omega | contradiction))) | (refine rNG ?_) | (refine bN2 ?_) | (refine bN3 ?_) | (intro _)))
 exact aN rfl (eX [] (aN rfl (by (repeat' (first | exact trivial | exact Or.inl rfl | exact Or.inr (Or.inl ⟨rfl,_,rfl⟩) | exact Or.inr (Or.inr (Or.inr ⟨_,_,_,rfl,rfl⟩)) | refine aN ?_ ?_)))))
theorem s_come2 (s:SchemaR) (m:Int) (hl:∀ d ∈ s.defs,CT s.defs d.t∧TB d.t) (k:Nat) (ih:∀ (x:TypR) (fs:Met) (a:List TypR),CT s.defs x→TB x→need s.defs x fs < k→fs.length + cnt s.defs fs≤1000→a.length + tyN x + restN s.defs fs≤100000→CSpecM Tryd.prog 156 [.rp (chkC s m),.agg (encTyp x),.ob 1001 1001 (.mp .str .bool fs),.fn 157 [.pt 1000 0]] [(1000,[.vec 1002 .typ a])] (.tup []) 2 (.ob 1001 1001 (.mp .str .bool (comeF s.defs k x fs).2)) [(1000,[.vec 1002 .typ (appL a (comeF s.defs k x fs).1)])]) (t:TypR) (es:Met) (a:List TypR) (ht:CT s.defs t) (hb:TB t) (hk:need s.defs t es < k + 1) (hc:es.length + cnt s.defs es≤1000) (hw:a.length + tyN t + restN s.defs es≤100000):CSpecM Tryd.prog 156 [.rp (chkC s m),.agg (encTyp t),.ob 1001 1001 (.mp .str .bool es),.fn 157 [.pt 1000 0]] [(1000,[.vec 1002 .typ a])] (.tup []) 2 (.ob 1001 1001 (.mp .str .bool (comeF s.defs (k + 1) t es).2)) [(1000,[.vec 1002 .typ (appL a (comeF s.defs (k + 1) t es).1)])] :=
 cspecM_of_vc Γ_good Tryd.func156 rfl Tryd.call156 Tryd.results156 Tryd.ntmps156 (Nat.le_of_ble_eq_true rfl) (Nat.le_of_ble_eq_true rfl) (by rfl) (Nat.lt_of_lt_of_le (Nat.lt_succ_self _) (Nat.le_of_ble_eq_true rfl)) (by kernel_rfl) (w_come2 s m hl k ih t es a ht hb hk hc hw)
end
end Go.Proofs.YtdcdmojbkmedpaaDoor
end
section
namespace Go.Proofs.YtdcdmojbkmedpaaDoor
open Go Go.SX Go.Ck Go.Vl Go.Ut Go.Ty
set_option maxRecDepth 100000
set_option maxHeartbeats 4000000
noncomputable def comeA (l:List DefR) (t:TypR):List TypR × Met:=comeF l (need l t [] + 1) t []
structure SB (s:SchemaR):Prop where
 defs:∀ d ∈ s.defs,CT s.defs d.t∧TB d.t
 root:CT s.defs s.root∧TB s.root
 many:s.defs.length≤1000
 types:restN s.defs [] + tyN s.root≤50000
theorem rest_all (w:DefR→Nat):∀ l:List DefR,rest w l [] = (l.map w).sum
 | []=>rfl
 | d::r=>by
  unfold rest
  rw [rest_all w r,List.map_cons,List.sum_cons,if_neg (by intro h; cases h)]
theorem cnt_all (l:List DefR):Ty.cnt l [] = l.length:=by
 unfold Ty.cnt
 rw [rest_all]
 induction l with
 | nil=>rfl
 | cons d r ih=>rw [List.map_cons,List.sum_cons,ih,List.length_cons]; omega
section
variable [G:Globs]
theorem come0 {s:SchemaR} (hs:SB s) (m:Int):∀ (k:Nat) (t:TypR) (es:Met),CT s.defs t→TB t→need s.defs t es < k→es.length + Ty.cnt s.defs es≤1000→CSpecM Tryd.prog 156 [.rp (chkC s m),.agg (encTyp t),.ob 1001 1001 (.mp .str .bool es),.fn 164 []] [] (.tup []) 2 (.ob 1001 1001 (.mp .str .bool (comeF s.defs k t es).2)) []:=by
 intro k
 induction k with
 | zero=>intro t es _ _ h; exact absurd h (Nat.not_lt_zero _)
 | succ k ih=>exact fun t es h1 h2 h3 h4=>s_come0 s m hs.defs k ih t es h1 h2 h3 h4
theorem come1 {s:SchemaR} (hs:SB s) (m:Int):∀ (k:Nat) (t:TypR) (es:Met) (a:Int),CT s.defs t→TB t→need s.defs t es < k→es.length + Ty.cnt s.defs es≤1000→CSpecM Tryd.prog 156 [.rp (chkC s m),.agg (encTyp t),.ob 1001 1001 (.mp .str .bool es),.fn 212 [.pt 1000 0]] [(1000,[.i .i64 a])] (.tup []) 2 (.ob 1001 1001 (.mp .str .bool (comeF s.defs k t es).2)) [(1000,[.i .i64 (orL a (comeF s.defs k t es).1)])]:=by
 intro k
 induction k with
 | zero=>intro t es a _ _ h; exact absurd h (Nat.not_lt_zero _)
 | succ k ih=>exact fun t es a h1 h2 h3 h4=>s_come1 s m hs.defs k ih t es a h1 h2 h3 h4
theorem come2 {s:SchemaR} (hs:SB s) (m:Int):∀ (k:Nat) (t:TypR) (es:Met) (a:List TypR),CT s.defs t→TB t→need s.defs t es < k→es.length + Ty.cnt s.defs es≤1000→a.length + tyN t + restN s.defs es≤100000→CSpecM Tryd.prog 156 [.rp (chkC s m),.agg (encTyp t),.ob 1001 1001 (.mp .str .bool es),.fn 157 [.pt 1000 0]] [(1000,[.vec 1002 .typ a])] (.tup []) 2 (.ob 1001 1001 (.mp .str .bool (comeF s.defs k t es).2)) [(1000,[.vec 1002 .typ (appL a (comeF s.defs k t es).1)])]:=by
 intro k
 induction k with
 | zero=>intro t es a _ _ h; exact absurd h (Nat.not_lt_zero _)
 | succ k ih=>exact fun t es a h1 h2 h3 h4 h5=>s_come2 s m hs.defs k ih t es a h1 h2 h3 h4 h5
theorem w_circle (s:SchemaR) (hs:SB s) (m:Int) (d:DefR) (h1:CT s.defs d.t) (h2:TB d.t):vc Tryd.prog Γ 16 [0,3,4,5] (Tryd.f98.body.getD .skip) (postK Γ [.tmp 4] (fun v=>v = .b (met (comeA s.defs d.t).2 d.name))) ⟨argSlots 0 [.rp (chkC s m),.agg (enc .dfn d)],[]⟩:=by
 have hC:=come0 hs m (need s.defs d.t [] + 1) d.t [] h1 h2 (Nat.lt_succ_self _) (by have:=hs.many; rw [cnt_all]; show 0 + _≤_; omega)
 (repeat' (first | (refine aN (fun h=>?_) (fun h=>?_)<;>(try simp [-List.getD_eq_getElem?_getD,-Int.pred_toNat] at h)<;>(try (exfalso; first | omega | contradiction))) | (refine rNG ?_) | (refine bN2 ?_) | (refine bN3 ?_) | (intro _)))
 refine Or.inr (Or.inr (Or.inr (Or.inr (Or.inr (eX [] (eX _ (eX _ (eX _ (eX _ (eX _ (eX _ (eX _ (eX [(1001,6)] (eX [5] (aN (hC) ?_)))))))))))))))
 refine (aN rfl (aN rfl (aN rfl (aN rfl (aN rfl (aN (aN rfl trivial) ?_))))))
 (repeat' (first | (refine aN (fun h=>?_) (fun h=>?_)<;>(try simp [-List.getD_eq_getElem?_getD,-Int.pred_toNat] at h)<;>(try (exfalso; first | omega | contradiction))) | (refine rNG ?_) | (refine bN2 ?_) | (refine bN3 ?_) | (intro _)))
 rfl
theorem s_circle (s:SchemaR) (hs:SB s) (m:Int) (d:DefR) (h1:CT s.defs d.t) (h2:TB d.t):PSpec Tryd.prog 98 [.rp (chkC s m),.agg (enc .dfn d)] (.b (met (comeA s.defs d.t).2 d.name)) :=
 pspec_of_vc Γ_good Tryd.func98 rfl Tryd.call98 Tryd.results98 Tryd.ntmps98 (Nat.le_of_ble_eq_true rfl) (w_circle s hs m d h1 h2)
theorem w_told (s:SchemaR) (hs:SB s) (m:Int) (t:TypR) (h1:CT s.defs t) (h2:TB t):vc Tryd.prog Γ 12 [0,3,4,5] (Tryd.f165.body.getD .skip) (postK Γ [.tmp 4] (fun v=>v = .i .i64 (orL 0 (comeA s.defs t).1))) ⟨argSlots 0 [.rp (chkC s m),.agg (encTyp t)],[]⟩:=by
 have hC:=come1 hs m (need s.defs t [] + 1) t [] 0 h1 h2 (Nat.lt_succ_self _) (by have:=hs.many; rw [cnt_all]; show 0 + _≤_; omega)
 (repeat' (first | (refine aN (fun h=>?_) (fun h=>?_)<;>(try simp [-List.getD_eq_getElem?_getD,-Int.pred_toNat] at h)<;>(try (exfalso; first | omega | contradiction))) | (refine rNG ?_) | (refine bN2 ?_) | (refine bN3 ?_) | (intro _)))
 refine Or.inr (Or.inr (Or.inr (Or.inr (Or.inr (eX [] (eX _ (eX _ (eX _ (eX _ (eX _ (eX _ (eX _ (eX [(1001,8),(1000,5)] (eX [] (aN (hC) ?_)))))))))))))))
 refine (aN rfl (aN rfl (aN rfl (aN rfl (aN rfl (aN rfl (aN trivial ?_)))))))
 (repeat' (first | (refine aN (fun h=>?_) (fun h=>?_)<;>(try simp [-List.getD_eq_getElem?_getD,-Int.pred_toNat] at h)<;>(try (exfalso; first | omega | contradiction))) | (refine rNG ?_) | (refine bN2 ?_) | (refine bN3 ?_) | (intro _)))
 rfl
theorem s_told (s:SchemaR) (hs:SB s) (m:Int) (t:TypR) (h1:CT s.defs t) (h2:TB t):PSpec Tryd.prog 165 [.rp (chkC s m),.agg (encTyp t)] (.i .i64 (orL 0 (comeA s.defs t).1)) :=
 pspec_of_vc Γ_good Tryd.func165 rfl Tryd.call165 Tryd.results165 Tryd.ntmps165 (Nat.le_of_ble_eq_true rfl) (w_told s hs m t h1 h2)
theorem w_tparts (s:SchemaR) (hs:SB s) (m:Int) (t:TypR) (h1:CT s.defs t) (h2:TB t) (h3:tyN t + restN s.defs []≤100000):vc Tryd.prog Γ 12 [0,3,4,5] (Tryd.f91.body.getD .skip) (postK Γ [.tmp 4] (fun v=>v = .rd .typ (comeA s.defs t).1)) ⟨argSlots 0 [.rp (chkC s m),.agg (encTyp t)],[]⟩:=by
 have hC:=come2 hs m (need s.defs t [] + 1) t [] [] h1 h2 (Nat.lt_succ_self _) (by have:=hs.many; rw [cnt_all]; show 0 + _≤_; omega) (by show 0 + _ + _≤_; omega)
 (repeat' (first | (refine aN (fun h=>?_) (fun h=>?_)<;>(try simp [-List.getD_eq_getElem?_getD,-Int.pred_toNat] at h)<;>(try (exfalso; first | omega | contradiction))) | (refine rNG ?_) | (refine bN2 ?_) | (refine bN3 ?_) | (intro _)))
 refine Or.inr (Or.inr (Or.inr (Or.inr (Or.inr (eX [(5,0,11,.typ)] (eX _ (eX _ (eX _ (eX _ (eX _ (eX _ (eX _ (eX [(1001,8),(1000,5),(1002,11)] (eX [] (aN (hC) ?_)))))))))))))))
 refine (aN rfl (aN rfl (aN rfl (aN rfl (aN rfl (aN rfl (aN trivial ?_)))))))
 (repeat' (first | (refine aN (fun h=>?_) (fun h=>?_)<;>(try simp [-List.getD_eq_getElem?_getD,-Int.pred_toNat] at h)<;>(try (exfalso; first | omega | contradiction))) | (refine rNG ?_) | (refine bN2 ?_) | (refine bN3 ?_) | (intro _)))
 rw [appL_eq,List.nil_append]
 rfl
theorem s_tparts (s:SchemaR) (hs:SB s) (m:Int) (t:TypR) (h1:CT s.defs t) (h2:TB t) (h3:tyN t + restN s.defs []≤100000):PSpec Tryd.prog 91 [.rp (chkC s m),.agg (encTyp t)] (.rd .typ (comeA s.defs t).1) :=
 pspec_of_vc Γ_good Tryd.func91 rfl Tryd.call91 Tryd.results91 Tryd.ntmps91 (Nat.le_of_ble_eq_true rfl) (w_tparts s hs m t h1 h2 h3)
noncomputable def clF (l:List DefR):Int→List TypR→Int
 | _,[]=>0
 | a,x::r=>if bits .and .i64 a (orL 0 (comeA l x).1)≠0 then 13 else clF l (bits .or .i64 a (orL 0 (comeA l x).1)) r
noncomputable def clashF (l:List DefR) (t:TypR):Int:=if t.kind = 11 then clF l 0 t.t else 0
theorem w_clash (s:SchemaR) (hs:SB s) (m:Int) (t:TypR) (h1:CT s.defs t) (h2:TB t) (a:Int):vc Tryd.prog Γ 32 [0,4,6,7,9,12,14,15,16,17,25] (Tryd.f99.body.getD .skip) (postK Γ [.tmp 6] (fun v=>v = .i .i64 (clashF s.defs t))) ⟨argSlots 0 [.rp (chkC s m),.agg (encTyp t),.i .i64 a],[]⟩:=by
 unfold clashF
 by_cases c1:t.kind = 11
 rotate_left
 ·rw [if_neg c1]
  (repeat' (first | (refine aN (fun h=>?_) (fun h=>?_)<;>(try simp [-List.getD_eq_getElem?_getD,-Int.pred_toNat] at h)<;>(try (exfalso; first | omega | contradiction))) | (refine rNG ?_) | (refine bN2 ?_) | (refine bN3 ?_) | (intro _)))
  rfl
 rw [if_pos c1]
 have hA:clF s.defs 0 t.t = clF s.defs 0 (t.t.drop 0):=rfl
 generalize clF s.defs 0 t.t = R at hA ⊢
 (repeat' (first | (refine aN (fun h=>?_) (fun h=>?_)<;>(try simp [-List.getD_eq_getElem?_getD,-Int.pred_toNat] at h)<;>(try (exfalso; first | omega | contradiction))) | (refine rNG ?_) | (refine bN2 ?_) | (refine bN3 ?_) | (intro _)))
 refine eX [] (eX [] (eX [] (eX (Nat × Int) (eX (fun x=>x.1≤t.t.length∧R = clF s.defs x.2 (t.t.drop x.1)) (eX (fun ⟨i,b⟩=>⟨[(0,.rp (chkC s m)),(7,.i .i64 b),(14,.rd .typ t.t),(15,.i .i64 t.t.length),(16,.i .i64 i)],[]⟩) (eX (fun x=>t.t.length - x.1) (eX (0,0) (aN ⟨Nat.zero_le _,hA⟩ (aN ?_ ?_)))))))))
 ·(repeat' (first | exact trivial | exact Or.inl rfl | exact Or.inr (Or.inl ⟨rfl,_,rfl⟩) | exact Or.inr (Or.inr (Or.inr ⟨_,_,_,rfl,rfl⟩)) | refine aN ?_ ?_))
 rintro ⟨i,b⟩ ⟨hi,hI⟩
 dsimp only at hi hI
 refine aN (fun hz=>?_) (fun hz=>?_)
 ·have hi:=ltD hz
  have hg:=getI (τ:=.typ) hi
  refine bN2 ?_
  rw [hg]
  have hx:=List.getElem_mem hi
  have hC:=s_told s hs m t.t[i] (h1.part _ hx) (by cases h2 with | mk _ _ _ _ _ _ h _=>exact h _ hx)
  have hll:=(by cases h2; omega:t.t.length≤2000000)
  rw [List.drop_eq_getElem_cons hi,clF] at hI
  generalize orL 0 (comeA s.defs t.t[i]).1 = q at hI hC
  (repeat' (first | (refine aN (fun h=>?_) (fun h=>?_)<;>(try simp [-List.getD_eq_getElem?_getD,-Int.pred_toNat] at h)<;>(try (exfalso; first | omega | contradiction))) | (refine rNG ?_) | (refine bN2 ?_) | (refine bN3 ?_) | (intro _)))
  refine Or.inl (eX _ (aN (hC) ?_))
  (repeat' (first | (refine aN (fun h=>?_) (fun h=>?_)<;>(try simp [-List.getD_eq_getElem?_getD,-Int.pred_toNat] at h)<;>(try (exfalso; first | omega | contradiction))) | (refine rNG ?_) | (refine bN2 ?_) | (refine bN3 ?_) | (intro _)))
  ·rw [if_pos (by assumption)] at hI
   rw [hI]
   rfl
  rw [if_neg (by simpa using ‹bits .and .i64 b q = 0›)] at hI
  (repeat' (first | (refine aN (fun h=>?_) (fun h=>?_)<;>(try simp [-List.getD_eq_getElem?_getD,-Int.pred_toNat] at h)<;>(try (exfalso; first | omega | contradiction))) | (refine rNG ?_) | (refine bN2 ?_) | (refine bN3 ?_) | (intro _)))
  refine Or.inl (eX _ (aN (hC) ?_))
  (repeat' (first | (refine aN (fun h=>?_) (fun h=>?_)<;>(try simp [-List.getD_eq_getElem?_getD,-Int.pred_toNat] at h)<;>(try (exfalso; first | omega | contradiction))) | (refine rNG ?_) | (refine bN2 ?_) | (refine bN3 ?_) | (intro _)))
  refine eX [] (eX (i + 1,bits .or .i64 b q) (aN ⟨hi,hI⟩ (aN ?_ ?_)))
  ·(repeat' (first | exact trivial | exact Or.inl rfl | exact Or.inr (Or.inl ⟨rfl,_,rfl⟩) | exact Or.inr (Or.inr (Or.inr ⟨_,_,_,rfl,rfl⟩)) | refine aN ?_ ?_))
  ·(exact Nat.sub_lt_sub_left (by omega) (by omega))
 ·(have hi:=geD hi hz)
  rw [List.drop_eq_nil_of_le (by omega)] at hI
  rw [hI]
  rfl
theorem s_clash (s:SchemaR) (hs:SB s) (m:Int) (t:TypR) (h1:CT s.defs t) (h2:TB t) (a:Int):PSpec Tryd.prog 99 [.rp (chkC s m),.agg (encTyp t),.i .i64 a] (.i .i64 (clashF s.defs t)) :=
 pspec_of_vc Γ_good Tryd.func99 rfl Tryd.call99 Tryd.results99 Tryd.ntmps99 (Nat.le_of_ble_eq_true rfl) (w_clash s hs m t h1 h2 a)
end
end Go.Proofs.YtdcdmojbkmedpaaDoor
end
section
namespace Go.Proofs.YtdcdmojbkmedpaaDoor
open Go Go.SX Go.Ck Go.Vl Go.Ut Go.Ty
set_option maxRecDepth 100000
set_option maxHeartbeats 4000000
noncomputable def clsF (l:List DefR):List TPlace→Int
 | []=>0
 | p::r=>if clashF l p.t≠0 then clashF l p.t else clsF l r
theorem clsF_append (l:List DefR) (a b:List TPlace):clsF l (a++b) = if clsF l a≠0 then clsF l a else clsF l b:=by
 induction a with
 | nil=>exact (if_neg (fun h=>h rfl)).symm
 | cons p r ih =>
  rw [List.cons_append,clsF,clsF]
  by_cases h:clashF l p.t≠0
  ·rw [if_pos h,if_pos h,if_pos h]
  ·rw [if_neg h,if_neg h,ih]
theorem clsF_drop (l:List DefR) (f:TypR→List TPlace) {L:List TypR} {i:Nat} (h:i < L.length):clsF l ((L.drop i).flatMap f) = if clsF l (f L[i])≠0 then clsF l (f L[i]) else clsF l ((L.drop (i + 1)).flatMap f):=by
 rw [List.drop_eq_getElem_cons h,List.flatMap_cons,clsF_append]
theorem clsF_dropD (l:List DefR) (f:DefR→List TPlace) (z:List TPlace) {L:List DefR} {i:Nat} (h:i < L.length):clsF l ((L.drop i).flatMap f++z) = if clsF l (f L[i])≠0 then clsF l (f L[i]) else clsF l ((L.drop (i + 1)).flatMap f++z):=by
 rw [List.drop_eq_getElem_cons h,List.flatMap_cons,List.append_assoc,clsF_append]
def Low (l:List TPlace):Prop:=∀ p ∈ l,p.around < 20
theorem Low.part {t x:TypR} {a:Int} (h:Low (preT t a)) (hx:x ∈ Ty.inside t):Low (preT x (a + 1)):=fun p hp=>h p (by
 rw [preT_eq]
 exact List.mem_cons_of_mem _ (List.mem_flatMap.2 ⟨x,hx,hp⟩))
theorem Low.top {t:TypR} {a:Int} (h:Low (preT t a)):a < 20:=h ⟨t,a⟩ (by rw [preT_eq]; exact List.mem_cons_self ..)
theorem CT.inside {l:List DefR} {t:TypR} (h:CT l t):∀ x ∈ Ty.inside t,CT l x:=by
 cases h with
 | mk _ _ _ h1=>exact h1
section
variable [G:Globs]
theorem w_walk2 (s:SchemaR) (hs:SB s) (m:Int) (t:TypR) (h1:CT s.defs t) (h2:TB t) (a:Int) (h0:0≤a) (hL:Low (preT t a)) (ih:∀ x ∈ Ty.inside t,PSpec Tryd.prog 159 [.rp (chkC s m),.agg (encTyp x),.i .i64 (a + 1),.fn 99 [.np,.rp (chkC s m)]] (.i .i64 (clsF s.defs (preT x (a + 1))))):vc Tryd.prog Γ 37 [0,2,3,5,8,9,11,12,18,21,22,23,24,34] (Tryd.f159.body.getD .skip) (postK Γ [.tmp 8] (fun v=>v = .i .i64 (clsF s.defs (preT t a)))) ⟨argSlots 0 [.rp (chkC s m),.agg (encTyp t),.i .i64 a,.fn 99 [.np,.rp (chkC s m)]],[]⟩:=by
 have hC:=s_clash s hs m t h1 h2 a
 have hW:clsF s.defs (preT t a) = if clashF s.defs t≠0 then clashF s.defs t else clsF s.defs ((Ty.inside t).flatMap fun x=>preT x (a + 1)):=by rw [preT_eq,clsF]
 have hN:=s_inside t (by cases h2; omega) (by cases h2; omega)
 have ha:=hL.top
 have hlen:(Ty.inside t).length≤4000000:=by
  unfold Ty.inside
  rw [List.length_append,List.length_map]
  cases h2
  omega
 generalize clsF s.defs (preT t a) = R at hW ⊢
 generalize clashF s.defs t = q at hC hW
 (repeat' (first | (refine aN (fun h=>?_) (fun h=>?_)<;>(try simp [-List.getD_eq_getElem?_getD,-Int.pred_toNat] at h)<;>(try (exfalso; first | omega | contradiction))) | (refine rNG ?_) | (refine bN2 ?_) | (refine bN3 ?_) | (intro _)))
 refine Or.inl (eX _ (aN (hC) ?_))
 by_cases c1:q = 0
 rotate_left
 ·rw [if_pos c1] at hW
  rw [hW]
  (repeat' (first | (refine aN (fun h=>?_) (fun h=>?_)<;>(try simp [-List.getD_eq_getElem?_getD,-Int.pred_toNat] at h)<;>(try (exfalso; first | omega | contradiction))) | (refine rNG ?_) | (refine bN2 ?_) | (refine bN3 ?_) | (intro _)))
  rfl
 rw [if_neg (fun h=>h c1)] at hW
 rw [c1]
 (repeat' (first | (refine aN (fun h=>?_) (fun h=>?_)<;>(try simp [-List.getD_eq_getElem?_getD,-Int.pred_toNat] at h)<;>(try (exfalso; first | omega | contradiction))) | (refine rNG ?_) | (refine bN2 ?_) | (refine bN3 ?_) | (intro _)))
 refine Or.inr (Or.inl (eX [] (eX _ (eX _ (eX _ (eX _ (eX _ (eX [(1000,21)] (aN (hN) ?_)))))))))
 refine (aN rfl (aN rfl (aN rfl (aN rfl ?_))))
 (repeat' (first | (refine aN (fun h=>?_) (fun h=>?_)<;>(try simp [-List.getD_eq_getElem?_getD,-Int.pred_toNat] at h)<;>(try (exfalso; first | omega | contradiction))) | (refine rNG ?_) | (refine bN2 ?_) | (refine bN3 ?_) | (intro _)))
 refine eX [] (eX [] (eX [(999,21)] (eX Nat (eX (fun i=>i≤(Ty.inside t).length∧R = clsF s.defs (((Ty.inside t).drop i).flatMap fun y=>preT y (a + 1))) (eX (fun i=>⟨[(0,.rp (chkC s m)),(2,.i .i64 a),(3,.fn 99 [.np,.rp (chkC s m)]),(21,.rd .typ (Ty.inside t)),(22,.i .i64 (Ty.inside t).length),(23,.i .i64 i)],[]⟩) (eX (fun i=>(Ty.inside t).length - i) (eX 0 (aN ⟨Nat.zero_le _,hW⟩ (aN ?_ ?_)))))))))
 ·(repeat' (first | exact trivial | exact Or.inl rfl | exact Or.inr (Or.inl ⟨rfl,_,rfl⟩) | exact Or.inr (Or.inr (Or.inr ⟨_,_,_,rfl,rfl⟩)) | refine aN ?_ ?_))
 rintro i ⟨hi,hI⟩
 refine aN (fun hz=>?_) (fun hz=>?_)
 ·have hi:=ltD hz
  have hg:=getI (τ:=.typ) hi
  refine bN2 ?_
  rw [hg]
  have hC:=ih (Ty.inside t)[i] (List.getElem_mem hi)
  rw [clsF_drop s.defs _ hi] at hI
  generalize clsF s.defs (preT (Ty.inside t)[i] (a + 1)) = q at hI hC
  (repeat' (first | (refine aN (fun h=>?_) (fun h=>?_)<;>(try simp [-List.getD_eq_getElem?_getD,-Int.pred_toNat] at h)<;>(try (exfalso; first | omega | contradiction))) | (refine rNG ?_) | (refine bN2 ?_) | (refine bN3 ?_) | (intro _)))
  refine Or.inl (eX _ (aN (hC) ?_))
  by_cases k1:q = 0
  rotate_left
  ·rw [if_pos k1] at hI
   rw [hI]
   (repeat' (first | (refine aN (fun h=>?_) (fun h=>?_)<;>(try simp [-List.getD_eq_getElem?_getD,-Int.pred_toNat] at h)<;>(try (exfalso; first | omega | contradiction))) | (refine rNG ?_) | (refine bN2 ?_) | (refine bN3 ?_) | (intro _)))
   rfl
  ·rw [if_neg (fun h=>h k1)] at hI
   rw [k1]
   (repeat' (first | (refine aN (fun h=>?_) (fun h=>?_)<;>(try simp [-List.getD_eq_getElem?_getD,-Int.pred_toNat] at h)<;>(try (exfalso; first | omega | contradiction))) | (refine rNG ?_) | (refine bN2 ?_) | (refine bN3 ?_) | (intro _)))
   refine eX [] (eX (i + 1) (aN ⟨hi,hI⟩ (aN ?_ ?_)))
   ·(repeat' (first | exact trivial | exact Or.inl rfl | exact Or.inr (Or.inl ⟨rfl,_,rfl⟩) | exact Or.inr (Or.inr (Or.inr ⟨_,_,_,rfl,rfl⟩)) | refine aN ?_ ?_))
   ·(exact Nat.sub_lt_sub_left (by omega) (by omega))
 ·(have hi:=geD hi hz)
  rw [hI,List.drop_eq_nil_of_le (by omega)]
  rfl
theorem s_walk2 (s:SchemaR) (hs:SB s) (m:Int) (t:TypR) (h1:CT s.defs t) (h2:TB t) (a:Int) (h0:0≤a) (hL:Low (preT t a)) (ih:∀ x ∈ Ty.inside t,PSpec Tryd.prog 159 [.rp (chkC s m),.agg (encTyp x),.i .i64 (a + 1),.fn 99 [.np,.rp (chkC s m)]] (.i .i64 (clsF s.defs (preT x (a + 1))))):PSpec Tryd.prog 159 [.rp (chkC s m),.agg (encTyp t),.i .i64 a,.fn 99 [.np,.rp (chkC s m)]] (.i .i64 (clsF s.defs (preT t a))) :=
 pspec_of_vc Γ_good Tryd.func159 rfl Tryd.call159 Tryd.results159 Tryd.ntmps159 (Nat.le_of_ble_eq_true rfl) (w_walk2 s hs m t h1 h2 a h0 hL ih)
theorem walk2 {s:SchemaR} (hs:SB s) (m:Int):∀ (k:Nat) (t:TypR),SizeOf.sizeOf t < k→CT s.defs t→TB t→∀ a:Int,0≤a→Low (preT t a)→PSpec Tryd.prog 159 [.rp (chkC s m),.agg (encTyp t),.i .i64 a,.fn 99 [.np,.rp (chkC s m)]] (.i .i64 (clsF s.defs (preT t a))):=by
 intro k
 induction k with
 | zero=>intro t h; exact absurd h (Nat.not_lt_zero _)
 | succ k ih =>
  intro t h h1 h2 a h0 hL
  exact s_walk2 s hs m t h1 h2 a h0 hL fun x hx=>ih x (by have:=size_in hx; omega) (CT.inside h1 x hx) (h2.inside x hx) (a + 1) (by omega) (hL.part hx)
theorem w_all2 (s:SchemaR) (hs:SB s) (m:Int) (hL:Low (allP s)):vc Tryd.prog Γ 35 [0,1,4,6,7,12,13,14,15,24] (Tryd.f96.body.getD .skip) (postK Γ [.tmp 4] (fun v=>v = .i .i64 (clsF s.defs (allP s)))) ⟨argSlots 0 [.rp (chkC s m),.fn 99 [.np,.rp (chkC s m)]],[]⟩:=by
 have hA:clsF s.defs (allP s) = clsF s.defs ((s.defs.drop 0).flatMap (fun d=>preT d.t 0)++preT s.root 0):=rfl
 have hn:=hs.many
 generalize clsF s.defs (allP s) = R at hA ⊢
 (repeat' (first | (refine aN (fun h=>?_) (fun h=>?_)<;>(try simp [-List.getD_eq_getElem?_getD,-Int.pred_toNat] at h)<;>(try (exfalso; first | omega | contradiction))) | (refine rNG ?_) | (refine bN2 ?_) | (refine bN3 ?_) | (intro _)))
 refine eX [] (eX [] (eX [] (eX Nat (eX (fun i=>i≤(s.defs).length∧(R = clsF s.defs ((s.defs.drop i).flatMap (fun d=>preT d.t 0)++preT s.root 0))) (eX (fun i=>⟨[(0,.rp (chkC s m)),(1,.fn 99 [.np,.rp (chkC s m)]),(12,.rd .dfn s.defs),(13,.i .i64 s.defs.length),(14,.i .i64 i)],[]⟩) (eX (fun i=>(s.defs).length - i) (eX 0 (aN ⟨Nat.zero_le _,hA⟩ (aN ?_ ?_)))))))))
 ·(repeat' (first | exact trivial | exact Or.inl rfl | exact Or.inr (Or.inl ⟨rfl,_,rfl⟩) | exact Or.inr (Or.inr (Or.inr ⟨_,_,_,rfl,rfl⟩)) | refine aN ?_ ?_))
 rintro i ⟨hi,hI⟩
 refine aN (fun hz=>?_) (fun hz=>?_)
 ·have hi:=ltD hz
  have hg:=getI (τ:=.dfn) hi
  refine bN2 ?_
  rw [hg]
  have hd:=List.getElem_mem hi
  have hC:=walk2 hs m _ s.defs[i].t (Nat.lt_succ_self _) (hs.defs _ hd).1 (hs.defs _ hd).2 0 (by decide) (fun p hp=>hL p (List.mem_append_left _ (List.mem_flatMap.2 ⟨_,hd,hp⟩)))
  rw [clsF_dropD s.defs _ _ hi] at hI
  generalize clsF s.defs (preT s.defs[i].t 0) = q at hI hC
  (repeat' (first | (refine aN (fun h=>?_) (fun h=>?_)<;>(try simp [-List.getD_eq_getElem?_getD,-Int.pred_toNat] at h)<;>(try (exfalso; first | omega | contradiction))) | (refine rNG ?_) | (refine bN2 ?_) | (refine bN3 ?_) | (intro _)))
  refine Or.inl (eX _ (aN (hC) ?_))
  by_cases k1:q = 0
  rotate_left
  ·rw [if_pos k1] at hI
   rw [hI]
   (repeat' (first | (refine aN (fun h=>?_) (fun h=>?_)<;>(try simp [-List.getD_eq_getElem?_getD,-Int.pred_toNat] at h)<;>(try (exfalso; first | omega | contradiction))) | (refine rNG ?_) | (refine bN2 ?_) | (refine bN3 ?_) | (intro _)))
   rfl
  ·rw [if_neg (fun h=>h k1)] at hI
   rw [k1]
   (repeat' (first | (refine aN (fun h=>?_) (fun h=>?_)<;>(try simp [-List.getD_eq_getElem?_getD,-Int.pred_toNat] at h)<;>(try (exfalso; first | omega | contradiction))) | (refine rNG ?_) | (refine bN2 ?_) | (refine bN3 ?_) | (intro _)))
   refine eX [] (eX (i + 1) (aN ⟨hi,hI⟩ (aN ?_ ?_)))
   ·(repeat' (first | exact trivial | exact Or.inl rfl | exact Or.inr (Or.inl ⟨rfl,_,rfl⟩) | exact Or.inr (Or.inr (Or.inr ⟨_,_,_,rfl,rfl⟩)) | refine aN ?_ ?_))
   ·(exact Nat.sub_lt_sub_left (by omega) (by omega))
 ·(have hi:=geD hi hz)
  rw [List.drop_eq_nil_of_le (by omega)] at hI
  have hI:R = clsF s.defs (preT s.root 0):=hI
  have hC:=walk2 hs m _ s.root (Nat.lt_succ_self _) hs.root.1 hs.root.2 0 (by decide) (fun p hp=>hL p (List.mem_append_right _ hp))
  rw [← hI] at hC
  (repeat' (first | (refine aN (fun h=>?_) (fun h=>?_)<;>(try simp [-List.getD_eq_getElem?_getD,-Int.pred_toNat] at h)<;>(try (exfalso; first | omega | contradiction))) | (refine rNG ?_) | (refine bN2 ?_) | (refine bN3 ?_) | (intro _)))
  refine Or.inl (eX _ (aN (hC) ?_))
  rfl
theorem s_all2 (s:SchemaR) (hs:SB s) (m:Int) (hL:Low (allP s)):PSpec Tryd.prog 96 [.rp (chkC s m),.fn 99 [.np,.rp (chkC s m)]] (.i .i64 (clsF s.defs (allP s))) :=
 pspec_of_vc Γ_good Tryd.func96 rfl Tryd.call96 Tryd.results96 Tryd.ntmps96 (Nat.le_of_ble_eq_true rfl) (w_all2 s hs m hL)
end
end Go.Proofs.YtdcdmojbkmedpaaDoor
end
section
namespace Go.Proofs.YtdcdmojbkmedpaaDoor
open Go Go.SX Go.Ck Go.Vl Go.Ut Go.Ty
set_option maxRecDepth 100000
set_option maxHeartbeats 4000000
theorem scan_zero {l:List DefR}:∀ (ps:List TPlace) (m:Int),m≤200→(scan l ps m).1 = 0→(∀ p ∈ ps,typeF l p.t = 0∧p.around < 20)∧m + ps.length≤200:=by
 intro ps
 induction ps with
 | nil=>intro m h _; exact ⟨fun _ h=>(nomatch h),by show m + 0≤200; omega⟩
 | cons p r ih =>
  intro m hm h
  rw [scan] at h
  by_cases c:lookF l p m≠0
  ·rw [if_pos c] at h
   exact absurd h c
  ·rw [if_neg c] at h
   have c:lookF l p m = 0:=by omega
   unfold lookF at c
   split at c
   ·cases c
   ·split at c
    ·cases c
    ·rename_i h1 h2
     obtain ⟨g1,g2⟩:=ih (m + 1) (by omega) h
     refine ⟨fun q hq=>?_,by rw [List.length_cons]; omega⟩
     rcases List.mem_cons.1 hq with rfl | hq
     ·exact ⟨c,by omega⟩
     ·exact g1 q hq
theorem ct_of {l:List DefR}:∀ (k:Nat) (t:TypR),SizeOf.sizeOf t < k→∀ a,(∀ p ∈ preT t a,typeF l p.t = 0)→CT l t:=by
 intro k
 induction k with
 | zero=>intro t h; exact absurd h (Nat.not_lt_zero _)
 | succ k ih =>
  intro t h a hp
  have h0:typeF l t = 0:=hp ⟨t,a⟩ (by rw [preT_eq]; exact List.mem_cons_self ..)
  unfold typeF at h0
  split at h0
  ·cases h0
  rename_i c1
  have c1:okKind t:=Decidable.not_not.1 c1
  refine CT.mk t c1.1 (fun hk=>?_) fun x hx=>ih x (by have:=size_inside hx; omega) (a + 1) fun p h2=>hp p (by rw [preT_eq]; exact List.mem_cons_of_mem _ (List.mem_flatMap.2 ⟨x,hx,h2⟩))
  split at h0
  ·cases h0
  rw [if_neg (show ¬ t.kind = 7 by omega),if_neg (show ¬ t.kind = 10 by omega)] at h0
  split at h0
  ·cases h0
  ·omega
theorem allP_len (s:SchemaR):(allP s).length = restN s.defs [] + tyN s.root:=by
 unfold allP restN tyN
 rw [List.length_append,List.length_flatMap,rest_all]
theorem sb_of {s:SchemaR} (hd:∀ d ∈ s.defs,TB d.t) (hr:TB s.root) (hl:s.defs.length≤1000) (h:(scan s.defs (allP s) 0).1 = 0):SB s∧Low (allP s):=by
 obtain ⟨h1,h2⟩:=scan_zero (allP s) 0 (by decide) h
 refine ⟨⟨fun d h3=>⟨ct_of _ d.t (Nat.lt_succ_self _) 0 fun p hp=>(h1 p (List.mem_append_left _ (List.mem_flatMap.2 ⟨d,h3,hp⟩))).1,hd d h3⟩,⟨ct_of _ s.root (Nat.lt_succ_self _) 0 fun p hp=>(h1 p (List.mem_append_right _ hp)).1,hr⟩,hl,?_⟩,fun p hp=>(h1 p hp).2⟩
 have:=allP_len s
 omega
noncomputable def cirF (l:List DefR) (d:DefR):Bool:=met (comeA l d.t).2 d.name
noncomputable def checkS (s:SchemaR):Int :=
 if 50 < s.defs.length then 2 else orI (nmsF none (s.defs.map (·.name))) (orI (scan s.defs (allP s) 0).1 (if s.defs.any (cirF s.defs) = true then 11 else clsF s.defs (allP s)))
section
variable [G:Globs]
theorem w_tcheck (hu:HasU8) (s:SchemaR) (hd:∀ d ∈ s.defs,TB d.t) (hr:TB s.root):vc Tryd.prog Γ 45 [1,2,3,4,5,7,10,14,21,28,31,32,33,34,39] (Tryd.f36.body.getD .skip) (postK Γ [.tmp 2] (fun v=>v = .i .i64 (checkS s))) ⟨argSlots 0 [.agg (encSch s)],[]⟩:=by
 by_cases c1:50 < s.defs.length
 ·have hR:checkS s = 2:=if_pos c1
  rw [hR]
  (repeat' (first | (refine aN (fun h=>?_) (fun h=>?_)<;>(try simp [-List.getD_eq_getElem?_getD,-Int.pred_toNat] at h)<;>(try (exfalso; first | omega | contradiction))) | (refine rNG ?_) | (refine bN2 ?_) | (refine bN3 ?_) | (intro _)))
  rfl
 have hR:checkS s = orI (nmsF none (s.defs.map (·.name))) (orI (scan s.defs (allP s) 0).1 (if s.defs.any (cirF s.defs) = true then 11 else clsF s.defs (allP s))):=if_neg c1
 generalize checkS s = R at hR ⊢
 have hN:=s_names1 hu (s.defs.map (·.name)) 95 (encSch s) (fun k hk=>by
  rw [List.length_map] at hk
  have h9:=s_check1 s k hk
  have e:(s.defs.map (·.name)).getD k [] = (s.defs.getD k (dflt .dfn)).name:=by
   rw [List.getD_eq_getElem?_getD,List.getD_eq_getElem?_getD,List.getElem?_map,List.getElem?_eq_getElem hk]
   rfl
  rw [e]
  exact h9) (by rw [List.length_map]; omega)
 rw [List.length_map] at hN
 have hA:=s_all1 hu s hd hr (by omega) 0 (by decide) (by decide)
 have hS:=scan_le s.defs (allP s) 0 (by decide) (by decide)
 generalize nmsF none (s.defs.map (·.name)) = n at hN hR
 (repeat' (first | (refine aN (fun h=>?_) (fun h=>?_)<;>(try simp [-List.getD_eq_getElem?_getD,-Int.pred_toNat] at h)<;>(try (exfalso; first | omega | contradiction))) | (refine rNG ?_) | (refine bN2 ?_) | (refine bN3 ?_) | (intro _)))
 refine Or.inr (Or.inr (Or.inr (Or.inl (eX [1] (eX _ (aN (hN) ?_))))))
 by_cases c2:n = 0
 rotate_left
 ·rw [orI_ne c2] at hR
  rw [hR]
  (repeat' (first | (refine aN (fun h=>?_) (fun h=>?_)<;>(try simp [-List.getD_eq_getElem?_getD,-Int.pred_toNat] at h)<;>(try (exfalso; first | omega | contradiction))) | (refine rNG ?_) | (refine bN2 ?_) | (refine bN3 ?_) | (intro _)))
  rfl
 rw [c2,orI_zero] at hR
 rw [c2]
 (repeat' (first | (refine aN (fun h=>?_) (fun h=>?_)<;>(try simp [-List.getD_eq_getElem?_getD,-Int.pred_toNat] at h)<;>(try (exfalso; first | omega | contradiction))) | (refine rNG ?_) | (refine bN2 ?_) | (refine bN3 ?_) | (intro _)))
 refine Or.inr (Or.inl (eX [] (eX _ (eX _ (eX _ (eX _ (eX _ (eX [(1000,10)] (aN (hA) ?_)))))))))
 refine (aN rfl (aN rfl (aN rfl (aN rfl (aN rfl ?_)))))
 by_cases c3:(scan s.defs (allP s) 0).1 = 0
 rotate_left
 ·rw [orI_ne c3] at hR
  rw [hR]
  (repeat' (first | (refine aN (fun h=>?_) (fun h=>?_)<;>(try simp [-List.getD_eq_getElem?_getD,-Int.pred_toNat] at h)<;>(try (exfalso; first | omega | contradiction))) | (refine rNG ?_) | (refine bN2 ?_) | (refine bN3 ?_) | (intro _)))
  rfl
 rw [c3,orI_zero] at hR
 obtain ⟨hB,hL⟩:=sb_of hd hr (by omega) c3
 rw [c3]
 generalize (scan s.defs (allP s) 0).2 = m at hS
 (repeat' (first | (refine aN (fun h=>?_) (fun h=>?_)<;>(try simp [-List.getD_eq_getElem?_getD,-Int.pred_toNat] at h)<;>(try (exfalso; first | omega | contradiction))) | (refine rNG ?_) | (refine bN2 ?_) | (refine bN3 ?_) | (intro _)))
 refine eX [] (eX [] (eX [] (eX Nat (eX (fun i=>i≤s.defs.length∧s.defs.any (cirF s.defs) = (s.defs.drop i).any (cirF s.defs)) (eX (fun | 0=>⟨[(3,.pt 10 0),(31,.rd .dfn s.defs),(32,.i .i64 s.defs.length),(33,.i .i64 ((0:Nat):Int))],[(10,chkC s m)]⟩ | (j + 1)=>⟨[(3,.rp (chkC s m)),(31,.rd .dfn s.defs),(32,.i .i64 s.defs.length),(33,.i .i64 ((j + 1:Nat):Int))],[]⟩) (eX (fun i=>s.defs.length - i) (eX 0 (aN ⟨Nat.zero_le _,rfl⟩ (aN ?_ ?_)))))))))
 ·(repeat' (first | exact trivial | exact Or.inl rfl | exact Or.inr (Or.inl ⟨rfl,_,rfl⟩) | exact Or.inr (Or.inr (Or.inr ⟨_,_,_,rfl,rfl⟩)) | refine aN ?_ ?_))
 rintro i ⟨hi,hI⟩
 cases i with
 | zero =>
  refine aN (fun hz=>?_) (fun hz=>?_)
  ·have hi:=ltD hz
   have hg:=getI (τ:=.dfn) hi
   refine bN2 ?_
   rw [hg]
   have hx:=List.getElem_mem hi
   have hC:PSpec Tryd.prog 98 [.rp (chkC s m),.agg (enc .dfn s.defs[0])] (.b (cirF s.defs s.defs[0])):=s_circle s hB m s.defs[0] (hB.defs _ hx).1 (hB.defs _ hx).2
   rw [List.drop_eq_getElem_cons hi,List.any_cons] at hI
   generalize cirF s.defs s.defs[0] = q at hI hC
   (repeat' (first | (refine aN (fun h=>?_) (fun h=>?_)<;>(try simp [-List.getD_eq_getElem?_getD,-Int.pred_toNat] at h)<;>(try (exfalso; first | omega | contradiction))) | (refine rNG ?_) | (refine bN2 ?_) | (refine bN3 ?_) | (intro _)))
   refine Or.inr (Or.inr (Or.inr (Or.inl (eX [10] (eX _ (aN (hC) ?_))))))
   cases q with
   | true =>
    rw [hI,Bool.true_or,if_pos rfl] at hR
    rw [hR]
    (repeat' (first | (refine aN (fun h=>?_) (fun h=>?_)<;>(try simp [-List.getD_eq_getElem?_getD,-Int.pred_toNat] at h)<;>(try (exfalso; first | omega | contradiction))) | (refine rNG ?_) | (refine bN2 ?_) | (refine bN3 ?_) | (intro _)))
    rfl
   | false =>
    rw [Bool.false_or] at hI
    (repeat' (first | (refine aN (fun h=>?_) (fun h=>?_)<;>(try simp [-List.getD_eq_getElem?_getD,-Int.pred_toNat] at h)<;>(try (exfalso; first | omega | contradiction))) | (refine rNG ?_) | (refine bN2 ?_) | (refine bN3 ?_) | (intro _)))
    refine eX [] (eX (0 + 1) (aN ⟨hi,hI⟩ (aN ?_ ?_)))
    ·(repeat' (first | exact trivial | exact Or.inl rfl | exact Or.inr (Or.inl ⟨rfl,_,rfl⟩) | exact Or.inr (Or.inr (Or.inr ⟨_,_,_,rfl,rfl⟩)) | refine aN ?_ ?_))
    ·(exact Nat.sub_lt_sub_left (by omega) (by omega))
  ·(have hi:=geD hi hz)
   rw [List.drop_eq_nil_of_le (by omega)] at hI
   rw [hI,if_neg (by intro h; cases h)] at hR
   have hC:=s_all2 s hB m hL
   rw [← hR] at hC
   (repeat' (first | (refine aN (fun h=>?_) (fun h=>?_)<;>(try simp [-List.getD_eq_getElem?_getD,-Int.pred_toNat] at h)<;>(try (exfalso; first | omega | contradiction))) | (refine rNG ?_) | (refine bN2 ?_) | (refine bN3 ?_) | (intro _)))
   refine Or.inr (Or.inr (Or.inr (Or.inl (eX [10] (eX _ (aN (hC) ?_))))))
   rfl
 | succ j =>
  refine aN (fun hz=>?_) (fun hz=>?_)
  ·have hi:=ltD hz
   have hg:=getI (τ:=.dfn) hi
   refine bN2 ?_
   rw [hg]
   have hx:=List.getElem_mem hi
   have hC:PSpec Tryd.prog 98 [.rp (chkC s m),.agg (enc .dfn s.defs[j + 1])] (.b (cirF s.defs s.defs[j + 1])):=s_circle s hB m s.defs[j + 1] (hB.defs _ hx).1 (hB.defs _ hx).2
   rw [List.drop_eq_getElem_cons hi,List.any_cons] at hI
   generalize cirF s.defs s.defs[j + 1] = q at hI hC
   (repeat' (first | (refine aN (fun h=>?_) (fun h=>?_)<;>(try simp [-List.getD_eq_getElem?_getD,-Int.pred_toNat] at h)<;>(try (exfalso; first | omega | contradiction))) | (refine rNG ?_) | (refine bN2 ?_) | (refine bN3 ?_) | (intro _)))
   refine Or.inl (eX _ (aN (hC) ?_))
   cases q with
   | true =>
    rw [hI,Bool.true_or,if_pos rfl] at hR
    rw [hR]
    (repeat' (first | (refine aN (fun h=>?_) (fun h=>?_)<;>(try simp [-List.getD_eq_getElem?_getD,-Int.pred_toNat] at h)<;>(try (exfalso; first | omega | contradiction))) | (refine rNG ?_) | (refine bN2 ?_) | (refine bN3 ?_) | (intro _)))
    rfl
   | false =>
    rw [Bool.false_or] at hI
    (repeat' (first | (refine aN (fun h=>?_) (fun h=>?_)<;>(try simp [-List.getD_eq_getElem?_getD,-Int.pred_toNat] at h)<;>(try (exfalso; first | omega | contradiction))) | (refine rNG ?_) | (refine bN2 ?_) | (refine bN3 ?_) | (intro _)))
    refine eX [] (eX (j + 1 + 1) (aN ⟨hi,hI⟩ (aN ?_ ?_)))
    ·(repeat' (first | exact trivial | exact Or.inl rfl | exact Or.inr (Or.inl ⟨rfl,_,rfl⟩) | exact Or.inr (Or.inr (Or.inr ⟨_,_,_,rfl,rfl⟩)) | refine aN ?_ ?_))
    ·(exact Nat.sub_lt_sub_left (by omega) (by omega))
  ·(have hi:=geD hi hz)
   rw [List.drop_eq_nil_of_le (by omega)] at hI
   rw [hI,if_neg (by intro h; cases h)] at hR
   have hC:=s_all2 s hB m hL
   rw [← hR] at hC
   (repeat' (first | (refine aN (fun h=>?_) (fun h=>?_)<;>(try simp [-List.getD_eq_getElem?_getD,-Int.pred_toNat] at h)<;>(try (exfalso; first | omega | contradiction))) | (refine rNG ?_) | (refine bN2 ?_) | (refine bN3 ?_) | (intro _)))
   refine Or.inl (eX _ (aN (hC) ?_))
   rfl
theorem s_tcheck (hu:HasU8) (s:SchemaR) (hd:∀ d ∈ s.defs,TB d.t) (hr:TB s.root):PSpec Tryd.prog 36 [.agg (encSch s)] (.i .i64 (checkS s)) :=
 pspec_of_vc Γ_good Tryd.func36 rfl Tryd.call36 Tryd.results36 Tryd.ntmps36 (Nat.le_of_ble_eq_true rfl) (w_tcheck hu s hd hr)
end
end Go.Proofs.YtdcdmojbkmedpaaDoor
end
section
namespace Go.Proofs.YtdcdmojbkmedpaaDoor
open Go Go.SX Go.Ck Go.Vl Go.Ut Go.Ty
set_option maxRecDepth 100000
set_option maxHeartbeats 4000000
theorem check_sb {s:SchemaR} (hd:∀ d ∈ s.defs,TB d.t) (hr:TB s.root) (h:checkS s = 0):SB s∧Low (allP s):=by
 unfold checkS at h
 split at h
 ·cases h
 have h1:nmsF none (s.defs.map (·.name)) = 0:=Decidable.byContradiction fun c=>by rw [orI_ne c] at h; exact c h
 rw [h1,orI_zero] at h
 have h2:(scan s.defs (allP s) 0).1 = 0:=Decidable.byContradiction fun c=>by rw [orI_ne c] at h; exact c h
 exact sb_of hd hr (by omega) h2
def bitF (a:Int) (k:Nat):Bool:=bits .and .i64 (a.fdiv (2 ^ min k IntKind.i64.bits)) 1 == 1
section
variable [G:Globs]
end
end Go.Proofs.YtdcdmojbkmedpaaDoor
end
section
namespace Go.Proofs.YtdcdmojbkmedpaaDoor
open Go Go.SX Go.Ck Go.Vl Go.Ut Go.Ty
set_option maxRecDepth 100000
set_option maxHeartbeats 4000000
section
variable [G:Globs]
end
end Go.Proofs.YtdcdmojbkmedpaaDoor
end
section
namespace Go.Proofs.YtdcdmojbkmedpaaDoor
open Go Go.SX Go.Ck Go.Vl Go.Ut Go.Ty
set_option maxRecDepth 100000
set_option maxHeartbeats 4000000
inductive DN:TypR→Prop
 | mk (t:TypR):(∀ f ∈ t.f,VN 100000000 f.dflt)→(∀ x ∈ Ty.inside t,DN x)→DN t
theorem DN.part {t:TypR} (h:DN t):∀ x ∈ t.t,DN x:=by
 cases h with
 | mk _ _ h1=>exact fun x hx=>h1 x (List.mem_append_left _ hx)
theorem comeL_prop {Q:TypR→Prop} {f:TypR→Met→List TypR × Met}:∀ (r:List TypR) (es:Met),(∀ x ∈ r,∀ es,∀ y ∈ (f x es).1,Q y)→∀ y ∈ (comeL f r es).1,Q y
 | [],_,_,_,hy=>nomatch hy
 | x::r,es,h,y,hy=>by
  rcases List.mem_append.1 hy with hy | hy
  ·exact h x (List.mem_cons_self ..) es y hy
  ·exact comeL_prop r _ (fun z hz=>h z (List.mem_cons_of_mem _ hz)) y hy
theorem come_prop {l:List DefR} {Q:TypR→Prop} (hl:∀ d ∈ l,CT l d.t∧Q d.t) (hQ:∀ t,Q t→∀ x ∈ t.t,Q x):∀ (k:Nat) (t:TypR) (es:Met),CT l t→Q t→∀ y ∈ (comeF l k t es).1,Q y:=by
 intro k
 induction k with
 | zero=>intro t es _ _ y hy; exact nomatch hy
 | succ k ih =>
  intro t es ht hq y hy
  unfold comeF at hy
  split at hy
  ·rename_i hk
   split at hy
   ·exact nomatch hy
   ·have h0:0≤defI l t.name:=by cases ht with | mk _ _ h _=>exact h hk
    obtain ⟨d,hd,_,e⟩:=defT_mem h0
    exact ih _ _ (CT.defT (fun d hd=>(hl d hd).1) h0) (by rw [← e]; exact (hl d hd).2) y hy
  ·split at hy
   ·exact comeL_prop _ _ (fun x hx es=>ih x es (ht.part x hx) (hQ t hq x hx)) y hy
   ·obtain rfl:y = t:=by simpa using hy
    exact hq
section
variable [G:Globs]
end
end Go.Proofs.YtdcdmojbkmedpaaDoor
end
section
namespace Go.Ty
open Go Go.SX Go.Ck Go.Vl Go.Ut
def eqL {α:Type} (f:α→α→Bool):List α→List α→Bool
 | [],[]=>true
 | x::r,y::s=>f x y && eqL f r s
 | _,_=>false
mutual
def sameT:TypR→TypR→Bool
 | ⟨k,lo,hi,tx,t,f,n⟩,b=>k == b.kind && (lo == b.lo && (hi == b.hi && (decide (n = b.name) && (eqL (fun x y=>decide (x = y)) tx b.texts && (sameTL t b.t && sameFL f b.f)))))
def sameTL:List TypR→List TypR→Bool
 | [],[]=>true
 | x::r,y::s=>sameT x y && sameTL r s
 | _,_=>false
def sameFL:List (FldP TypR)→List (FldP TypR)→Bool
 | [],[]=>true
 | x::r,y::s=>sameP x y && sameFL r s
 | _,_=>false
def sameP:FldP TypR→FldP TypR→Bool
 | ⟨n,o,h,t,d⟩,y=>decide (n = y.name) && (o == y.opt && (h == y.hasDef && (cmpV d y.dflt == 0 && sameT t y.t)))
end
end Go.Ty
end
section
namespace Go.Proofs.YtdcdmojbkmedpaaDoor
open Go Go.SX Go.Ck Go.Vl Go.Ut Go.Ty
set_option maxRecDepth 100000
set_option maxHeartbeats 4000000
section
variable [G:Globs]
end
end Go.Proofs.YtdcdmojbkmedpaaDoor
end
section
namespace Go.Proofs.YtdcdmojbkmedpaaDoor
open Go Go.SX Go.Ck Go.Vl Go.Ut Go.Ty
set_option maxRecDepth 100000
set_option maxHeartbeats 4000000
section
variable [G:Globs]
end
end Go.Proofs.YtdcdmojbkmedpaaDoor
end
section
namespace Go.Proofs.YtdcdmojbkmedpaaDoor
open Go Go.SX Go.Ck Go.Vl Go.Ut Go.Ty
set_option maxRecDepth 100000
set_option maxHeartbeats 4000000
theorem less_flip:∀ a b:Str,(Op.bytesLess a b || a == b) = !Op.bytesLess b a
 | [],[]=>by simp [Op.bytesLess]
 | [],_::_=>by simp [Op.bytesLess]
 | _::_,[]=>by simp [Op.bytesLess]
 | x::a,y::b=>by
  have ih:=less_flip a b
  rw [Op.bytesLess,Op.bytesLess,List.cons_beq_cons]
  by_cases h:x = y
  ·subst h
   have h1:decide (x < x) = false:=decide_eq_false (UInt8.lt_irrefl x)
   rw [h1,beq_self_eq_true,Bool.false_or,Bool.true_and,Bool.true_and,Bool.false_or,Bool.true_and]
   exact ih
  ·have h1:(x == y) = false:=beq_eq_false_iff_ne.2 h
   have h2:(y == x) = false:=beq_eq_false_iff_ne.2 fun e=>h e.symm
   rw [h1,h2,Bool.false_and,Bool.false_and,Bool.or_false,Bool.or_false,Bool.false_and,Bool.or_false]
   by_cases h3:x < y
   ·rw [decide_eq_true h3,decide_eq_false (UInt8.lt_asymm h3)]
    rfl
   ·have h4 : y < x := by
     rcases UInt8.lt_or_lt_of_ne h with h5 | h5
     ·exact absurd h5 h3
     ·exact h5
    rw [decide_eq_false h3,decide_eq_true h4]
    rfl
section
variable [G:Globs]
theorem w_nameFault (s q:Str) (b:Bool):vc Tryd.prog Γ 20 [0,1,2,6,9,12,19] (Tryd.f87.body.getD .skip) (postK Γ [.tmp 6] (fun v=>v = .i .i64 (keyF (if b = true then none else some q) s))) ⟨argSlots 0 [.s s,.s q,.b b],[]⟩:=by
 by_cases c1:100 < s.length
 ·rw [keyF_large c1]
  (repeat' (first | (refine aN (fun h=>?_) (fun h=>?_)<;>(try simp [-List.getD_eq_getElem?_getD,-Int.pred_toNat] at h)<;>(try (exfalso; first | omega | contradiction))) | (refine rNG ?_) | (refine bN2 ?_) | (refine bN3 ?_) | (intro _)))
  all_goals rfl
 by_cases c2:0≤bad s
 ·rw [keyF_text c1 c2]
  (repeat' (first | (refine aN (fun h=>?_) (fun h=>?_)<;>(try simp [-List.getD_eq_getElem?_getD,-Int.pred_toNat] at h)<;>(try (exfalso; first | omega | contradiction))) | (refine rNG ?_) | (refine bN2 ?_) | (refine bN3 ?_) | (intro _)))
  refine Or.inl (eX _ (aN (s_BadPlace s) ?_))
  (repeat' (first | (refine aN (fun h=>?_) (fun h=>?_)<;>(try simp [-List.getD_eq_getElem?_getD,-Int.pred_toNat] at h)<;>(try (exfalso; first | omega | contradiction))) | (refine rNG ?_) | (refine bN2 ?_) | (refine bN3 ?_) | (intro _)))
  all_goals rfl
 have hk:keyF (if b = true then none else some q) s = if b = true then 0 else if Op.bytesLess q s = true then 0 else 14:=by
  unfold keyF
  rw [if_neg c1,if_neg c2]
  cases b<;>rfl
 rw [hk]
 have hf:=less_flip s q
 cases b with
 | true =>
  (repeat' (first | (refine aN (fun h=>?_) (fun h=>?_)<;>(try simp [-List.getD_eq_getElem?_getD,-Int.pred_toNat] at h)<;>(try (exfalso; first | omega | contradiction))) | (refine rNG ?_) | (refine bN2 ?_) | (refine bN3 ?_) | (intro _)))
  refine Or.inl (eX _ (aN (s_BadPlace s) ?_))
  (repeat' (first | (refine aN (fun h=>?_) (fun h=>?_)<;>(try simp [-List.getD_eq_getElem?_getD,-Int.pred_toNat] at h)<;>(try (exfalso; first | omega | contradiction))) | (refine rNG ?_) | (refine bN2 ?_) | (refine bN3 ?_) | (intro _)))
  all_goals rfl
 | false =>
  (repeat' (first | (refine aN (fun h=>?_) (fun h=>?_)<;>(try simp [-List.getD_eq_getElem?_getD,-Int.pred_toNat] at h)<;>(try (exfalso; first | omega | contradiction))) | (refine rNG ?_) | (refine bN2 ?_) | (refine bN3 ?_) | (intro _)))
  refine Or.inl (eX _ (aN (s_BadPlace s) ?_))
  cases hq:Op.bytesLess q s with
  | true =>
   rw [hq] at hf
   (repeat' (first | (refine aN (fun h=>?_) (fun h=>?_)<;>(try simp [-List.getD_eq_getElem?_getD,-Int.pred_toNat] at h)<;>(try (exfalso; first | omega | contradiction))) | (refine rNG ?_) | (refine bN2 ?_) | (refine bN3 ?_) | (intro _)))
   all_goals first | rfl | (exfalso; clear hk; simp_all; done)
  | false =>
   rw [hq] at hf
   (repeat' (first | (refine aN (fun h=>?_) (fun h=>?_)<;>(try simp [-List.getD_eq_getElem?_getD,-Int.pred_toNat] at h)<;>(try (exfalso; first | omega | contradiction))) | (refine rNG ?_) | (refine bN2 ?_) | (refine bN3 ?_) | (intro _)))
   all_goals first | rfl | (exfalso; clear hk; simp_all; done)
theorem s_nameFault (s q:Str) (b:Bool):PSpec Tryd.prog 87 [.s s,.s q,.b b] (.i .i64 (keyF (if b = true then none else some q) s)) :=
 pspec_of_vc Γ_good Tryd.func87 rfl Tryd.call87 Tryd.results87 Tryd.ntmps87 (Nat.le_of_ble_eq_true rfl) (w_nameFault s q b)
theorem w_defOf (s:SchemaR) (n:Str) (hl:s.defs.length≤2000000):vc Tryd.prog Γ 21 [1,2,4,5,6,8,9,10,11,18] (Tryd.f155.body.getD .skip) (postK Γ [.tmp 4] (fun v=>v = .i .i64 (defI s.defs n))) ⟨argSlots 0 [.agg (encSch s),.s n],[]⟩:=by
 (repeat' (first | (refine aN (fun h=>?_) (fun h=>?_)<;>(try simp [-List.getD_eq_getElem?_getD,-Int.pred_toNat] at h)<;>(try (exfalso; first | omega | contradiction))) | (refine rNG ?_) | (refine bN2 ?_) | (refine bN3 ?_) | (intro _)))
 refine eX [] (eX [] (eX [] (eX Nat (eX (fun i=>i≤(s.defs).length∧(i≤s.defs.findIdx (fun d=>d.name == n))) (eX (fun i=>⟨[(1,.s n),(8,.rd .dfn s.defs),(9,.i .i64 s.defs.length),(10,.i .i64 i)],[]⟩) (eX (fun i=>(s.defs).length - i) (eX 0 (aN ⟨Nat.zero_le _,(Nat.zero_le _)⟩ (aN ?_ ?_)))))))))
 ·(repeat' (first | exact trivial | exact Or.inl rfl | exact Or.inr (Or.inl ⟨rfl,_,rfl⟩) | exact Or.inr (Or.inr (Or.inr ⟨_,_,_,rfl,rfl⟩)) | refine aN ?_ ?_))
 rintro i ⟨hi,hI⟩
 refine aN (fun hz=>?_) (fun hz=>?_)
 ·have hi:=ltD hz
  have hg:=getI (τ:=.dfn) hi
  refine bN2 ?_
  rw [hg]
  cases hq:(s.defs[i].name == n) with
  | true =>
   have he:=ixD_hit (q:=fun d=>d.name == n) hi hI hq
   have hq2:s.defs[i].name = n:=eq_of_beq hq
   (repeat' (first | (refine aN (fun h=>?_) (fun h=>?_)<;>(try simp [-List.getD_eq_getElem?_getD,-Int.pred_toNat] at h)<;>(try (exfalso; first | omega | contradiction))) | (refine rNG ?_) | (refine bN2 ?_) | (refine bN3 ?_) | (intro _)))
   refine congrArg (AV.i .i64) ?_
   unfold defI
   rw [he,if_pos hi]
  | false =>
   have he:=ixD_miss (q:=fun d=>d.name == n) hi hI hq
   have hq2:¬ s.defs[i].name = n:=ne_of_beq_false hq
   (repeat' (first | (refine aN (fun h=>?_) (fun h=>?_)<;>(try simp [-List.getD_eq_getElem?_getD,-Int.pred_toNat] at h)<;>(try (exfalso; first | omega | contradiction))) | (refine rNG ?_) | (refine bN2 ?_) | (refine bN3 ?_) | (intro _)))
   refine eX [] (eX (_ + 1) (aN ⟨hi,he⟩ (aN ?_ ?_)))
   ·(repeat' (first | exact trivial | exact Or.inl rfl | exact Or.inr (Or.inl ⟨rfl,_,rfl⟩) | exact Or.inr (Or.inr (Or.inr ⟨_,_,_,rfl,rfl⟩)) | refine aN ?_ ?_))
   ·(exact Nat.sub_lt_sub_left (by omega) (by omega))
 ·(have hi:=geD hi hz)
  refine congrArg (AV.i .i64) ?_
  unfold defI
  rw [if_neg (by omega)]
theorem s_defOf (s:SchemaR) (n:Str) (hl:s.defs.length≤2000000):PSpec Tryd.prog 155 [.agg (encSch s),.s n] (.i .i64 (defI s.defs n)) :=
 pspec_of_vc Γ_good Tryd.func155 rfl Tryd.call155 Tryd.results155 Tryd.ntmps155 (Nat.le_of_ble_eq_true rfl) (w_defOf s n hl)
theorem w_withinR (t:TypR) (ht:t.t.length≤2000000) (hf:t.f.length≤2000000):vc Tryd.prog Γ 23 [1,2,3,5,10,11,12,13] (Tryd.f153.body.getD .skip) (postNK (τ:=.typ) Γ [.tmp 2] 1000 (Ty.inside t) []) ⟨argSlots 0 [.agg (encTyp t)],[]⟩:=by
 (repeat' (first | (refine aN (fun h=>?_) (fun h=>?_)<;>(try simp [-List.getD_eq_getElem?_getD,-Int.pred_toNat] at h)<;>(try (exfalso; first | omega | contradiction))) | (refine rNG ?_) | (refine bN2 ?_) | (refine bN3 ?_) | (intro _)))
 refine aN (show t.t.length * 112≤140737488355328 by omega) ?_
 (repeat' (first | (refine aN (fun h=>?_) (fun h=>?_)<;>(try simp [-List.getD_eq_getElem?_getD,-Int.pred_toNat] at h)<;>(try (exfalso; first | omega | contradiction))) | (refine rNG ?_) | (refine bN2 ?_) | (refine bN3 ?_) | (intro _)))
 refine eX [] (eX [] (eX [] (eX Nat (eX (fun i=>i≤(t.f).length∧(0≤i)) (eX (fun i=>⟨[(3,.vec 8 .typ (insI t i)),(10,.rd .fld t.f),(11,.i .i64 t.f.length),(12,.i .i64 i)],[]⟩) (eX (fun i=>(t.f).length - i) (eX 0 (aN ⟨Nat.zero_le _,(Nat.zero_le _)⟩ (aN ?_ ?_)))))))))
 ·(repeat' (first | exact trivial | exact Or.inl rfl | exact Or.inr (Or.inl ⟨rfl,_,rfl⟩) | exact Or.inr (Or.inr (Or.inr ⟨_,_,_,rfl,rfl⟩)) | refine aN ?_ ?_))
 rintro i ⟨hi,hI⟩
 refine aN (fun hz=>?_) (fun hz=>?_)
 ·have hi:=ltD hz
  have hg:=getI (τ:=.fld) hi
  refine bN2 ?_
  rw [hg]
  have hn:=insI_len t i
  have hs:=insI_succ hi
  (repeat' (first | (refine aN (fun h=>?_) (fun h=>?_)<;>(try simp [-List.getD_eq_getElem?_getD,-Int.pred_toNat] at h)<;>(try (exfalso; first | omega | contradiction))) | (refine rNG ?_) | (refine bN2 ?_) | (refine bN3 ?_) | (intro _)))
  refine aN (show ((insI t i).length + 1) * 112≤140737488355328 by omega) ?_
  (repeat' (first | (refine aN (fun h=>?_) (fun h=>?_)<;>(try simp [-List.getD_eq_getElem?_getD,-Int.pred_toNat] at h)<;>(try (exfalso; first | omega | contradiction))) | (refine rNG ?_) | (refine bN2 ?_) | (refine bN3 ?_) | (intro _)))
  refine eX [(20,8)] (eX (_ + 1) (aN ⟨hi,Nat.zero_le _⟩ (aN ?_ ?_)))
  ·dsimp only
   rw [hs,etaT]
   (repeat' (first | exact trivial | exact Or.inl rfl | exact Or.inr (Or.inl ⟨rfl,_,rfl⟩) | exact Or.inr (Or.inr (Or.inr ⟨_,_,_,rfl,rfl⟩)) | refine aN ?_ ?_))
  ·(exact Nat.sub_lt_sub_left (by omega) (by omega))
 ·(have hi:=geD hi hz)
  have he:insI t i = Ty.inside t:=insI_end hi
  rw [he]
  refine Or.inl ?_
  refine eX [(8,1000)] (aN rfl (by (repeat' (first | exact trivial | exact Or.inl rfl | exact Or.inr (Or.inl ⟨rfl,_,rfl⟩) | exact Or.inr (Or.inr (Or.inr ⟨_,_,_,rfl,rfl⟩)) | refine aN ?_ ?_))))
theorem s_withinR (t:TypR) (ht:t.t.length≤2000000) (hf:t.f.length≤2000000):CSpec Tryd.prog 153 [.agg (encTyp t)] [] (.vec 1000 .typ (Ty.inside t)) [] :=
 cspec_of_vcN Γ_good Tryd.func153 rfl Tryd.call153 Tryd.results153 Tryd.ntmps153 (Nat.le_of_ble_eq_true rfl) (Nat.le_of_ble_eq_true rfl) (by rfl) (by rfl) (w_withinR t ht hf)
end
end Go.Proofs.YtdcdmojbkmedpaaDoor
end
section
namespace Go.Proofs.YtdcdmojbkmedpaaDoor
open Go Go.SX Go.Ck Go.Vl Go.Ut Go.Ty
set_option maxRecDepth 100000
set_option maxHeartbeats 4000000
def tellsK (a k:Int):Bool:=if k≤3 then a == 1 || a == k + 2 else if k = 4 then a == 1 || (a == 6 || a == 7) else if k = 5 then a == 1 || a == 8 else a == 1 || (a == 9 || a == 10)
section
variable [G:Globs]
theorem w_tells (t:TypR) (k:Int) (h0:0≤k) (h1:k≤6):vc Tryd.prog Γ 63 [1,2,4,5,6,23,38,48] (Tryd.f42.body.getD .skip) (postK Γ [.tmp 4] (fun v=>v = .b (tellsK t.kind k))) ⟨argSlots 0 [.agg (encTyp t),.i .i64 k],[]⟩:=by
 have hk:k = 0∨k = 1∨k = 2∨k = 3∨k = 4∨k = 5∨k = 6:=by omega
 rcases hk with rfl | rfl | rfl | rfl | rfl | rfl | rfl
 ·by_cases c1:t.kind = 1
  ·have hr:tellsK t.kind 0 = true:=by rw [c1]; rfl
   rw [hr]
   (repeat' (first | (refine aN (fun h=>?_) (fun h=>?_)<;>(try simp [-List.getD_eq_getElem?_getD,-Int.pred_toNat] at h)<;>(try (exfalso; first | omega | contradiction))) | (refine rNG ?_) | (refine bN2 ?_) | (refine bN3 ?_) | (intro _)))
   refine eX [.blk [0,1,2,3,4,5,6,7,8,9,10,11,12] [17]] (aN (by kernel_rfl) ?_)
   (repeat' (first | (refine aN (fun h=>?_) (fun h=>?_)<;>(try simp [-List.getD_eq_getElem?_getD,-Int.pred_toNat] at h)<;>(try (exfalso; first | omega | contradiction))) | (refine rNG ?_) | (refine bN2 ?_) | (refine bN3 ?_) | (intro _)))
   all_goals rfl
  by_cases c2:t.kind = 2
  ·have hr:tellsK t.kind 0 = true:=by rw [c2]; rfl
   rw [hr]
   (repeat' (first | (refine aN (fun h=>?_) (fun h=>?_)<;>(try simp [-List.getD_eq_getElem?_getD,-Int.pred_toNat] at h)<;>(try (exfalso; first | omega | contradiction))) | (refine rNG ?_) | (refine bN2 ?_) | (refine bN3 ?_) | (intro _)))
   refine eX [.blk [0,1,2,3,4,5,6,7,8,9,10,11,12] [17]] (aN (by kernel_rfl) ?_)
   (repeat' (first | (refine aN (fun h=>?_) (fun h=>?_)<;>(try simp [-List.getD_eq_getElem?_getD,-Int.pred_toNat] at h)<;>(try (exfalso; first | omega | contradiction))) | (refine rNG ?_) | (refine bN2 ?_) | (refine bN3 ?_) | (intro _)))
   refine aN (aN (show (0:Int)≤0 by decide) (show (0:Int) < 4 by decide)) ?_
   (repeat' (first | (refine aN (fun h=>?_) (fun h=>?_)<;>(try simp [-List.getD_eq_getElem?_getD,-Int.pred_toNat] at h)<;>(try (exfalso; first | omega | contradiction))) | (refine rNG ?_) | (refine bN2 ?_) | (refine bN3 ?_) | (intro _)))
   refine congrArg AV.b ?_
   show (t.kind == 2) = true
   exact beq_iff_eq.2 c2
  have hr:tellsK t.kind 0 = false:=by
   show (t.kind == 1 || t.kind == 2) = false
   rw [beq_eq_false_iff_ne.2 c1,beq_eq_false_iff_ne.2 c2]
   rfl
  rw [hr]
  (repeat' (first | (refine aN (fun h=>?_) (fun h=>?_)<;>(try simp [-List.getD_eq_getElem?_getD,-Int.pred_toNat] at h)<;>(try (exfalso; first | omega | contradiction))) | (refine rNG ?_) | (refine bN2 ?_) | (refine bN3 ?_) | (intro _)))
  refine eX [.blk [0,1,2,3,4,5,6,7,8,9,10,11,12] [17]] (aN (by kernel_rfl) ?_)
  (repeat' (first | (refine aN (fun h=>?_) (fun h=>?_)<;>(try simp [-List.getD_eq_getElem?_getD,-Int.pred_toNat] at h)<;>(try (exfalso; first | omega | contradiction))) | (refine rNG ?_) | (refine bN2 ?_) | (refine bN3 ?_) | (intro _)))
  refine aN (aN (show (0:Int)≤0 by decide) (show (0:Int) < 4 by decide)) ?_
  (repeat' (first | (refine aN (fun h=>?_) (fun h=>?_)<;>(try simp [-List.getD_eq_getElem?_getD,-Int.pred_toNat] at h)<;>(try (exfalso; first | omega | contradiction))) | (refine rNG ?_) | (refine bN2 ?_) | (refine bN3 ?_) | (intro _)))
  refine congrArg AV.b ?_
  show (t.kind == 2) = false
  exact beq_eq_false_iff_ne.2 c2
 ·by_cases c1:t.kind = 1
  ·have hr:tellsK t.kind 1 = true:=by rw [c1]; rfl
   rw [hr]
   (repeat' (first | (refine aN (fun h=>?_) (fun h=>?_)<;>(try simp [-List.getD_eq_getElem?_getD,-Int.pred_toNat] at h)<;>(try (exfalso; first | omega | contradiction))) | (refine rNG ?_) | (refine bN2 ?_) | (refine bN3 ?_) | (intro _)))
   refine eX [.blk [0,1,2,3,4,5,6,7,8,9,10,11,12] [17]] (aN (by kernel_rfl) ?_)
   (repeat' (first | (refine aN (fun h=>?_) (fun h=>?_)<;>(try simp [-List.getD_eq_getElem?_getD,-Int.pred_toNat] at h)<;>(try (exfalso; first | omega | contradiction))) | (refine rNG ?_) | (refine bN2 ?_) | (refine bN3 ?_) | (intro _)))
   all_goals rfl
  by_cases c3:t.kind = 3
  ·have hr:tellsK t.kind 1 = true:=by rw [c3]; rfl
   rw [hr]
   (repeat' (first | (refine aN (fun h=>?_) (fun h=>?_)<;>(try simp [-List.getD_eq_getElem?_getD,-Int.pred_toNat] at h)<;>(try (exfalso; first | omega | contradiction))) | (refine rNG ?_) | (refine bN2 ?_) | (refine bN3 ?_) | (intro _)))
   refine eX [.blk [0,1,2,3,4,5,6,7,8,9,10,11,12] [17]] (aN (by kernel_rfl) ?_)
   (repeat' (first | (refine aN (fun h=>?_) (fun h=>?_)<;>(try simp [-List.getD_eq_getElem?_getD,-Int.pred_toNat] at h)<;>(try (exfalso; first | omega | contradiction))) | (refine rNG ?_) | (refine bN2 ?_) | (refine bN3 ?_) | (intro _)))
   refine aN (aN (show (0:Int)≤1 by decide) (show (1:Int) < 4 by decide)) ?_
   (repeat' (first | (refine aN (fun h=>?_) (fun h=>?_)<;>(try simp [-List.getD_eq_getElem?_getD,-Int.pred_toNat] at h)<;>(try (exfalso; first | omega | contradiction))) | (refine rNG ?_) | (refine bN2 ?_) | (refine bN3 ?_) | (intro _)))
   refine congrArg AV.b ?_
   show (t.kind == 3) = true
   exact beq_iff_eq.2 c3
  have hr:tellsK t.kind 1 = false:=by
   show (t.kind == 1 || t.kind == 3) = false
   rw [beq_eq_false_iff_ne.2 c1,beq_eq_false_iff_ne.2 c3]
   rfl
  rw [hr]
  (repeat' (first | (refine aN (fun h=>?_) (fun h=>?_)<;>(try simp [-List.getD_eq_getElem?_getD,-Int.pred_toNat] at h)<;>(try (exfalso; first | omega | contradiction))) | (refine rNG ?_) | (refine bN2 ?_) | (refine bN3 ?_) | (intro _)))
  refine eX [.blk [0,1,2,3,4,5,6,7,8,9,10,11,12] [17]] (aN (by kernel_rfl) ?_)
  (repeat' (first | (refine aN (fun h=>?_) (fun h=>?_)<;>(try simp [-List.getD_eq_getElem?_getD,-Int.pred_toNat] at h)<;>(try (exfalso; first | omega | contradiction))) | (refine rNG ?_) | (refine bN2 ?_) | (refine bN3 ?_) | (intro _)))
  refine aN (aN (show (0:Int)≤1 by decide) (show (1:Int) < 4 by decide)) ?_
  (repeat' (first | (refine aN (fun h=>?_) (fun h=>?_)<;>(try simp [-List.getD_eq_getElem?_getD,-Int.pred_toNat] at h)<;>(try (exfalso; first | omega | contradiction))) | (refine rNG ?_) | (refine bN2 ?_) | (refine bN3 ?_) | (intro _)))
  refine congrArg AV.b ?_
  show (t.kind == 3) = false
  exact beq_eq_false_iff_ne.2 c3
 ·by_cases c1:t.kind = 1
  ·have hr:tellsK t.kind 2 = true:=by rw [c1]; rfl
   rw [hr]
   (repeat' (first | (refine aN (fun h=>?_) (fun h=>?_)<;>(try simp [-List.getD_eq_getElem?_getD,-Int.pred_toNat] at h)<;>(try (exfalso; first | omega | contradiction))) | (refine rNG ?_) | (refine bN2 ?_) | (refine bN3 ?_) | (intro _)))
   refine eX [.blk [0,1,2,3,4,5,6,7,8,9,10,11,12] [17]] (aN (by kernel_rfl) ?_)
   (repeat' (first | (refine aN (fun h=>?_) (fun h=>?_)<;>(try simp [-List.getD_eq_getElem?_getD,-Int.pred_toNat] at h)<;>(try (exfalso; first | omega | contradiction))) | (refine rNG ?_) | (refine bN2 ?_) | (refine bN3 ?_) | (intro _)))
   all_goals rfl
  by_cases c4:t.kind = 4
  ·have hr:tellsK t.kind 2 = true:=by rw [c4]; rfl
   rw [hr]
   (repeat' (first | (refine aN (fun h=>?_) (fun h=>?_)<;>(try simp [-List.getD_eq_getElem?_getD,-Int.pred_toNat] at h)<;>(try (exfalso; first | omega | contradiction))) | (refine rNG ?_) | (refine bN2 ?_) | (refine bN3 ?_) | (intro _)))
   refine eX [.blk [0,1,2,3,4,5,6,7,8,9,10,11,12] [17]] (aN (by kernel_rfl) ?_)
   (repeat' (first | (refine aN (fun h=>?_) (fun h=>?_)<;>(try simp [-List.getD_eq_getElem?_getD,-Int.pred_toNat] at h)<;>(try (exfalso; first | omega | contradiction))) | (refine rNG ?_) | (refine bN2 ?_) | (refine bN3 ?_) | (intro _)))
   refine aN (aN (show (0:Int)≤2 by decide) (show (2:Int) < 4 by decide)) ?_
   (repeat' (first | (refine aN (fun h=>?_) (fun h=>?_)<;>(try simp [-List.getD_eq_getElem?_getD,-Int.pred_toNat] at h)<;>(try (exfalso; first | omega | contradiction))) | (refine rNG ?_) | (refine bN2 ?_) | (refine bN3 ?_) | (intro _)))
   refine congrArg AV.b ?_
   show (t.kind == 4) = true
   exact beq_iff_eq.2 c4
  have hr:tellsK t.kind 2 = false:=by
   show (t.kind == 1 || t.kind == 4) = false
   rw [beq_eq_false_iff_ne.2 c1,beq_eq_false_iff_ne.2 c4]
   rfl
  rw [hr]
  (repeat' (first | (refine aN (fun h=>?_) (fun h=>?_)<;>(try simp [-List.getD_eq_getElem?_getD,-Int.pred_toNat] at h)<;>(try (exfalso; first | omega | contradiction))) | (refine rNG ?_) | (refine bN2 ?_) | (refine bN3 ?_) | (intro _)))
  refine eX [.blk [0,1,2,3,4,5,6,7,8,9,10,11,12] [17]] (aN (by kernel_rfl) ?_)
  (repeat' (first | (refine aN (fun h=>?_) (fun h=>?_)<;>(try simp [-List.getD_eq_getElem?_getD,-Int.pred_toNat] at h)<;>(try (exfalso; first | omega | contradiction))) | (refine rNG ?_) | (refine bN2 ?_) | (refine bN3 ?_) | (intro _)))
  refine aN (aN (show (0:Int)≤2 by decide) (show (2:Int) < 4 by decide)) ?_
  (repeat' (first | (refine aN (fun h=>?_) (fun h=>?_)<;>(try simp [-List.getD_eq_getElem?_getD,-Int.pred_toNat] at h)<;>(try (exfalso; first | omega | contradiction))) | (refine rNG ?_) | (refine bN2 ?_) | (refine bN3 ?_) | (intro _)))
  refine congrArg AV.b ?_
  show (t.kind == 4) = false
  exact beq_eq_false_iff_ne.2 c4
 ·by_cases c1:t.kind = 1
  ·have hr:tellsK t.kind 3 = true:=by rw [c1]; rfl
   rw [hr]
   (repeat' (first | (refine aN (fun h=>?_) (fun h=>?_)<;>(try simp [-List.getD_eq_getElem?_getD,-Int.pred_toNat] at h)<;>(try (exfalso; first | omega | contradiction))) | (refine rNG ?_) | (refine bN2 ?_) | (refine bN3 ?_) | (intro _)))
   refine eX [.blk [0,1,2,3,4,5,6,7,8,9,10,11,12] [17]] (aN (by kernel_rfl) ?_)
   (repeat' (first | (refine aN (fun h=>?_) (fun h=>?_)<;>(try simp [-List.getD_eq_getElem?_getD,-Int.pred_toNat] at h)<;>(try (exfalso; first | omega | contradiction))) | (refine rNG ?_) | (refine bN2 ?_) | (refine bN3 ?_) | (intro _)))
   all_goals rfl
  by_cases c5:t.kind = 5
  ·have hr:tellsK t.kind 3 = true:=by rw [c5]; rfl
   rw [hr]
   (repeat' (first | (refine aN (fun h=>?_) (fun h=>?_)<;>(try simp [-List.getD_eq_getElem?_getD,-Int.pred_toNat] at h)<;>(try (exfalso; first | omega | contradiction))) | (refine rNG ?_) | (refine bN2 ?_) | (refine bN3 ?_) | (intro _)))
   refine eX [.blk [0,1,2,3,4,5,6,7,8,9,10,11,12] [17]] (aN (by kernel_rfl) ?_)
   (repeat' (first | (refine aN (fun h=>?_) (fun h=>?_)<;>(try simp [-List.getD_eq_getElem?_getD,-Int.pred_toNat] at h)<;>(try (exfalso; first | omega | contradiction))) | (refine rNG ?_) | (refine bN2 ?_) | (refine bN3 ?_) | (intro _)))
   refine aN (aN (show (0:Int)≤3 by decide) (show (3:Int) < 4 by decide)) ?_
   (repeat' (first | (refine aN (fun h=>?_) (fun h=>?_)<;>(try simp [-List.getD_eq_getElem?_getD,-Int.pred_toNat] at h)<;>(try (exfalso; first | omega | contradiction))) | (refine rNG ?_) | (refine bN2 ?_) | (refine bN3 ?_) | (intro _)))
   refine congrArg AV.b ?_
   show (t.kind == 5) = true
   exact beq_iff_eq.2 c5
  have hr:tellsK t.kind 3 = false:=by
   show (t.kind == 1 || t.kind == 5) = false
   rw [beq_eq_false_iff_ne.2 c1,beq_eq_false_iff_ne.2 c5]
   rfl
  rw [hr]
  (repeat' (first | (refine aN (fun h=>?_) (fun h=>?_)<;>(try simp [-List.getD_eq_getElem?_getD,-Int.pred_toNat] at h)<;>(try (exfalso; first | omega | contradiction))) | (refine rNG ?_) | (refine bN2 ?_) | (refine bN3 ?_) | (intro _)))
  refine eX [.blk [0,1,2,3,4,5,6,7,8,9,10,11,12] [17]] (aN (by kernel_rfl) ?_)
  (repeat' (first | (refine aN (fun h=>?_) (fun h=>?_)<;>(try simp [-List.getD_eq_getElem?_getD,-Int.pred_toNat] at h)<;>(try (exfalso; first | omega | contradiction))) | (refine rNG ?_) | (refine bN2 ?_) | (refine bN3 ?_) | (intro _)))
  refine aN (aN (show (0:Int)≤3 by decide) (show (3:Int) < 4 by decide)) ?_
  (repeat' (first | (refine aN (fun h=>?_) (fun h=>?_)<;>(try simp [-List.getD_eq_getElem?_getD,-Int.pred_toNat] at h)<;>(try (exfalso; first | omega | contradiction))) | (refine rNG ?_) | (refine bN2 ?_) | (refine bN3 ?_) | (intro _)))
  refine congrArg AV.b ?_
  show (t.kind == 5) = false
  exact beq_eq_false_iff_ne.2 c5
 ·by_cases c1:t.kind = 1
  ·have hr:tellsK t.kind 4 = true:=by rw [c1]; rfl
   rw [hr]
   (repeat' (first | (refine aN (fun h=>?_) (fun h=>?_)<;>(try simp [-List.getD_eq_getElem?_getD,-Int.pred_toNat] at h)<;>(try (exfalso; first | omega | contradiction))) | (refine rNG ?_) | (refine bN2 ?_) | (refine bN3 ?_) | (intro _)))
   all_goals rfl
  by_cases c6:t.kind = 6
  ·have hr:tellsK t.kind 4 = true:=by rw [c6]; rfl
   rw [hr]
   (repeat' (first | (refine aN (fun h=>?_) (fun h=>?_)<;>(try simp [-List.getD_eq_getElem?_getD,-Int.pred_toNat] at h)<;>(try (exfalso; first | omega | contradiction))) | (refine rNG ?_) | (refine bN2 ?_) | (refine bN3 ?_) | (intro _)))
   all_goals rfl
  by_cases c7:t.kind = 7
  ·have hr:tellsK t.kind 4 = true:=by rw [c7]; rfl
   rw [hr]
   (repeat' (first | (refine aN (fun h=>?_) (fun h=>?_)<;>(try simp [-List.getD_eq_getElem?_getD,-Int.pred_toNat] at h)<;>(try (exfalso; first | omega | contradiction))) | (refine rNG ?_) | (refine bN2 ?_) | (refine bN3 ?_) | (intro _)))
   show AV.b (t.kind == 7) = AV.b true
   rw [beq_iff_eq.2 c7]
  have hr:tellsK t.kind 4 = false:=by
   show (t.kind == 1 || (t.kind == 6 || t.kind == 7)) = false
   rw [beq_eq_false_iff_ne.2 c1,beq_eq_false_iff_ne.2 c6,beq_eq_false_iff_ne.2 c7]
   rfl
  rw [hr]
  (repeat' (first | (refine aN (fun h=>?_) (fun h=>?_)<;>(try simp [-List.getD_eq_getElem?_getD,-Int.pred_toNat] at h)<;>(try (exfalso; first | omega | contradiction))) | (refine rNG ?_) | (refine bN2 ?_) | (refine bN3 ?_) | (intro _)))
  show AV.b (t.kind == 7) = AV.b false
  rw [beq_eq_false_iff_ne.2 c7]
 ·by_cases c1:t.kind = 1
  ·have hr:tellsK t.kind 5 = true:=by rw [c1]; rfl
   rw [hr]
   (repeat' (first | (refine aN (fun h=>?_) (fun h=>?_)<;>(try simp [-List.getD_eq_getElem?_getD,-Int.pred_toNat] at h)<;>(try (exfalso; first | omega | contradiction))) | (refine rNG ?_) | (refine bN2 ?_) | (refine bN3 ?_) | (intro _)))
   all_goals rfl
  by_cases c8:t.kind = 8
  ·have hr:tellsK t.kind 5 = true:=by rw [c8]; rfl
   rw [hr]
   (repeat' (first | (refine aN (fun h=>?_) (fun h=>?_)<;>(try simp [-List.getD_eq_getElem?_getD,-Int.pred_toNat] at h)<;>(try (exfalso; first | omega | contradiction))) | (refine rNG ?_) | (refine bN2 ?_) | (refine bN3 ?_) | (intro _)))
   show AV.b (t.kind == 8) = AV.b true
   rw [beq_iff_eq.2 c8]
  have hr:tellsK t.kind 5 = false:=by
   show (t.kind == 1 || t.kind == 8) = false
   rw [beq_eq_false_iff_ne.2 c1,beq_eq_false_iff_ne.2 c8]
   rfl
  rw [hr]
  (repeat' (first | (refine aN (fun h=>?_) (fun h=>?_)<;>(try simp [-List.getD_eq_getElem?_getD,-Int.pred_toNat] at h)<;>(try (exfalso; first | omega | contradiction))) | (refine rNG ?_) | (refine bN2 ?_) | (refine bN3 ?_) | (intro _)))
  show AV.b (t.kind == 8) = AV.b false
  rw [beq_eq_false_iff_ne.2 c8]
 ·by_cases c1:t.kind = 1
  ·have hr:tellsK t.kind 6 = true:=by rw [c1]; rfl
   rw [hr]
   (repeat' (first | (refine aN (fun h=>?_) (fun h=>?_)<;>(try simp [-List.getD_eq_getElem?_getD,-Int.pred_toNat] at h)<;>(try (exfalso; first | omega | contradiction))) | (refine rNG ?_) | (refine bN2 ?_) | (refine bN3 ?_) | (intro _)))
   all_goals rfl
  by_cases c9:t.kind = 9
  ·have hr:tellsK t.kind 6 = true:=by rw [c9]; rfl
   rw [hr]
   (repeat' (first | (refine aN (fun h=>?_) (fun h=>?_)<;>(try simp [-List.getD_eq_getElem?_getD,-Int.pred_toNat] at h)<;>(try (exfalso; first | omega | contradiction))) | (refine rNG ?_) | (refine bN2 ?_) | (refine bN3 ?_) | (intro _)))
   all_goals rfl
  by_cases c10:t.kind = 10
  ·have hr:tellsK t.kind 6 = true:=by rw [c10]; rfl
   rw [hr]
   (repeat' (first | (refine aN (fun h=>?_) (fun h=>?_)<;>(try simp [-List.getD_eq_getElem?_getD,-Int.pred_toNat] at h)<;>(try (exfalso; first | omega | contradiction))) | (refine rNG ?_) | (refine bN2 ?_) | (refine bN3 ?_) | (intro _)))
   show AV.b (t.kind == 10) = AV.b true
   rw [beq_iff_eq.2 c10]
  have hr:tellsK t.kind 6 = false:=by
   show (t.kind == 1 || (t.kind == 9 || t.kind == 10)) = false
   rw [beq_eq_false_iff_ne.2 c1,beq_eq_false_iff_ne.2 c9,beq_eq_false_iff_ne.2 c10]
   rfl
  rw [hr]
  (repeat' (first | (refine aN (fun h=>?_) (fun h=>?_)<;>(try simp [-List.getD_eq_getElem?_getD,-Int.pred_toNat] at h)<;>(try (exfalso; first | omega | contradiction))) | (refine rNG ?_) | (refine bN2 ?_) | (refine bN3 ?_) | (intro _)))
  show AV.b (t.kind == 10) = AV.b false
  rw [beq_eq_false_iff_ne.2 c10]
theorem s_tells (t:TypR) (k:Int) (h0:0≤k) (h1:k≤6):PSpec Tryd.prog 42 [.agg (encTyp t),.i .i64 k] (.b (tellsK t.kind k)) :=
 pspec_of_vc Γ_good Tryd.func42 rfl Tryd.call42 Tryd.results42 Tryd.ntmps42 (Nat.le_of_ble_eq_true rfl) (w_tells t k h0 h1)
end
end Go.Proofs.YtdcdmojbkmedpaaDoor
end
section
namespace Go.Ty
theorem szB {n b:Nat} (h1:n≤1000000000) (h2:b≤100000):n * b≤140737488355328:=Nat.le_trans (Nat.mul_le_mul h1 h2) (by decide)
open Go Go.SX Go.Ck Go.Vl Go.Ut
/-! all types, from a list of places -/
def goneF (l:List TPlace):List TPlace:=l.flatMap fun p=>preT p.t p.around
theorem goneF_step (x:TPlace) (r:List TPlace):goneF (x::r) = x::goneF ((inside x.t).map (fun y=>(⟨y,x.around + 1⟩:TPlace))++r):=by
 unfold goneF
 rw [List.flatMap_cons,preT_eq,List.flatMap_append,List.cons_append,List.flatMap_map]
theorem scan_take (l:List DefR):∀ (ps:List TPlace) (m:Nat),m≤200→scan l (ps.take (201 - m)) (m:Int) = scan l ps (m:Int):=by
 intro ps
 induction ps with
 | nil=>intro m _; rw [List.take_nil]
 | cons p r ih =>
  intro m hm
  rw [show 201 - m = (200 - m) + 1 by omega,List.take_succ_cons,scan,scan]
  by_cases c:lookF l p m≠0
  ·rw [if_pos c,if_pos c]
  ·rw [if_neg c,if_neg c]
   have h1:m + 1≤200:=by
    refine Nat.le_of_not_lt fun h=>c ?_
    unfold lookF
    rw [if_pos (by omega)]
    decide
   have:=ih (m + 1) h1
   rw [show 201 - (m + 1) = 200 - m by omega] at this
   exact this
theorem gone_end {A all todo:List TPlace} (h:all++goneF todo = A) (hl:all.length≤201) (he:todo = []∨all.length = 201):all = A.take 201:=by
 subst h
 rcases he with rfl | he
 ·show all = (all++[]).take 201
  rw [List.append_nil,List.take_of_length_le hl]
 ·rw [List.take_append_of_le_length (by omega),List.take_of_length_le hl]
/-! what a list of types comes to -/
theorem comeL_append (f:TypR→Met→List TypR × Met):∀ (a b:List TypR) (es:Met),comeL f (a++b) es = ((comeL f a es).1++(comeL f b (comeL f a es).2).1,(comeL f b (comeL f a es).2).2)
 | [],_,_=>rfl
 | x::r,b,es=>by
  rw [List.cons_append,comeL,comeL_append f r b,comeL]
  simp only [List.append_assoc]
theorem comeL_congr {f g:TypR→Met→List TypR × Met} (hm:∀ x es n,met es n = true→met (f x es).2 n = true):∀ (r:List TypR) (es:Met),(∀ x ∈ r,∀ fs:Met,(∀ n,met es n = true→met fs n = true)→g x fs = f x fs)→comeL g r es = comeL f r es
 | [],_,_=>rfl
 | x::r,es,h=>by
  rw [comeL,comeL,h x (List.mem_cons_self ..) es (fun _ h=>h),comeL_congr hm r _ fun y hy fs hf=>h y (List.mem_cons_of_mem _ hy) fs fun n hn=>hf n (hm x es n hn)]
theorem come_step (l:List DefR) (k:Nat) (t:TypR) (es:Met):comeF l (k + 1) t es = if t.kind = 12 then (if met es t.name = true then ([],es) else comeF l k (defT l t.name) (meet es t.name)) else if t.kind = 11 then comeL (comeF l k) t.t es else ([t],es):=rfl
theorem come_fuel {l:List DefR} (hl:∀ d ∈ l,CT l d.t):∀ (k:Nat) (t:TypR) (es:Met),CT l t→need l t es < k→comeF l (k + 1) t es = comeF l k t es:=by
 intro k
 induction k with
 | zero=>intro t es _ h; exact absurd h (Nat.not_lt_zero _)
 | succ k ih =>
  intro t es ht hk
  rw [come_step l (k + 1) t es,come_step l k t es]
  by_cases c1:t.kind = 12
  ·rw [if_pos c1,if_pos c1]
   by_cases c2:met es t.name = true
   ·rw [if_pos c2,if_pos c2]
   ·rw [if_neg c2,if_neg c2]
    have h0:0≤defI l t.name:=by cases ht with | mk _ _ h _=>exact h c1
    have:=need_ref h0 (es:=es) (by simpa using c2)
    exact ih _ _ (CT.defT hl h0) (by omega)
  ·rw [if_neg c1,if_neg c1]
   by_cases c3:t.kind = 11
   ·rw [if_pos c3,if_pos c3]
    refine comeL_congr (come_met l k) _ _ fun x hx fs hf=>ih x fs (ht.part x hx) ?_
    have:=need_part (l:=l) (es:=es) (fs:=fs) hx hf
    omega
   ·rw [if_neg c3,if_neg c3]
noncomputable def szL (r:List TypR):Nat:=(r.map fun t=>SizeOf.sizeOf t).sum
theorem szL_cons (x:TypR) (r:List TypR):szL (x::r) = SizeOf.sizeOf x + szL r:=by unfold szL; rw [List.map_cons,List.sum_cons]
theorem szL_append (a b:List TypR):szL (a++b) = szL a + szL b:=by unfold szL; rw [List.map_append,List.sum_append]
theorem szL_le:∀ r:List TypR,szL r < SizeOf.sizeOf r
 | []=>by show 0 < _; simp
 | x::r=>by
  have:=szL_le r
  rw [szL_cons,List.cons.sizeOf_spec]
  omega
theorem szL_part (t:TypR):szL t.t < SizeOf.sizeOf t:=by
 have:=szL_le t.t
 obtain ⟨k,lo,hi,tx,tt,ff,n⟩:=t
 simp only [TypR.mk.sizeOf_spec] at *
 omega
theorem sz_pos (t:TypR):0 < SizeOf.sizeOf t:=by cases t; simp only [TypR.mk.sizeOf_spec]; omega
noncomputable def wkN (l:List DefR) (r:List TypR) (es:Met):Nat:=szL r + rest (fun d=>SizeOf.sizeOf d.t + 1) l es
theorem need_wk (l:List DefR) (t:TypR) (es:Met):wkN l [t] es = need l t es:=by unfold wkN need; rw [szL_cons]; show SizeOf.sizeOf t + 0 + _ = _; omega
section
variable {l:List DefR} (hl:∀ d ∈ l,CT l d.t)
theorem wk_part {k:Nat} {x:TypR} {r:List TypR} {es:Met} (h1:¬ x.kind = 12) (h2:¬ x.kind = 11):comeL (comeF l (k + 1)) (x::r) es = (x::(comeL (comeF l (k + 1)) r es).1,(comeL (comeF l (k + 1)) r es).2):=by
 have e:comeF l (k + 1) x es = ([x],es):=by rw [come_step,if_neg h1,if_neg h2]
 rw [comeL,e]
 rfl
theorem wk_met {k:Nat} {x:TypR} {r:List TypR} {es:Met} (h1:x.kind = 12) (h2:met es x.name = true):comeL (comeF l (k + 1)) (x::r) es = comeL (comeF l (k + 1)) r es:=by
 have e:comeF l (k + 1) x es = ([],es):=by rw [come_step,if_pos h1,if_pos h2]
 rw [comeL,e]
 rfl
include hl in
theorem wk_name {k:Nat} {x:TypR} {r:List TypR} {es:Met} (hx:CT l x) (hk:wkN l (x::r) es < k + 1) (h1:x.kind = 12) (h2:met es x.name = false):comeL (comeF l (k + 1)) (x::r) es = comeL (comeF l (k + 1)) (defT l x.name::r) (meet es x.name):=by
 have h0:0≤defI l x.name:=by cases hx with | mk _ _ h _=>exact h h1
 have hn:=need_ref h0 (es:=es) h2
 have hw:need l x es≤wkN l (x::r) es:=by unfold need wkN; rw [szL_cons]; omega
 have e:comeF l (k + 1) x es = comeF l (k + 1) (defT l x.name) (meet es x.name):=by
  rw [come_fuel hl k _ _ (CT.defT hl h0) (by omega),come_step l k x es,if_pos h1,if_neg (by rw [h2]; decide)]
 rw [comeL,e,comeL]
include hl in
theorem wk_union {k:Nat} {x:TypR} {r:List TypR} {es:Met} (hx:CT l x) (hk:wkN l (x::r) es < k + 1) (h1:x.kind = 11):comeL (comeF l (k + 1)) (x::r) es = comeL (comeF l (k + 1)) (x.t++r) es:=by
 have hw:need l x es≤wkN l (x::r) es:=by unfold need wkN; rw [szL_cons]; omega
 have e:comeF l (k + 1) x es = comeL (comeF l (k + 1)) x.t es:=by
  rw [come_step l k x es,if_neg (by omega),if_pos h1]
  refine (comeL_congr (come_met l k) _ _ fun y hy fs hf=>come_fuel hl k y fs (hx.part y hy) ?_).symm
  have:=need_part (l:=l) (es:=es) (fs:=fs) hy hf
  omega
 rw [comeL,e,comeL_append]
theorem wkN_name {x:TypR} {r:List TypR} {es:Met} (hx:CT l x) (h1:x.kind = 12) (h2:met es x.name = false):wkN l (defT l x.name::r) (meet es x.name) < wkN l (x::r) es:=by
 have h0:0≤defI l x.name:=by cases hx with | mk _ _ h _=>exact h h1
 have hn:=need_ref h0 (es:=es) h2
 unfold need at hn
 unfold wkN
 rw [szL_cons,szL_cons]
 omega
theorem wkN_tail {x:TypR} {r:List TypR} {es:Met}:wkN l r es < wkN l (x::r) es:=by
 have:=sz_pos x
 unfold wkN
 rw [szL_cons]
 omega
theorem wkN_union {x:TypR} {r:List TypR} {es:Met}:wkN l (x.t++r) es < wkN l (x::r) es:=by
 have:=szL_part x
 unfold wkN
 rw [szL_cons,szL_append]
 omega
end
theorem sumN_append (a b:List TypR):sumN (a++b) = sumN a + sumN b:=by unfold sumN; rw [List.map_append,List.sum_append]
theorem tyN_pos (t:TypR):1≤tyN t:=by rw [tyN_eq]; omega
theorem len_sumN:∀ r:List TypR,r.length≤sumN r
 | []=>Nat.zero_le _
 | x::r=>by
  have:=len_sumN r
  have:=tyN_pos x
  rw [sumN_cons,List.length_cons]
  omega
end Go.Ty
end
section
namespace Go.Proofs.YtdcdmojbkmedpaaDoor
open Go Go.SX Go.Ck Go.Vl Go.Ut Go.Ty
set_option maxRecDepth 100000
set_option maxHeartbeats 4000000
theorem nat_small {a:Nat} (h:a < 128):(BitVec.ofInt 64 (a:Int)).toNat = a:=by
 rw [BitVec.toNat_ofInt]
 omega
theorem or_nat {a b:Nat} (ha:a < 128) (hb:b < 128):bits .or .i64 (a:Int) (b:Int) = ((a ||| b:Nat):Int)∧a ||| b < 128:=by
 have h:a ||| b < 2 ^ 7:=Nat.or_lt_two_pow (n:=7) ha hb
 refine ⟨?_,h⟩
 show IntKind.i64.wrap ((BitVec.ofInt 64 (a:Int) ||| BitVec.ofInt 64 (b:Int)).toNat:Nat) = _
 rw [BitVec.toNat_or,nat_small ha,nat_small hb,IntKind.wrap_i64]
 generalize a ||| b = c at h ⊢
 omega
theorem and_nat {a b:Nat} (ha:a < 128) (hb:b < 128):bits .and .i64 (a:Int) (b:Int) = ((a &&& b:Nat):Int)∧a &&& b < 128:=by
 have h:a &&& b < 2 ^ 7:=Nat.and_lt_two_pow (n:=7) a hb
 refine ⟨?_,h⟩
 show IntKind.i64.wrap ((BitVec.ofInt 64 (a:Int) &&& BitVec.ofInt 64 (b:Int)).toNat:Nat) = _
 rw [BitVec.toNat_and,nat_small ha,nat_small hb,IntKind.wrap_i64]
 generalize a &&& b = c at h ⊢
 omega
def kN (k:Int):Nat:=(kindsF k).toNat
theorem kindsF_nat {k:Int} (h:1≤k∧k≤10):kindsF k = (kN k:Nat)∧kN k < 128∧∀ j,j < 7→(kN k).testBit j = tellsK k (j:Int):=by
 have hk:k = 1∨k = 2∨k = 3∨k = 4∨k = 5∨k = 6∨k = 7∨k = 8∨k = 9∨k = 10:=by omega
 rcases hk with rfl | rfl | rfl | rfl | rfl | rfl | rfl | rfl | rfl | rfl<;>exact ⟨by decide,by decide,by decide⟩
def orN (a:Nat) (l:List TypR):Nat:=l.foldl (fun a t=>a ||| kN t.kind) a
theorem orL_nat:∀ (l:List TypR),(∀ y ∈ l,isPart y)→∀ a:Nat,a < 128→orL (a:Int) l = (orN a l:Nat)∧orN a l < 128∧∀ j,j < 7→(orN a l).testBit j = (a.testBit j || l.any fun y=>tellsK y.kind (j:Int))
 | [],_,a,ha=>⟨rfl,ha,fun j _=>by rw [List.any_nil,Bool.or_false]; rfl⟩
 | x::r,h,a,ha=>by
  obtain ⟨h1,h2,h3⟩:=kindsF_nat (h x (List.mem_cons_self ..))
  have h4:=or_nat ha h2
  obtain ⟨g1,g2,g3⟩:=orL_nat r (fun y hy=>h y (List.mem_cons_of_mem _ hy)) (a ||| kN x.kind) h4.2
  refine ⟨?_,g2,fun j hj=>?_⟩
  ·show orL (bits .or .i64 (a:Int) (kindsF x.kind)) r = _
   rw [h1,h4.1]
   exact g1
  ·show (orN (a ||| kN x.kind) r).testBit j = _
   rw [g3 j hj,Nat.testBit_or,h3 j hj,List.any_cons,Bool.or_assoc]
theorem bitF_nat {a:Nat} (ha:a < 128) {j:Nat} (hj:j < 7):bitF (a:Int) j = a.testBit j:=by
 unfold bitF
 have e:min j IntKind.i64.bits = j:=Nat.min_eq_left (show j≤64 by omega)
 have e2:((a:Int).fdiv (2 ^ j)) = ((a / 2 ^ j:Nat):Int):=by
  rw [Int.fdiv_eq_ediv_of_nonneg _ (Int.le_of_lt (Int.pow_pos (by decide))),Int.natCast_ediv,Int.natCast_pow]
  rfl
 have h2:a / 2 ^ j < 128:=Nat.lt_of_le_of_lt (Nat.div_le_self _ _) ha
 rw [e,e2,show (1:Int) = ((1:Nat):Int) from rfl,(and_nat h2 (by decide)).1,Nat.and_one_is_mod,Nat.testBit_eq_decide_div_mod_eq]
 generalize a / 2 ^ j % 2 = c
 by_cases h:c = 1
 ·rw [h]; rfl
 ·rw [decide_eq_false h,beq_eq_false_iff_ne]
  omega
noncomputable def tl (l:List DefR) (x:TypR) (j:Nat):Bool:=(comeA l x).1.any fun y=>tellsK y.kind (j:Int)
theorem clF_iff {l:List DefR}:∀ (L:List TypR),(∀ x ∈ L,∀ y ∈ (comeA l x).1,isPart y)→∀ A:Nat,A < 128→(clF l (A:Int) L = 13∧∃ j,j < 7∧1 < (if A.testBit j = true then 1 else 0) + L.countP (fun x=>tl l x j))∨(clF l (A:Int) L = 0∧∀ j,j < 7→(if A.testBit j = true then 1 else 0) + L.countP (fun x=>tl l x j)≤1)
 | [],_,A,_=>.inr ⟨rfl,fun j _=>by rw [List.countP_nil]; split<;>omega⟩
 | x::r,h,A,hA=>by
  obtain ⟨h1,h2,h3⟩:=orL_nat (comeA l x).1 (h x (List.mem_cons_self ..)) 0 (by decide)
  have hb:∀ j,j < 7→(orN 0 (comeA l x).1).testBit j = tl l x j:=fun j hj=>by rw [h3 j hj,Nat.zero_testBit,Bool.false_or]; rfl
  have h1:orL 0 (comeA l x).1 = (orN 0 (comeA l x).1:Nat):=h1
  rw [clF,h1]
  generalize orN 0 (comeA l x).1 = B at h1 h2 h3 hb
  obtain ⟨a1,a2⟩:=and_nat hA h2
  obtain ⟨o1,o2⟩:=or_nat hA h2
  rw [a1,o1]
  by_cases c:A &&& B = 0
  ·rw [if_neg (by rw [c]; decide)]
   have hno:∀ j,A.testBit j = true→B.testBit j = true→False:=fun j p q=>by
    have:(A &&& B).testBit j = true:=by rw [Nat.testBit_and,p,q]; rfl
    rw [c,Nat.zero_testBit] at this
    cases this
   have key:∀ j,j < 7→(if (A ||| B).testBit j = true then 1 else 0) + r.countP (fun x=>tl l x j) = (if A.testBit j = true then 1 else 0) + (x::r).countP (fun x=>tl l x j):=fun j hj=>by
    rw [List.countP_cons,Nat.testBit_or,← hb j hj]
    cases p:A.testBit j with
    | true =>
     cases q:B.testBit j with
     | true=>exact (hno j p q).elim
     | false=>simp
    | false =>
     cases q:B.testBit j with
     | true=>simp; omega
     | false=>simp
   rcases clF_iff r (fun y hy=>h y (List.mem_cons_of_mem _ hy)) (A ||| B) o2 with ⟨g1,j,hj,g2⟩ | ⟨g1,g2⟩
   ·exact .inl ⟨g1,j,hj,by rw [← key j hj]; exact g2⟩
   ·exact .inr ⟨g1,fun j hj=>by rw [← key j hj]; exact g2 j hj⟩
  ·rw [if_pos (by omega)]
   obtain ⟨j,hj⟩:=Nat.exists_testBit_of_ne_zero c
   rw [Nat.testBit_and,Bool.and_eq_true] at hj
   have hj7:j < 7:=by
    refine Nat.lt_of_not_le fun h7=>?_
    have:=Nat.testBit_lt_two_pow (x:=A) (i:=j) (Nat.lt_of_lt_of_le hA (Nat.pow_le_pow_right (n:=2) (by decide) h7))
    rw [hj.1] at this
    cases this
   refine .inl ⟨rfl,j,hj7,?_⟩
   rw [List.countP_cons,← hb j hj7,if_pos hj.1,if_pos hj.2]
   omega
noncomputable def dcl (l:List DefR) (t:TypR):Bool:=decide (t.kind = 11) && (List.range 7).any fun j=>decide (1 < t.t.countP fun x=>tl l x j)
theorem clashF_doc {l:List DefR} (hl:∀ d ∈ l,CT l d.t) {t:TypR} (ht:CT l t):clashF l t = if dcl l t = true then 13 else 0:=by
 unfold clashF dcl
 by_cases c:t.kind = 11
 ·rw [if_pos c,decide_eq_true c,Bool.true_and]
  rcases clF_iff (l:=l) t.t (fun x hx y hy=>come_part hl _ x [] (ht.part x hx) y hy) 0 (by decide) with ⟨g1,j,hj,g2⟩ | ⟨g1,g2⟩
  ·rw [Nat.zero_testBit] at g2
   have:((List.range 7).any fun j=>decide (1 < t.t.countP fun x=>tl l x j)) = true:=List.any_eq_true.2 ⟨j,List.mem_range.2 hj,decide_eq_true (by simpa using g2)⟩
   rw [this,if_pos rfl]
   exact g1
  ·have : ((List.range 7).any fun j => decide (1 < t.t.countP fun x => tl l x j)) = false := by
    rw [List.any_eq_false]
    intro j hj
    have:=g2 j (List.mem_range.1 hj)
    rw [Nat.zero_testBit] at this
    simp at this ⊢
    exact this
   rw [this,if_neg (by decide)]
   exact g1
 ·rw [if_neg c,decide_eq_false c,Bool.false_and,if_neg (by decide)]
theorem clsF_doc {l:List DefR} (hl:∀ d ∈ l,CT l d.t):∀ ps:List TPlace,(∀ p ∈ ps,CT l p.t)→clsF l ps = if (ps.any fun p=>dcl l p.t) = true then 13 else 0
 | [],_=>by rw [clsF,List.any_nil,if_neg (by decide)]
 | p::r,h=>by
  rw [clsF,clashF_doc hl (h p (List.mem_cons_self ..)),List.any_cons,clsF_doc hl r fun q hq=>h q (List.mem_cons_of_mem _ hq)]
  cases dcl l p.t with
  | true=>simp
  | false=>simp
theorem ct_pre {l:List DefR}:∀ (k:Nat) (t:TypR),SizeOf.sizeOf t < k→CT l t→∀ a,∀ p ∈ preT t a,CT l p.t:=by
 intro k
 induction k with
 | zero=>intro t h; exact absurd h (Nat.not_lt_zero _)
 | succ k ih =>
  intro t h ht a p hp
  rw [preT_eq] at hp
  rcases List.mem_cons.1 hp with rfl | hp
  ·exact ht
  ·obtain ⟨x,hx,hp⟩:=List.mem_flatMap.1 hp
   exact ih x (by have:=size_inside hx; omega) (CT.inside ht x hx) _ p hp
theorem ct_all {s:SchemaR} (hs:SB s):∀ p ∈ allP s,CT s.defs p.t:=by
 intro p hp
 unfold allP at hp
 rcases List.mem_append.1 hp with hp | hp
 ·obtain ⟨d,hd,hp⟩:=List.mem_flatMap.1 hp
  exact ct_pre _ d.t (Nat.lt_succ_self _) (hs.defs d hd).1 _ p hp
 ·exact ct_pre _ s.root (Nat.lt_succ_self _) hs.root.1 _ p hp
end Go.Proofs.YtdcdmojbkmedpaaDoor
end
section
namespace Go.Proofs.YtdcdmojbkmedpaaDoor
open Go Go.SX Go.Ck Go.Vl Go.Ut Go.Ty
set_option maxRecDepth 100000
set_option maxHeartbeats 4000000
theorem etaTP (x:TypR) (a:Int):(⟨⟨x.kind,x.lo,x.hi,x.texts,x.t,x.f,x.name⟩,a⟩:TPlace) = ⟨x,a⟩:=by cases x; rfl
def plD (l:List DefR):List TPlace:=l.map fun d=>⟨d.t,0⟩
theorem plD_snoc {l:List DefR} {i:Nat} (h:i < l.length):plD (l.take (i + 1)) = plD (l.take i)++[⟨l[i].t,0⟩]:=by
 unfold plD
 rw [List.take_add_one,List.getElem?_eq_getElem h,List.map_append]
 rfl
theorem allP_gone (s:SchemaR):allP s = goneF (plD s.defs++[⟨s.root,0⟩]):=by
 unfold allP goneF plD
 rw [List.flatMap_append,List.flatMap_map,List.flatMap_singleton]
def kids (x:TPlace):List TPlace:=(Ty.inside x.t).map fun y=>⟨y,x.around + 1⟩
theorem kids_snoc {x:TPlace} {i:Nat} (h:i < (Ty.inside x.t).length):((Ty.inside x.t).take (i + 1)).map (fun y=>(⟨y,x.around + 1⟩:TPlace)) = ((Ty.inside x.t).take i).map (fun y=>(⟨y,x.around + 1⟩:TPlace))++[⟨(Ty.inside x.t)[i],x.around + 1⟩]:=by
 rw [List.take_add_one,List.getElem?_eq_getElem h,List.map_append]
 rfl
section
variable [G:Globs]
theorem w_gone (s:SchemaR) (hd:∀ d ∈ s.defs,TB d.t) (hr:TB s.root) (hn:s.defs.length≤2000000):vc Tryd.prog Γ 78 [1,2,3,4,6,7,8,9,10,12,14,15,16,17,40,58,59,60,61] (Tryd.f88.body.getD .skip) (postK Γ [.tmp 2,.tmp 3] (fun v=>v = .tup [.rd .typ (((allP s).take 201).map (·.t)),.rd .int (((allP s).take 201).map (·.around))])) ⟨argSlots 0 [.agg (encSch s)],[]⟩:=by
 have hA:=allP_gone s
 generalize allP s = A at hA ⊢
 (repeat' (first | (refine aN (fun h=>?_) (fun h=>?_)<;>(try simp [-List.getD_eq_getElem?_getD,-Int.pred_toNat] at h)<;>(try (exfalso; first | omega | contradiction))) | (refine rNG ?_) | (refine bN2 ?_) | (refine bN3 ?_) | (intro _)))
 refine eX [(4,4,.tplace)] (eX [] (eX [] (eX Nat (eX (fun i=>i≤(s.defs).length) (eX (fun i=>⟨[(1,.pt 1 0),(4,.vec 4 .tplace (plD (s.defs.take i))),(14,.rd .dfn s.defs),(15,.i .i64 s.defs.length),(16,.i .i64 i)],[(1,encSch s)]⟩) (eX (fun i=>(s.defs).length - i) (eX 0 (aN (Nat.zero_le _) (aN ?_ ?_)))))))))
 ·(repeat' (first | exact trivial | exact Or.inl rfl | exact Or.inr (Or.inl ⟨rfl,_,rfl⟩) | exact Or.inr (Or.inr (Or.inr ⟨_,_,_,rfl,rfl⟩)) | refine aN ?_ ?_))
 rintro i hi
 refine aN (fun hz=>?_) (fun hz=>?_)
 ·have hi:=ltD hz
  have hg:=getI (τ:=.dfn) hi
  refine bN2 ?_
  rw [hg]
  (repeat' (first | (refine aN (fun h=>?_) (fun h=>?_)<;>(try simp [-List.getD_eq_getElem?_getD,-Int.pred_toNat] at h)<;>(try (exfalso; first | omega | contradiction))) | (refine rNG ?_) | (refine bN2 ?_) | (refine bN3 ?_) | (intro _)))
  refine aN (show ((plD (s.defs.take i)).length + 1) * 120≤140737488355328 by unfold plD; rw [List.length_map,List.length_take]; omega) ?_
  (repeat' (first | (refine aN (fun h=>?_) (fun h=>?_)<;>(try simp [-List.getD_eq_getElem?_getD,-Int.pred_toNat] at h)<;>(try (exfalso; first | omega | contradiction))) | (refine rNG ?_) | (refine bN2 ?_) | (refine bN3 ?_) | (intro _)))
  refine eX [(25,4)] (eX (i + 1) (aN hi (aN ?_ ?_)))
  ·dsimp only
   rw [etaTP,plD_snoc hi]
   (repeat' (first | exact trivial | exact Or.inl rfl | exact Or.inr (Or.inl ⟨rfl,_,rfl⟩) | exact Or.inr (Or.inr (Or.inr ⟨_,_,_,rfl,rfl⟩)) | refine aN ?_ ?_))
  ·(exact Nat.sub_lt_sub_left (by omega) (by omega))
 (have hi:=geD hi hz)
 subst hi
 rw [List.take_length]
 (repeat' (first | (refine aN (fun h=>?_) (fun h=>?_)<;>(try simp [-List.getD_eq_getElem?_getD,-Int.pred_toNat] at h)<;>(try (exfalso; first | omega | contradiction))) | (refine rNG ?_) | (refine bN2 ?_) | (refine bN3 ?_) | (intro _)))
 refine aN (show ((plD s.defs).length + 1) * 120≤140737488355328 by unfold plD; rw [List.length_map]; omega) ?_
 (repeat' (first | (refine aN (fun h=>?_) (fun h=>?_)<;>(try simp [-List.getD_eq_getElem?_getD,-Int.pred_toNat] at h)<;>(try (exfalso; first | omega | contradiction))) | (refine rNG ?_) | (refine bN2 ?_) | (refine bN3 ?_) | (intro _)))
 rw [etaTP]
 refine eX [(7,7,.typ),(8,8,.int)] (eX [] (eX [(32,4)] (eX (List TPlace × List TPlace) (eX (fun q=>q.2++goneF q.1 = A∧q.2.length≤201∧q.1.length≤2000001 + 4000000 * q.2.length∧∀ p ∈ q.1,TB p.t∧0≤p.around∧p.around≤q.2.length) (eX (fun ⟨l,all⟩=>⟨[(4,.vec 4 .tplace l),(7,.vec 7 .typ (all.map (·.t))),(8,.vec 8 .int (all.map (·.around)))],[]⟩) (eX (fun q=>201 - q.2.length) (eX (plD s.defs++[(⟨s.root,0⟩:TPlace)],[]) (aN ⟨hA.symm,(by decide:0≤201),by unfold plD; simp only [List.length_append,List.length_map,List.length_cons,List.length_nil]; omega,fun p hp=>?_⟩ (aN ?_ ?_)))))))))
 ·rcases List.mem_append.1 hp with hp | hp
  ·obtain ⟨d,h1,rfl⟩:=List.mem_map.1 hp
   exact ⟨hd d h1,Int.le_refl _,Int.le_refl _⟩
  ·obtain rfl:=List.mem_singleton.1 hp
   exact ⟨hr,Int.le_refl _,Int.le_refl _⟩
 ·(repeat' (first | exact trivial | exact Or.inl rfl | exact Or.inr (Or.inl ⟨rfl,_,rfl⟩) | exact Or.inr (Or.inr (Or.inr ⟨_,_,_,rfl,rfl⟩)) | refine aN ?_ ?_))
 rintro ⟨l,all⟩ ⟨hI,hl1,hl2,hp⟩
 dsimp only at hI hl1 hl2 hp
 have fin:∀ h:l = []∨all.length = 201,(.tup [.rd .typ (all.map (·.t)),.rd .int (all.map (·.around))]:AV) = .tup [.rd .typ ((A.take 201).map (·.t)),.rd .int ((A.take 201).map (·.around))]:=fun h=>by rw [← gone_end hI hl1 h]
 cases l with
 | nil =>
  (repeat' (first | (refine aN (fun h=>?_) (fun h=>?_)<;>(try simp [-List.getD_eq_getElem?_getD,-Int.pred_toNat] at h)<;>(try (exfalso; first | omega | contradiction))) | (refine rNG ?_) | (refine bN2 ?_) | (refine bN3 ?_) | (intro _)))
  all_goals exact fin (.inl rfl)
 | cons x r =>
  by_cases h200:all.length≤200
  rotate_left
  ·(repeat' (first | (refine aN (fun h=>?_) (fun h=>?_)<;>(try simp [-List.getD_eq_getElem?_getD,-Int.pred_toNat] at h)<;>(try (exfalso; first | omega | contradiction))) | (refine rNG ?_) | (refine bN2 ?_) | (refine bN3 ?_) | (intro _)))
   all_goals exact fin (.inr (by omega))
  obtain ⟨hxb,hx0,hx1⟩:=hp x (List.mem_cons_self ..)
  rw [goneF_step] at hI
  have hW:=s_withinR x.t (by cases hxb; omega) (by cases hxb; omega)
  have hin:(Ty.inside x.t).length≤4000000:=by
   unfold Ty.inside
   rw [List.length_append,List.length_map]
   cases hxb
   omega
  rw [List.length_cons] at hl2
  (repeat' (first | (refine aN (fun h=>?_) (fun h=>?_)<;>(try simp [-List.getD_eq_getElem?_getD,-Int.pred_toNat] at h)<;>(try (exfalso; first | omega | contradiction))) | (refine rNG ?_) | (refine bN2 ?_) | (refine bN3 ?_) | (intro _)))
  refine aN ⟨by decide,by rw [List.length_cons]; omega⟩ ?_
  (repeat' (first | (refine aN (fun h=>?_) (fun h=>?_)<;>(try simp [-List.getD_eq_getElem?_getD,-Int.pred_toNat] at h)<;>(try (exfalso; first | omega | contradiction))) | (refine rNG ?_) | (refine bN2 ?_) | (refine bN3 ?_) | (intro _)))
  refine aN ⟨by decide,by rw [List.length_cons]; omega⟩ ?_
  (repeat' (first | (refine aN (fun h=>?_) (fun h=>?_)<;>(try simp [-List.getD_eq_getElem?_getD,-Int.pred_toNat] at h)<;>(try (exfalso; first | omega | contradiction))) | (refine rNG ?_) | (refine bN2 ?_) | (refine bN3 ?_) | (intro _)))
  refine eX [.take 0,.take 1,.take 5,.take 6,.tree 5 [2,3,4,7,8] (.opt 2 (.opt 3 (.opt 4 (.opt 7 (.opt 8 .fin .non) .non) (.opt 7 (.opt 4 (.opt 8 .fin .non) (.opt 8 (.opt 4 .fin .non) .non)) .non)) (.opt 7 (.opt 3 (.opt 4 (.opt 8 .fin .non) (.opt 8 (.opt 4 .fin .non) .non)) (.opt 8 (.opt 3 (.opt 4 .fin .non) .non) .non)) .non)) (.opt 7 (.opt 2 (.opt 3 (.opt 4 (.opt 8 .fin .non) (.opt 8 (.opt 4 .fin .non) .non)) (.opt 8 (.opt 3 (.opt 4 .fin .non) .non) .non)) (.opt 8 (.opt 2 (.opt 3 (.opt 4 .fin .non) .non) .non) .non)) .non)),.one 9,.blk [10,11]] (aN (by kernel_rfl) ?_)
  refine eX ⟨[(4,.vs 4 .tplace (x::r) 1),(9,.pt 9 0),(50,.vec 50 .typ (all.map (·.t)++[⟨x.t.kind,x.t.lo,x.t.hi,x.t.texts,x.t.t,x.t.f,x.t.name⟩])),(51,.vec 8 .int (all.map (·.around))),(54,.vec 54 .int [x.around])],[(9,enc .tplace x)]⟩ (aN ?_ ?_)
  ·repeat' (first | exact trivial | exact Or.inl rfl | (refine aN (Go.Ty.szB (by (try simp only [List.length_append,List.length_cons,List.length_nil,List.length_map,List.length_take,List.length_drop]); omega) (Nat.le_of_ble_eq_true rfl)) ?_) | intro _ | refine aN ?_ ?_)
  dsimp only
  rw [etaT]
  (repeat' (first | (refine aN (fun h=>?_) (fun h=>?_)<;>(try simp [-List.getD_eq_getElem?_getD,-Int.pred_toNat] at h)<;>(try (exfalso; first | omega | contradiction))) | (refine rNG ?_) | (refine bN2 ?_) | (refine bN3 ?_) | (intro _)))
  (refine aN (Go.Ty.szB (by (try simp only [List.length_append,List.length_cons,List.length_nil,List.length_map,List.length_take,List.length_drop]); omega) (Nat.le_of_ble_eq_true rfl)) ?_)
  refine Or.inr (Or.inl (eX [] (eX _ (eX _ (eX _ (eX _ (eX _ (eX [(1000,58)] (aN (hW) ?_)))))))))
  refine (aN rfl (aN rfl (aN rfl (aN rfl ?_))))
  (repeat' (first | (refine aN (fun h=>?_) (fun h=>?_)<;>(try simp [-List.getD_eq_getElem?_getD,-Int.pred_toNat] at h)<;>(try (exfalso; first | omega | contradiction))) | (refine rNG ?_) | (refine bN2 ?_) | (refine bN3 ?_) | (intro _)))
  refine eX [(10,10,.tplace)] (eX [] (eX [(999,58)] (eX Nat (eX (fun i=>i≤((Ty.inside x.t)).length) (eX (fun i=>⟨[(4,.vs 4 .tplace (x::r) 1),(7,.vec 50 .typ (all.map (·.t)++[x.t])),(8,.vec 55 .int (all.map (·.around)++[x.around])),(9,.pt 9 0),(10,.vec 10 .tplace (((Ty.inside x.t).take i).map fun y=>⟨y,x.around + 1⟩)),(58,.rd .typ (Ty.inside x.t)),(59,.i .i64 (Ty.inside x.t).length),(60,.i .i64 i)],[(9,enc .tplace x)]⟩) (eX (fun i=>((Ty.inside x.t)).length - i) (eX 0 (aN (Nat.zero_le _) (aN ?_ ?_)))))))))
  ·(repeat' (first | exact trivial | exact Or.inl rfl | exact Or.inr (Or.inl ⟨rfl,_,rfl⟩) | exact Or.inr (Or.inr (Or.inr ⟨_,_,_,rfl,rfl⟩)) | refine aN ?_ ?_))
  rintro i hi
  refine aN (fun hz=>?_) (fun hz=>?_)
  ·have hi:=ltD hz
   have hg:=getI (τ:=.typ) hi
   refine bN2 ?_
   rw [hg]
   (repeat' (first | (refine aN (fun h=>?_) (fun h=>?_)<;>(try simp [-List.getD_eq_getElem?_getD,-Int.pred_toNat] at h)<;>(try (exfalso; first | omega | contradiction))) | (refine rNG ?_) | (refine bN2 ?_) | (refine bN3 ?_) | (intro _)))
   (refine aN (Go.Ty.szB (by (try simp only [List.length_append,List.length_cons,List.length_nil,List.length_map,List.length_take,List.length_drop]); omega) (Nat.le_of_ble_eq_true rfl)) ?_)
   (repeat' (first | (refine aN (fun h=>?_) (fun h=>?_)<;>(try simp [-List.getD_eq_getElem?_getD,-Int.pred_toNat] at h)<;>(try (exfalso; first | omega | contradiction))) | (refine rNG ?_) | (refine bN2 ?_) | (refine bN3 ?_) | (intro _)))
   refine eX [(71,10)] (eX (i + 1) (aN hi (aN ?_ ?_)))
   ·dsimp only
    rw [etaTP,kids_snoc hi]
    (repeat' (first | exact trivial | exact Or.inl rfl | exact Or.inr (Or.inl ⟨rfl,_,rfl⟩) | exact Or.inr (Or.inr (Or.inr ⟨_,_,_,rfl,rfl⟩)) | refine aN ?_ ?_))
   ·(exact Nat.sub_lt_sub_left (by omega) (by omega))
  (have hi:=geD hi hz)
  subst hi
  rw [List.take_length]
  (repeat' (first | (refine aN (fun h=>?_) (fun h=>?_)<;>(try simp [-List.getD_eq_getElem?_getD,-Int.pred_toNat] at h)<;>(try (exfalso; first | omega | contradiction))) | (refine rNG ?_) | (refine bN2 ?_) | (refine bN3 ?_) | (intro _)))
  (refine aN (Go.Ty.szB (by (try simp only [List.length_append,List.length_cons,List.length_nil,List.length_map,List.length_take,List.length_drop]); omega) (Nat.le_of_ble_eq_true rfl)) ?_)
  (repeat' (first | (refine aN (fun h=>?_) (fun h=>?_)<;>(try simp [-List.getD_eq_getElem?_getD,-Int.pred_toNat] at h)<;>(try (exfalso; first | omega | contradiction))) | (refine rNG ?_) | (refine bN2 ?_) | (refine bN3 ?_) | (intro _)))
  refine eX [(75,4),(50,7),(55,8)] (eX (kids x++r,all++[x]) (aN ⟨?_,?_,?_,?_⟩ (aN ?_ ?_)))
  ·rw [List.append_assoc]
   exact hI
  ·rw [List.length_append]
   exact Nat.succ_le_succ h200
  ·show (kids x++r).length≤2000001 + 4000000 * (all++[x]).length
   unfold kids
   rw [List.length_append,List.length_map,List.length_append,List.length_cons,List.length_nil]
   omega
  ·intro p hq
   show TB p.t∧0≤p.around∧p.around≤((all++[x]).length:Nat)
   rw [List.length_append,List.length_cons,List.length_nil]
   rcases List.mem_append.1 hq with hq | hq
   ·obtain ⟨y,hy,rfl⟩:=List.mem_map.1 hq
    exact ⟨hxb.inside y hy,by show 0≤x.around + 1; omega,by show x.around + 1≤_; omega⟩
   ·obtain ⟨g1,g2,g3⟩:=hp p (List.mem_cons_of_mem _ hq)
    exact ⟨g1,g2,by omega⟩
  ·dsimp only
   rw [List.map_append,List.map_append]
   (repeat' (first | exact trivial | exact Or.inl rfl | exact Or.inr (Or.inl ⟨rfl,_,rfl⟩) | exact Or.inr (Or.inr (Or.inr ⟨_,_,_,rfl,rfl⟩)) | refine aN ?_ ?_))
  ·show 201 - (all++[x]).length < 201 - all.length
   rw [List.length_append,List.length_cons,List.length_nil]
   omega
theorem s_gone (s:SchemaR) (hd:∀ d ∈ s.defs,TB d.t) (hr:TB s.root) (hn:s.defs.length≤2000000):PSpec Tryd.prog 88 [.agg (encSch s)] (.tup [.rd .typ (((allP s).take 201).map (·.t)),.rd .int (((allP s).take 201).map (·.around))]) :=
 pspec_of_vc Γ_good Tryd.func88 rfl Tryd.call88 Tryd.results88 Tryd.ntmps88 (Nat.le_of_ble_eq_true rfl) (w_gone s hd hr hn)
end
end Go.Proofs.YtdcdmojbkmedpaaDoor
end
section
namespace Go.SX
variable [Globs]
theorem CSpec.frz {P : Program} {f : FuncId} {args args' : List AV} {boxes boxes0 : List (Nat × List AV)} {r : AV} {boxes' : List (Nat × List AV)} (h : CSpec P f args boxes r boxes') (id : Nat)
  (he:(⟨argSlots 0 args',boxes0⟩:St).frz id = ⟨argSlots 0 args,boxes⟩) (hl:args'.length = args.length) (hb:boxNames boxes0 = boxNames boxes):CSpec P f args' boxes0 r boxes' :=
 ⟨h.1,fun F X β w vs h1 h2 hI=>h.2 F X β w vs (h1.trans hl) (fun n g hg=>by
  have:=boxNames_mem.2 (h2 n g hg)
  rw [hb] at this
  exact boxNames_mem.1 this) (by
  have:=hI.frz id
  rw [he] at this
  exact this)⟩
end Go.SX
end
section
namespace Go.SX
variable [Globs]
structure VOs (P:Program) (Γ:Ctx) (N:Nat) (ops:List Oper) (l:List Oper) (s:St) (Q:St→Prop):Prop where
 ok:∀ (W0:World) (F:Fr) (X:Nat→Prop) (Q':Exit→Act→World→Prop) (a:Act) (w:World),(∀ s a w,Q s→Inv W0 F X N s a w→Q' .normal a w)→Inv W0 F X N s a w→wpList P ops.toArray Q' l a w
section
variable {P:Program} {N:Nat} {Γ:Ctx} {L:List Nat} {s:St} {W0:World} {F:Fr} {X:Nat→Prop}
theorem vcOps_ok2 (hΓ : Γ.good P) {ops : List Oper} {Q : St → Prop} {Q' : Exit → Act → World → Prop} {l2 : List Oper} (hQ : ∀ s a w, Q s → Inv W0 F X N s a w → wpList P ops.toArray Q' l2 a w) (l : List Oper) :
  ∀ (known:List Nat) (s:St) (a:Act) (w:World),vcOps P Γ N ops l known s Q→Inv W0 F X N s a w→wpList P ops.toArray Q' (l++l2) a w:=by
 induction l with
 | nil=>intro known s a w h hI; exact hQ s a w h hI
 | cons o r ih =>
  intro known s a w h ⟨β,hI⟩
  simp only [vcOps,opsStepK] at h
  rw [List.cons_append]
  cases hg:o.guard with
  | none =>
   rw [hg] at h
   exact wpList_plain hg fun K hK=>op_ok hΓ hI h fun s' a' w' h1 h2=>hK _ _ (ih known s' a' w' h1 h2)
  | some p =>
   obtain ⟨j,want⟩:=p
   rw [hg] at h
   obtain ⟨oj,hj,h⟩:=(nthK_iff _ _ _).1 h
   obtain ⟨d,hd,h⟩:=(optK_iff _ _).1 h
   refine wpList_step fun K hK=>?_
   rcases guard_ok hI hj hd h with ⟨s',hI',hy,h⟩ | ⟨s',hI',hy,h⟩
   ·rw [if_pos (by simp [Region.wanted,hg,hy])]
    exact op_ok hΓ hI' h fun s' a' w' h1 h2=>hK _ _ (ih _ s' a' w' h1 h2)
   ·rw [if_neg (by simp [Region.wanted,hg]; exact hy)]
    obtain ⟨s2,h1,h2⟩:=putIm_ok hI' (Stp.refl _ w) h (undef_rel _ _)
    exact hK _ _ (ih _ s2 _ _ h1 ⟨β,h2⟩)
theorem VOs.of_vc (hΓ:Γ.good P) {ops l:List Oper} {Q:St→Prop} (h:vcOps P Γ N ops l [] s Q):VOs P Γ N ops l s Q:=⟨fun _ _ _ _ a w hQ hI=>vcOps_ok hΓ hQ l [] s a w h hI⟩
theorem VOs.cut (hΓ:Γ.good P) {ops l:List Oper} {Q:St→Prop} (k:Nat) (σ:Type) (I:σ→Prop) (S:σ→St) (h:vcOps P Γ N ops (l.take k) [] s fun s'=>∃ v,I v∧Wk s' (S v)) (h2:∀ v,I v→VOs P Γ N ops (l.drop k) (S v) Q):VOs P Γ N ops l s Q:=⟨fun W0 F X Q' a w hQ hI=>by
 have:=vcOps_ok2 (Q':=Q') (l2:=l.drop k) hΓ (fun s' a' w' ⟨v,hv,hw⟩ ⟨β,hI'⟩=>(h2 v hv).ok W0 F X Q' a' w' hQ ⟨β,hI'.wk hw⟩) (l.take k) [] s a w h hI
 rw [List.take_append_drop] at this
 exact this⟩
theorem VCs.region {id:Nat} {ops:Array Oper} {Q:Exit→St→Prop} (h:VOs P Γ N ops.toList ops.toList s fun s=>stKeepK L s (Q .normal)):VCs P Γ N L (.region id ops false) Q s:=⟨fun W0 F X Q' a w hQ hI=>wp_region_list (by
 have:=h.ok W0 F X Q' a w (fun s a w hk ⟨β,hI⟩=>by
  obtain ⟨s',h1,h2⟩:=keep_ok hI hk
  exact hQ .normal s' a w h1 ⟨β,h2⟩) hI
 simpa using this)⟩
end
end Go.SX
end
section
namespace Go.Proofs.YtdcdmojbkmedpaaDoor
open Go Go.SX Go.Ck Go.Vl Go.Ut Go.Ty
set_option maxRecDepth 100000
set_option maxHeartbeats 4000000
theorem okLenT (t:TypR):okKind t↔(1≤t.kind∧t.kind≤12)∧((t.kind = 4∨t.kind = 6∨t.kind = 8)∨(t.lo = 0∧t.hi = 0))∧(t.kind = 7∨t.texts.length = 0)∧((t.kind = 8∨t.kind = 9)→t.t.length = 1)∧((t.kind = 8∨t.kind = 9)∨t.kind = 11∨t.t.length = 0)∧(t.kind = 10∨t.f.length = 0)∧(t.kind = 12∨t.name = []):=by
 cases t
 exact okLen ..
section
variable [G:Globs]
theorem w_isK (l:List Int) (hl:l.length≤100) (t:TypR):vc Tryd.prog Γ 17 [0,1,3,5,6,7,8,9,15,1000] (Tryd.f154.body.getD .skip) (postBK Γ [.tmp 3] (.b (l.any fun k=>t.kind == k)) [(1000,encTyp t)]) ⟨argSlots 0 [.rd .int l,.pt 1000 0],[(1000,encTyp t)]⟩:=by
 (repeat' (first | (refine aN (fun h=>?_) (fun h=>?_)<;>(try simp [-List.getD_eq_getElem?_getD,-Int.pred_toNat] at h)<;>(try (exfalso; first | omega | contradiction))) | (refine rNG ?_) | (refine bN2 ?_) | (refine bN3 ?_) | (intro _)))
 refine eX [] (eX [] (eX [] (eX Nat (eX (fun i=>i≤(l).length∧((l.any fun k=>t.kind == k) = (l.drop i).any fun k=>t.kind == k)) (eX (fun i=>⟨[(1,.pt 1000 0),(6,.rd .int l),(7,.i .i64 l.length),(8,.i .i64 i)],[(1000,encTyp t)]⟩) (eX (fun i=>(l).length - i) (eX 0 (aN ⟨Nat.zero_le _,rfl⟩ (aN ?_ ?_)))))))))
 ·(repeat' (first | exact trivial | exact Or.inl rfl | exact Or.inr (Or.inl ⟨rfl,_,rfl⟩) | exact Or.inr (Or.inr (Or.inr ⟨_,_,_,rfl,rfl⟩)) | refine aN ?_ ?_))
 rintro i ⟨hi,hI⟩
 refine aN (fun hz=>?_) (fun hz=>?_)
 ·have hi:=ltD hz
  have hg:=getI (τ:=.int) hi
  refine bN2 ?_
  rw [hg]
  rw [List.drop_eq_getElem_cons hi,List.any_cons] at hI
  cases hq:(t.kind == l[i]) with
  | true =>
   rw [hq,Bool.true_or] at hI
   rw [hI]
   have hq2:t.kind = l[i]:=eq_of_beq hq
   (repeat' (first | (refine aN (fun h=>?_) (fun h=>?_)<;>(try simp [-List.getD_eq_getElem?_getD,-Int.pred_toNat] at h)<;>(try (exfalso; first | omega | contradiction))) | (refine rNG ?_) | (refine bN2 ?_) | (refine bN3 ?_) | (intro _)))
   exact eX [] (aN rfl (by (repeat' (first | exact trivial | exact Or.inl rfl | exact Or.inr (Or.inl ⟨rfl,_,rfl⟩) | exact Or.inr (Or.inr (Or.inr ⟨_,_,_,rfl,rfl⟩)) | refine aN ?_ ?_))))
  | false =>
   rw [hq,Bool.false_or] at hI
   have hq2:¬ t.kind = l[i]:=ne_of_beq_false hq
   (repeat' (first | (refine aN (fun h=>?_) (fun h=>?_)<;>(try simp [-List.getD_eq_getElem?_getD,-Int.pred_toNat] at h)<;>(try (exfalso; first | omega | contradiction))) | (refine rNG ?_) | (refine bN2 ?_) | (refine bN3 ?_) | (intro _)))
   refine eX [] (eX (_ + 1) (aN ⟨hi,hI⟩ (aN ?_ ?_)))
   ·(repeat' (first | exact trivial | exact Or.inl rfl | exact Or.inr (Or.inl ⟨rfl,_,rfl⟩) | exact Or.inr (Or.inr (Or.inr ⟨_,_,_,rfl,rfl⟩)) | refine aN ?_ ?_))
   ·(exact Nat.sub_lt_sub_left (by omega) (by omega))
 ·(have hi:=geD hi hz)
  rw [List.drop_eq_nil_of_le (by omega)] at hI
  rw [hI]
  exact eX [] (aN rfl (by (repeat' (first | exact trivial | exact Or.inl rfl | exact Or.inr (Or.inl ⟨rfl,_,rfl⟩) | exact Or.inr (Or.inr (Or.inr ⟨_,_,_,rfl,rfl⟩)) | refine aN ?_ ?_))))
theorem s_isK (l:List Int) (hl:l.length≤100) (t:TypR):CSpec Tryd.prog 154 [.rd .int l,.pt 1000 0] [(1000,encTyp t)] (.b (l.any fun k=>t.kind == k)) [(1000,encTyp t)] :=
 cspec_of_vc Γ_good Tryd.func154 rfl Tryd.call154 Tryd.results154 Tryd.ntmps154 (Nat.le_of_ble_eq_true rfl) (Nat.le_of_ble_eq_true rfl) (by rfl) (w_isK l hl t)
theorem s_isV (l:List Int) (hl:l.length≤100) (t:TypR) (b:Bool) (h:(l.any fun k=>t.kind == k) = b):CSpec Tryd.prog 154 [.vec 1001 .int l,.pt 1000 0] [(1000,encTyp t)] (.b b) [(1000,encTyp t)]:=h ▸ (s_isK l hl t).frz 1001 rfl rfl rfl
theorem s_is468 (t:TypR):CSpec Tryd.prog 154 [.vec 1001 .int [4,6,8],.pt 1000 0] [(1000,encTyp t)] (.b (decide (t.kind = 4∨t.kind = 6∨t.kind = 8))) [(1000,encTyp t)]:=s_isV _ (by decide) t _ (by rw [Bool.eq_iff_iff]; simp)
theorem s_is7 (t:TypR):CSpec Tryd.prog 154 [.vec 1001 .int [7],.pt 1000 0] [(1000,encTyp t)] (.b (decide (t.kind = 7))) [(1000,encTyp t)]:=s_isV _ (by decide) t _ (by rw [Bool.eq_iff_iff]; simp)
theorem s_is89 (t:TypR):CSpec Tryd.prog 154 [.vec 1001 .int [8,9],.pt 1000 0] [(1000,encTyp t)] (.b (decide (t.kind = 8∨t.kind = 9))) [(1000,encTyp t)]:=s_isV _ (by decide) t _ (by rw [Bool.eq_iff_iff]; simp)
theorem s_is8911 (t:TypR):CSpec Tryd.prog 154 [.vec 1001 .int [8,9,11],.pt 1000 0] [(1000,encTyp t)] (.b (decide (t.kind = 8∨t.kind = 9∨t.kind = 11))) [(1000,encTyp t)]:=s_isV _ (by decide) t _ (by rw [Bool.eq_iff_iff]; simp)
theorem s_is10 (t:TypR):CSpec Tryd.prog 154 [.vec 1001 .int [10],.pt 1000 0] [(1000,encTyp t)] (.b (decide (t.kind = 10))) [(1000,encTyp t)]:=s_isV _ (by decide) t _ (by rw [Bool.eq_iff_iff]; simp)
theorem s_is12 (t:TypR):CSpec Tryd.prog 154 [.vec 1001 .int [12],.pt 1000 0] [(1000,encTyp t)] (.b (decide (t.kind = 12))) [(1000,encTyp t)]:=s_isV _ (by decide) t _ (by rw [Bool.eq_iff_iff]; simp)
theorem s_is68 (t:TypR):CSpec Tryd.prog 154 [.vec 1001 .int [6,8],.pt 1000 0] [(1000,encTyp t)] (.b (decide (t.kind = 6∨t.kind = 8))) [(1000,encTyp t)]:=s_isV _ (by decide) t _ (by rw [Bool.eq_iff_iff]; simp)
theorem w_typeFault (hu:HasU8) (s:SchemaR) (t:TypR) (hb:TB t) (hn:s.defs.length≤2000000):VCs Tryd.prog Γ 194 [2,3,4,5,6,7,8,9,10,11,12,21,93,108,110,111,116,120,122,123,124,125,131,143,145,150,152,153,154,155,166,172,183,187,193] (Tryd.f89.body.getD .skip) (postK Γ [.tmp 4] (fun v=>v = .i .i64 (typeF s.defs t))) ⟨argSlots 0 [.agg (encSch s),.agg (encTyp t)],[]⟩:=by
 generalize hQ:typeF s.defs t = R
 have h10:¬ okKind t→AV.i .i64 10 = AV.i .i64 R:=fun h=>by rw [← hQ,typeF,if_pos h]
 refine VCs.seq (by first | exact Γ_good | exact Ctx.good_kp Γ_good _) ?_
 refine VCs.seq (by first | exact Γ_good | exact Ctx.good_kp Γ_good _) ?_
 refine VCs.cut (by first | exact Γ_good | exact Ctx.good_kp Γ_good _) Unit (fun _=>1≤t.kind∧t.kind≤12) (fun _=>⟨[(2,.pt 2 0),(3,.pt 3 0),(5,.fn 154 [.pt 3 0])],[(2,encSch s),(3,encTyp t)]⟩) ?_ ?_
 ·(repeat' (first | (refine aN (fun h=>?_) (fun h=>?_)<;>(try simp [-List.getD_eq_getElem?_getD,-Int.pred_toNat] at h)<;>(try (exfalso; first | omega | contradiction))) | (refine rNG ?_) | (refine bN2 ?_) | (refine bN3 ?_) | (intro _)))
  all_goals first | (exact h10 fun h=>by obtain ⟨g1,_⟩:=(okLenT t).1 h; omega) | (refine eX () (aN (by omega) ?_); (repeat' (first | exact trivial | exact Or.inl rfl | exact Or.inr (Or.inl ⟨rfl,_,rfl⟩) | exact Or.inr (Or.inr (Or.inr ⟨_,_,_,rfl,rfl⟩)) | refine aN ?_ ?_)))
 intro _ k1
 refine VCs.cutS Unit (fun _=>okKind t) (fun _=>⟨[(2,.pt 2 0),(3,.pt 3 0),(5,.fn 154 [.pt 3 0])],[(2,encSch s),(3,encTyp t)]⟩) ?_ ?_
 ·have hkey : okKind t ↔ ¬ (((t.lo ≠ 0 ∨ t.hi ≠ 0) ∧ ¬ (t.kind = 4 ∨ t.kind = 6 ∨ t.kind = 8)) ∨ (0 < t.texts.length ∧ ¬ t.kind = 7) ∨ (t.t.length ≠ 1 ∧ (t.kind = 8 ∨ t.kind = 9)) ∨ (0 < t.t.length ∧ ¬ (t.kind = 8 ∨ t.kind = 9 ∨ t.kind = 11)) ∨ (0 < t.f.length ∧ ¬ t.kind = 10) ∨ (t.name ≠ [] ∧ ¬ t.kind = 12)) := by
   rw [okLenT]
   by_cases hnm:t.name = []
   ·simp only [eq_true hnm,not_true_eq_false,not_false_eq_true,ne_eq,false_and,true_and,or_false,or_true,and_true]
    omega
   ·simp only [eq_false hnm,not_true_eq_false,not_false_eq_true,ne_eq,false_and,true_and,or_false,or_true,and_true]
    omega
  refine VCs.seqS (VCs.region ?_)
  refine VOs.cut Γ_good 14 Bool (fun b=>b = true↔(((t.lo≠0∨t.hi≠0)∧¬ (t.kind = 4∨t.kind = 6∨t.kind = 8)))) (fun b=>⟨[(2,.pt 2 0),(3,.pt 3 0),(5,.fn 154 [.pt 3 0]),(35,.b b)],[(2,encSch s),(3,encTyp t)]⟩) ?_ ?_
  ·(repeat' (first | (refine aN (fun h=>?_) (fun h=>?_)<;>(try simp [-List.getD_eq_getElem?_getD,-Int.pred_toNat] at h)<;>(try (exfalso; first | omega | contradiction))) | (intro _) | (refine Or.inr (Or.inl (eX [] (eX _ (eX _ (eX _ (eX _ (eX _ (eX [(1000,3),(1001,32)] (aN (s_is468 t) ?_))))))))); refine (aN rfl (aN rfl (aN rfl (aN rfl (aN rfl ?_))))))))
   all_goals (refine eX _ (aN ?_ (by (repeat' (first | exact trivial | exact Or.inl rfl | exact Or.inr (Or.inl ⟨rfl,_,rfl⟩) | exact Or.inr (Or.inr (Or.inr ⟨_,_,_,rfl,rfl⟩)) | refine aN ?_ ?_)))))
   all_goals (first | (simp only [beq_iff_eq,bne_iff_ne,beq_eq_false_iff_ne,bne_eq_false_iff_eq,decide_eq_true_eq,decide_eq_false_iff_not,Bool.not_eq_true',Bool.not_eq_false',Bool.not_true,Bool.not_false,ne_eq,Decidable.not_not,gt_iff_lt,ge_iff_le,Int.not_lt,Int.not_le,Bool.cond_true,Bool.cond_false,cond_true,cond_false,Int.reduceBNe,Int.reduceBEq,Int.reduceLT,Int.reduceLE,Int.reduceEq,Int.reduceNe,not_true_eq_false,not_false_eq_true,Bool.false_eq_true,Bool.true_eq_false,reduceCtorEq,Bool.and_eq_true,Bool.or_eq_true,Bool.and_eq_false_iff,Bool.or_eq_false_iff,Bool.true_and,Bool.and_true,Bool.false_and,Bool.and_false,Bool.or_false,Bool.false_or,Bool.or_true,Bool.true_or]; omega) | (simp_all; done) | (simp_all; omega))
  intro b hb
  refine VOs.cut Γ_good 12 Bool (fun b=>b = true↔(((t.lo≠0∨t.hi≠0)∧¬ (t.kind = 4∨t.kind = 6∨t.kind = 8))∨(0 < t.texts.length∧¬ t.kind = 7))) (fun b=>⟨[(2,.pt 2 0),(3,.pt 3 0),(5,.fn 154 [.pt 3 0]),(47,.b b)],[(2,encSch s),(3,encTyp t)]⟩) ?_ ?_
  ·(repeat' (first | (refine aN (fun h=>?_) (fun h=>?_)<;>(try simp [-List.getD_eq_getElem?_getD,-Int.pred_toNat] at h)<;>(try (exfalso; first | omega | contradiction))) | (intro _) | (refine Or.inr (Or.inl (eX [] (eX _ (eX _ (eX _ (eX _ (eX _ (eX [(1000,3),(1001,43)] (aN (s_is7 t) ?_))))))))); refine (aN rfl (aN rfl (aN rfl (aN rfl (aN rfl ?_))))))))
   all_goals (refine eX _ (aN ?_ (by (repeat' (first | exact trivial | exact Or.inl rfl | exact Or.inr (Or.inl ⟨rfl,_,rfl⟩) | exact Or.inr (Or.inr (Or.inr ⟨_,_,_,rfl,rfl⟩)) | refine aN ?_ ?_)))))
   all_goals (first | (simp only [beq_iff_eq,bne_iff_ne,beq_eq_false_iff_ne,bne_eq_false_iff_eq,decide_eq_true_eq,decide_eq_false_iff_not,Bool.not_eq_true',Bool.not_eq_false',Bool.not_true,Bool.not_false,ne_eq,Decidable.not_not,gt_iff_lt,ge_iff_le,Int.not_lt,Int.not_le,Bool.cond_true,Bool.cond_false,cond_true,cond_false,Int.reduceBNe,Int.reduceBEq,Int.reduceLT,Int.reduceLE,Int.reduceEq,Int.reduceNe,not_true_eq_false,not_false_eq_true,Bool.false_eq_true,Bool.true_eq_false,reduceCtorEq,Bool.and_eq_true,Bool.or_eq_true,Bool.and_eq_false_iff,Bool.or_eq_false_iff,Bool.true_and,Bool.and_true,Bool.false_and,Bool.and_false,Bool.or_false,Bool.false_or,Bool.or_true,Bool.true_or]; omega) | (simp_all; done) | (simp_all; omega))
  intro b hb
  refine VOs.cut Γ_good 11 Bool (fun b=>b = true↔(((t.lo≠0∨t.hi≠0)∧¬ (t.kind = 4∨t.kind = 6∨t.kind = 8))∨(0 < t.texts.length∧¬ t.kind = 7)∨(t.t.length≠1∧(t.kind = 8∨t.kind = 9)))) (fun b=>⟨[(2,.pt 2 0),(3,.pt 3 0),(5,.fn 154 [.pt 3 0]),(58,.b b)],[(2,encSch s),(3,encTyp t)]⟩) ?_ ?_
  ·(repeat' (first | (refine aN (fun h=>?_) (fun h=>?_)<;>(try simp [-List.getD_eq_getElem?_getD,-Int.pred_toNat] at h)<;>(try (exfalso; first | omega | contradiction))) | (intro _) | (refine Or.inr (Or.inl (eX [] (eX _ (eX _ (eX _ (eX _ (eX _ (eX [(1000,3),(1001,55)] (aN (s_is89 t) ?_))))))))); refine (aN rfl (aN rfl (aN rfl (aN rfl (aN rfl ?_))))))))
   all_goals (refine eX _ (aN ?_ (by (repeat' (first | exact trivial | exact Or.inl rfl | exact Or.inr (Or.inl ⟨rfl,_,rfl⟩) | exact Or.inr (Or.inr (Or.inr ⟨_,_,_,rfl,rfl⟩)) | refine aN ?_ ?_)))))
   all_goals (first | (simp only [beq_iff_eq,bne_iff_ne,beq_eq_false_iff_ne,bne_eq_false_iff_eq,decide_eq_true_eq,decide_eq_false_iff_not,Bool.not_eq_true',Bool.not_eq_false',Bool.not_true,Bool.not_false,ne_eq,Decidable.not_not,gt_iff_lt,ge_iff_le,Int.not_lt,Int.not_le,Bool.cond_true,Bool.cond_false,cond_true,cond_false,Int.reduceBNe,Int.reduceBEq,Int.reduceLT,Int.reduceLE,Int.reduceEq,Int.reduceNe,not_true_eq_false,not_false_eq_true,Bool.false_eq_true,Bool.true_eq_false,reduceCtorEq,Bool.and_eq_true,Bool.or_eq_true,Bool.and_eq_false_iff,Bool.or_eq_false_iff,Bool.true_and,Bool.and_true,Bool.false_and,Bool.and_false,Bool.or_false,Bool.false_or,Bool.or_true,Bool.true_or]; omega) | (simp_all; done) | (simp_all; omega))
  intro b hb
  refine VOs.cut Γ_good 12 Bool (fun b=>b = true↔(((t.lo≠0∨t.hi≠0)∧¬ (t.kind = 4∨t.kind = 6∨t.kind = 8))∨(0 < t.texts.length∧¬ t.kind = 7)∨(t.t.length≠1∧(t.kind = 8∨t.kind = 9))∨(0 < t.t.length∧¬ (t.kind = 8∨t.kind = 9∨t.kind = 11)))) (fun b=>⟨[(2,.pt 2 0),(3,.pt 3 0),(5,.fn 154 [.pt 3 0]),(70,.b b)],[(2,encSch s),(3,encTyp t)]⟩) ?_ ?_
  ·(repeat' (first | (refine aN (fun h=>?_) (fun h=>?_)<;>(try simp [-List.getD_eq_getElem?_getD,-Int.pred_toNat] at h)<;>(try (exfalso; first | omega | contradiction))) | (intro _) | (refine Or.inr (Or.inl (eX [] (eX _ (eX _ (eX _ (eX _ (eX _ (eX [(1000,3),(1001,66)] (aN (s_is8911 t) ?_))))))))); refine (aN rfl (aN rfl (aN rfl (aN rfl (aN rfl ?_))))))))
   all_goals (refine eX _ (aN ?_ (by (repeat' (first | exact trivial | exact Or.inl rfl | exact Or.inr (Or.inl ⟨rfl,_,rfl⟩) | exact Or.inr (Or.inr (Or.inr ⟨_,_,_,rfl,rfl⟩)) | refine aN ?_ ?_)))))
   all_goals (first | (simp only [beq_iff_eq,bne_iff_ne,beq_eq_false_iff_ne,bne_eq_false_iff_eq,decide_eq_true_eq,decide_eq_false_iff_not,Bool.not_eq_true',Bool.not_eq_false',Bool.not_true,Bool.not_false,ne_eq,Decidable.not_not,gt_iff_lt,ge_iff_le,Int.not_lt,Int.not_le,Bool.cond_true,Bool.cond_false,cond_true,cond_false,Int.reduceBNe,Int.reduceBEq,Int.reduceLT,Int.reduceLE,Int.reduceEq,Int.reduceNe,not_true_eq_false,not_false_eq_true,Bool.false_eq_true,Bool.true_eq_false,reduceCtorEq,Bool.and_eq_true,Bool.or_eq_true,Bool.and_eq_false_iff,Bool.or_eq_false_iff,Bool.true_and,Bool.and_true,Bool.false_and,Bool.and_false,Bool.or_false,Bool.false_or,Bool.or_true,Bool.true_or]; omega) | (simp_all; done) | (simp_all; omega))
  intro b hb
  refine VOs.cut Γ_good 12 Bool (fun b=>b = true↔(((t.lo≠0∨t.hi≠0)∧¬ (t.kind = 4∨t.kind = 6∨t.kind = 8))∨(0 < t.texts.length∧¬ t.kind = 7)∨(t.t.length≠1∧(t.kind = 8∨t.kind = 9))∨(0 < t.t.length∧¬ (t.kind = 8∨t.kind = 9∨t.kind = 11))∨(0 < t.f.length∧¬ t.kind = 10))) (fun b=>⟨[(2,.pt 2 0),(3,.pt 3 0),(5,.fn 154 [.pt 3 0]),(82,.b b)],[(2,encSch s),(3,encTyp t)]⟩) ?_ ?_
  ·(repeat' (first | (refine aN (fun h=>?_) (fun h=>?_)<;>(try simp [-List.getD_eq_getElem?_getD,-Int.pred_toNat] at h)<;>(try (exfalso; first | omega | contradiction))) | (intro _) | (refine Or.inr (Or.inl (eX [] (eX _ (eX _ (eX _ (eX _ (eX _ (eX [(1000,3),(1001,78)] (aN (s_is10 t) ?_))))))))); refine (aN rfl (aN rfl (aN rfl (aN rfl (aN rfl ?_))))))))
   all_goals (refine eX _ (aN ?_ (by (repeat' (first | exact trivial | exact Or.inl rfl | exact Or.inr (Or.inl ⟨rfl,_,rfl⟩) | exact Or.inr (Or.inr (Or.inr ⟨_,_,_,rfl,rfl⟩)) | refine aN ?_ ?_)))))
   all_goals (first | (simp only [beq_iff_eq,bne_iff_ne,beq_eq_false_iff_ne,bne_eq_false_iff_eq,decide_eq_true_eq,decide_eq_false_iff_not,Bool.not_eq_true',Bool.not_eq_false',Bool.not_true,Bool.not_false,ne_eq,Decidable.not_not,gt_iff_lt,ge_iff_le,Int.not_lt,Int.not_le,Bool.cond_true,Bool.cond_false,cond_true,cond_false,Int.reduceBNe,Int.reduceBEq,Int.reduceLT,Int.reduceLE,Int.reduceEq,Int.reduceNe,not_true_eq_false,not_false_eq_true,Bool.false_eq_true,Bool.true_eq_false,reduceCtorEq,Bool.and_eq_true,Bool.or_eq_true,Bool.and_eq_false_iff,Bool.or_eq_false_iff,Bool.true_and,Bool.and_true,Bool.false_and,Bool.and_false,Bool.or_false,Bool.false_or,Bool.or_true,Bool.true_or]; omega) | (simp_all; done) | (simp_all; omega))
  intro b hb
  refine VOs.of_vc Γ_good ?_
  by_cases hnm:t.name = []
  all_goals (repeat' (first | (refine aN (fun h=>?_) (fun h=>?_)<;>(try simp [-List.getD_eq_getElem?_getD,-Int.pred_toNat] at h)<;>(try (exfalso; first | omega | contradiction))) | (intro _) | (refine Or.inr (Or.inl (eX [] (eX _ (eX _ (eX _ (eX _ (eX _ (eX [(1000,3),(1001,89)] (aN (s_is12 t) ?_))))))))); refine (aN rfl (aN rfl (aN rfl (aN rfl (aN rfl ?_))))))))
  all_goals refine VCs.of_vc (by first | exact Γ_good | exact Ctx.good_kp Γ_good _) ?_
  all_goals (repeat' (first | (refine aN (fun h=>?_) (fun h=>?_)<;>(try simp [-List.getD_eq_getElem?_getD,-Int.pred_toNat] at h)<;>(try (exfalso; first | omega | contradiction))) | (refine rNG ?_) | (refine bN2 ?_) | (refine bN3 ?_) | (intro _)))
  all_goals clear hQ hu hn
  all_goals first | (refine h10 fun h9=>?_; have g:=hkey.1 h9; clear hkey h10; first | omega | grind) | (refine eX () (aN (hkey.2 fun g=>?_) (by (repeat' (first | exact trivial | exact Or.inl rfl | exact Or.inr (Or.inl ⟨rfl,_,rfl⟩) | exact Or.inr (Or.inr (Or.inr ⟨_,_,_,rfl,rfl⟩)) | refine aN ?_ ?_)))); clear hkey h10; first | omega | grind)
 intro _ k2
 have hR2:R = if t.hi < t.lo∨(t.kind≠4∧t.lo < 0) then 7 else if t.kind = 7 then textsF t.texts else if t.kind = 10 then fieldsF t.f else if t.kind = 12 then (if defI s.defs t.name < 0 then 8 else 0) else 0:=by
  rw [← hQ,typeF,if_neg (fun h=>h k2)]
 have hq2:=(okLenT t).1 k2
 have h7:(t.hi < t.lo∨(t.kind≠4∧t.lo < 0))→AV.i .i64 7 = AV.i .i64 R:=fun h=>by rw [hR2,if_pos h]
 refine VCs.cut (by first | exact Γ_good | exact Ctx.good_kp Γ_good _) Unit (fun _=>¬ (t.hi < t.lo∨(t.kind≠4∧t.lo < 0))) (fun _=>⟨[(2,.pt 2 0),(3,.pt 3 0)],[(2,encSch s),(3,encTyp t)]⟩) ?_ ?_
 ·obtain ⟨_,hq2,_⟩:=hq2
  clear hQ hR2 k2 hu hb hn h10
  (repeat' (first | (refine aN (fun h=>?_) (fun h=>?_)<;>(try simp [-List.getD_eq_getElem?_getD,-Int.pred_toNat] at h)<;>(try (exfalso; first | omega | contradiction))) | (intro _) | (refine Or.inr (Or.inl (eX [] (eX _ (eX _ (eX _ (eX _ (eX _ (eX [(1000,3),(1001,101)] (aN (s_is68 t) ?_))))))))); refine (aN rfl (aN rfl (aN rfl (aN rfl (aN rfl ?_))))))))
  all_goals first | (refine h7 ?_; omega) | (refine eX () (aN ?_ (by (repeat' (first | exact trivial | exact Or.inl rfl | exact Or.inr (Or.inl ⟨rfl,_,rfl⟩) | exact Or.inr (Or.inr (Or.inr ⟨_,_,_,rfl,rfl⟩)) | refine aN ?_ ?_)))); omega)
 intro _ k3
 rw [if_neg k3] at hR2
 clear h7 h10 hQ hq2 k2
 refine VCs.of_vc (by first | exact Γ_good | exact Ctx.good_kp Γ_good _) ?_
 by_cases c1:t.kind = 7
 ·rw [if_pos c1] at hR2
  unfold textsF at hR2
  by_cases c2:t.texts.length = 0
  ·rw [if_pos c2] at hR2
   have c2:t.texts = []:=List.eq_nil_of_length_eq_zero c2
   rw [hR2]
   (repeat' (first | (refine aN (fun h=>?_) (fun h=>?_)<;>(try simp [-List.getD_eq_getElem?_getD,-Int.pred_toNat] at h)<;>(try (exfalso; first | omega | contradiction))) | (refine rNG ?_) | (refine bN2 ?_) | (refine bN3 ?_) | (intro _)))
   rfl
  have c2n:¬ t.texts = []:=fun e=>c2 (by rw [e]; rfl)
  rw [if_neg c2] at hR2
  by_cases c3:200 < t.texts.length
  ·rw [if_pos c3] at hR2
   rw [hR2]
   (repeat' (first | (refine aN (fun h=>?_) (fun h=>?_)<;>(try simp [-List.getD_eq_getElem?_getD,-Int.pred_toNat] at h)<;>(try (exfalso; first | omega | contradiction))) | (refine rNG ?_) | (refine bN2 ?_) | (refine bN3 ?_) | (intro _)))
   rfl
  rw [if_neg c3] at hR2
  (repeat' (first | (refine aN (fun h=>?_) (fun h=>?_)<;>(try simp [-List.getD_eq_getElem?_getD,-Int.pred_toNat] at h)<;>(try (exfalso; first | omega | contradiction))) | (refine rNG ?_) | (refine bN2 ?_) | (refine bN3 ?_) | (intro _)))
  refine eX [] (eX [] (eX [] (eX Nat (eX (fun i=>i≤(t.texts).length∧(R = txsF (nmAt t.texts i) (t.texts.drop i))) (eX (fun i=>⟨[(3,.pt 3 0),(122,.rd .str t.texts),(123,.i .i64 t.texts.length),(124,.i .i64 i)],[(3,encTyp t)]⟩) (eX (fun i=>(t.texts).length - i) (eX 0 (aN ⟨Nat.zero_le _,hR2⟩ (aN ?_ ?_)))))))))
  ·(repeat' (first | exact trivial | exact Or.inl rfl | exact Or.inr (Or.inl ⟨rfl,_,rfl⟩) | exact Or.inr (Or.inr (Or.inr ⟨_,_,_,rfl,rfl⟩)) | refine aN ?_ ?_))
  rintro i ⟨hi,hI⟩
  refine aN (fun hz=>?_) (fun hz=>?_)
  ·have hi:=ltD hz
   have hg:=getI (τ:=.str) hi
   refine bN2 ?_
   rw [hg]
   have hB:=s_BadPlace t.texts[i]
   (repeat' (first | (refine aN (fun h=>?_) (fun h=>?_)<;>(try simp [-List.getD_eq_getElem?_getD,-Int.pred_toNat] at h)<;>(try (exfalso; first | omega | contradiction))) | (refine rNG ?_) | (refine bN2 ?_) | (refine bN3 ?_) | (intro _)))
   refine Or.inl (eX _ (aN (hB) ?_))
   by_cases b1:0≤bad t.texts[i]
   ·have hF:txF (nmAt t.texts i) t.texts[i] = 3:=if_pos b1
    rw [txs_stop hi (by rw [hF]; decide),hF] at hI
    rw [hI]
    (repeat' (first | (refine aN (fun h=>?_) (fun h=>?_)<;>(try simp [-List.getD_eq_getElem?_getD,-Int.pred_toNat] at h)<;>(try (exfalso; first | omega | contradiction))) | (refine rNG ?_) | (refine bN2 ?_) | (refine bN3 ?_) | (intro _)))
    rfl
   by_cases h0:0 < i
   ·have hn9:nmAt t.texts i = some (t.texts.getD (i - 1) []):=if_pos h0
    have hF:txF (nmAt t.texts i) t.texts[i] = if Op.bytesLess (t.texts.getD (i - 1) []) t.texts[i] = true then 0 else 14:=by
     unfold txF
     rw [if_neg b1,hn9]
    have hg9:t.texts.getD (i - 1) [] = t.texts.getD ((i:Int) - 1).toNat (dflt .str):=by rw [show ((i:Int) - 1).toNat = i - 1 by omega]
    rw [hg9] at hF
    have hfl:=less_flip t.texts[i] (t.texts.getD ((i:Int) - 1).toNat (dflt .str))
    by_cases hq:Op.bytesLess (t.texts.getD ((i:Int) - 1).toNat (dflt .str)) t.texts[i] = true
    ·rw [if_pos hq] at hF
     rw [txs_go hi hF] at hI
     rw [hq] at hfl
     (repeat' (first | (refine aN (fun h=>?_) (fun h=>?_)<;>(try simp [-List.getD_eq_getElem?_getD,-Int.pred_toNat] at h)<;>(try (exfalso; first | omega | contradiction))) | (refine rNG ?_) | (refine bN2 ?_) | (refine bN3 ?_) | (intro _)))
     ·exfalso
      clear hI hR2 hF
      simp_all
     (repeat' (first | (refine aN (fun h=>?_) (fun h=>?_)<;>(try simp [-List.getD_eq_getElem?_getD,-Int.pred_toNat] at h)<;>(try (exfalso; first | omega | contradiction))) | (refine rNG ?_) | (refine bN2 ?_) | (refine bN3 ?_) | (intro _)))
     refine eX [] (eX (i + 1) (aN ⟨hi,hI⟩ (aN ?_ ?_)))
     ·(repeat' (first | exact trivial | exact Or.inl rfl | exact Or.inr (Or.inl ⟨rfl,_,rfl⟩) | exact Or.inr (Or.inr (Or.inr ⟨_,_,_,rfl,rfl⟩)) | refine aN ?_ ?_))
     ·(exact Nat.sub_lt_sub_left (by omega) (by omega))
    ·rw [if_neg hq] at hF
     rw [txs_stop hi (by rw [hF]; decide),hF] at hI
     rw [Bool.eq_false_iff.2 hq] at hfl
     rw [hI]
     (repeat' (first | (refine aN (fun h=>?_) (fun h=>?_)<;>(try simp [-List.getD_eq_getElem?_getD,-Int.pred_toNat] at h)<;>(try (exfalso; first | omega | contradiction))) | (refine rNG ?_) | (refine bN2 ?_) | (refine bN3 ?_) | (intro _)))
     ·rfl
     ·exfalso
      clear hI hR2 hF
      simp_all
   ·have hn9:nmAt t.texts i = none:=if_neg h0
    have hF:txF (nmAt t.texts i) t.texts[i] = 0:=by
     unfold txF
     rw [if_neg b1,hn9]
    rw [txs_go hi hF] at hI
    (repeat' (first | (refine aN (fun h=>?_) (fun h=>?_)<;>(try simp [-List.getD_eq_getElem?_getD,-Int.pred_toNat] at h)<;>(try (exfalso; first | omega | contradiction))) | (refine rNG ?_) | (refine bN2 ?_) | (refine bN3 ?_) | (intro _)))
    refine eX [] (eX (i + 1) (aN ⟨hi,hI⟩ (aN ?_ ?_)))
    ·(repeat' (first | exact trivial | exact Or.inl rfl | exact Or.inr (Or.inl ⟨rfl,_,rfl⟩) | exact Or.inr (Or.inr (Or.inr ⟨_,_,_,rfl,rfl⟩)) | refine aN ?_ ?_))
    ·(exact Nat.sub_lt_sub_left (by omega) (by omega))
  ·(have hi:=geD hi hz)
   rw [txs_end (by omega)] at hI
   rw [hI]
   (repeat' (first | (refine aN (fun h=>?_) (fun h=>?_)<;>(try simp [-List.getD_eq_getElem?_getD,-Int.pred_toNat] at h)<;>(try (exfalso; first | omega | contradiction))) | (refine rNG ?_) | (refine bN2 ?_) | (refine bN3 ?_) | (intro _)))
   rfl
 rw [if_neg c1] at hR2
 by_cases c4:t.kind = 10
 ·rw [if_pos c4] at hR2
  unfold fieldsF at hR2
  by_cases c2:200 < t.f.length
  ·rw [if_pos c2] at hR2
   rw [hR2]
   (repeat' (first | (refine aN (fun h=>?_) (fun h=>?_)<;>(try simp [-List.getD_eq_getElem?_getD,-Int.pred_toNat] at h)<;>(try (exfalso; first | omega | contradiction))) | (refine rNG ?_) | (refine bN2 ?_) | (refine bN3 ?_) | (intro _)))
   rfl
  rw [if_neg c2] at hR2
  (repeat' (first | (refine aN (fun h=>?_) (fun h=>?_)<;>(try simp [-List.getD_eq_getElem?_getD,-Int.pred_toNat] at h)<;>(try (exfalso; first | omega | contradiction))) | (refine rNG ?_) | (refine bN2 ?_) | (refine bN3 ?_) | (intro _)))
  refine eX [] (eX [] (eX [] (eX Nat (eX (fun i=>i≤(t.f).length∧(R = fdsF (fdAt t.f i) (t.f.drop i))) (eX (fun i=>⟨[(8,.s (if 0 < i then (t.f.getD (i - 1) default).name else [])),(152,.rd .fld t.f),(153,.i .i64 t.f.length),(154,.i .i64 i)],[]⟩) (eX (fun i=>(t.f).length - i) (eX 0 (aN ⟨Nat.zero_le _,hR2⟩ (aN ?_ ?_)))))))))
  ·(repeat' (first | exact trivial | exact Or.inl rfl | exact Or.inr (Or.inl ⟨rfl,_,rfl⟩) | exact Or.inr (Or.inr (Or.inr ⟨_,_,_,rfl,rfl⟩)) | refine aN ?_ ?_))
  rintro i ⟨hi,hI⟩
  refine aN (fun hz=>?_) (fun hz=>?_)
  ·have hi:=ltD hz
   have hg:=getI (τ:=.fld) hi
   refine bN2 ?_
   rw [hg]
   obtain ⟨hv,hs⟩:=(by cases hb with | mk _ _ _ _ _ h _ _=>exact h _ (List.getElem_mem hi):VB t.f[i].dflt∧(sizV t.f[i].dflt).2≤1000000000)
   have hF:fldF (fdAt t.f i) t.f[i] = orI (keyF (fdAt t.f i) t.f[i].name) (orI (chkV t.f[i].dflt 0 0).1 (if t.f[i].hasDef = false∧cmpV t.f[i].dflt zeroV≠0 then 10 else 0)):=rfl
   have hN:=s_nameFault t.f[i].name (if 0 < i then (t.f.getD (i - 1) default).name else []) ((i:Int) == 0)
   have hN2:(if ((i:Int) == 0) = true then none else some (if 0 < i then (t.f.getD (i - 1) default).name else [])) = fdAt t.f i:=by
    unfold fdAt
    by_cases h0:0 < i
    ·rw [if_neg (by rw [beq_iff_eq]; omega),if_pos h0,if_pos h0]
    ·rw [if_pos (by rw [beq_iff_eq]; omega),if_neg h0]
   rw [hN2] at hN
   have hC:=s_fault t.f[i].dflt hv hs
   rw [← chk_T] at hC
   have hP:=PSpec.arg (args':=[.agg (encVal t.f[i].dflt),.agg [.i .i64 0,.i .i64 0,.i .u64 0,.s [],.nl,.nl]]) (s_same t.f[i].dflt zeroV hv (.mk zeroV ⟨by decide,by decide⟩ ⟨by decide,by decide⟩ ⟨by decide,by decide⟩ (fun _ h=>nomatch h) (fun _ h=>nomatch h))) (by (repeat' (first | exact trivial | exact Or.inl rfl | exact Or.inr ⟨rfl,_,rfl⟩ | refine aN ?_ ?_)))
   have hpv:(if 0 < i + 1 then (t.f.getD (i + 1 - 1) default).name else []) = t.f[i].name:=by
    rw [if_pos (by omega),Nat.add_sub_cancel,List.getD_eq_getElem?_getD,List.getElem?_eq_getElem hi]
    rfl
   (repeat' (first | (refine aN (fun h=>?_) (fun h=>?_)<;>(try simp [-List.getD_eq_getElem?_getD,-Int.pred_toNat] at h)<;>(try (exfalso; first | omega | contradiction))) | (refine rNG ?_) | (refine bN2 ?_) | (refine bN3 ?_) | (intro _)))
   refine Or.inl (eX _ (aN (hN) ?_))
   by_cases k1:keyF (fdAt t.f i) t.f[i].name = 0
   rotate_left
   ·rw [orI_ne k1] at hF
    rw [fds_stop hi (by rw [hF]; exact k1),hF] at hI
    rw [hI]
    (repeat' (first | (refine aN (fun h=>?_) (fun h=>?_)<;>(try simp [-List.getD_eq_getElem?_getD,-Int.pred_toNat] at h)<;>(try (exfalso; first | omega | contradiction))) | (refine rNG ?_) | (refine bN2 ?_) | (refine bN3 ?_) | (intro _)))
    rfl
   rw [k1,orI_zero] at hF
   rw [k1]
   (repeat' (first | (refine aN (fun h=>?_) (fun h=>?_)<;>(try simp [-List.getD_eq_getElem?_getD,-Int.pred_toNat] at h)<;>(try (exfalso; first | omega | contradiction))) | (refine rNG ?_) | (refine bN2 ?_) | (refine bN3 ?_) | (intro _)))
   refine Or.inl (eX _ (aN (hC) ?_))
   by_cases k2:(chkV t.f[i].dflt 0 0).1 = 0
   rotate_left
   ·rw [orI_ne k2] at hF
    rw [fds_stop hi (by rw [hF]; exact k2),hF] at hI
    rw [hI]
    (repeat' (first | (refine aN (fun h=>?_) (fun h=>?_)<;>(try simp [-List.getD_eq_getElem?_getD,-Int.pred_toNat] at h)<;>(try (exfalso; first | omega | contradiction))) | (refine rNG ?_) | (refine bN2 ?_) | (refine bN3 ?_) | (intro _)))
    rfl
   rw [k2,orI_zero] at hF
   rw [k2]
   cases hd:t.f[i].hasDef with
   | true =>
    rw [hd,if_neg (fun h=>by cases h.1)] at hF
    rw [fds_go hi hF] at hI
    (repeat' (first | (refine aN (fun h=>?_) (fun h=>?_)<;>(try simp [-List.getD_eq_getElem?_getD,-Int.pred_toNat] at h)<;>(try (exfalso; first | omega | contradiction))) | (refine rNG ?_) | (refine bN2 ?_) | (refine bN3 ?_) | (intro _)))
    refine eX [] (eX (i + 1) (aN ⟨hi,hI⟩ (aN ?_ ?_)))
    ·dsimp only
     rw [hpv]
     (repeat' (first | exact trivial | exact Or.inl rfl | exact Or.inr (Or.inl ⟨rfl,_,rfl⟩) | exact Or.inr (Or.inr (Or.inr ⟨_,_,_,rfl,rfl⟩)) | refine aN ?_ ?_))
    ·(exact Nat.sub_lt_sub_left (by omega) (by omega))
   | false =>
    by_cases k3:cmpV t.f[i].dflt zeroV = 0
    ·rw [if_neg (fun h=>h.2 k3)] at hF
     rw [fds_go hi hF] at hI
     rw [decide_eq_true k3] at hP
     (repeat' (first | (refine aN (fun h=>?_) (fun h=>?_)<;>(try simp [-List.getD_eq_getElem?_getD,-Int.pred_toNat] at h)<;>(try (exfalso; first | omega | contradiction))) | (refine rNG ?_) | (refine bN2 ?_) | (refine bN3 ?_) | (intro _)))
     refine Or.inl (eX _ (aN (hP) ?_))
     (repeat' (first | (refine aN (fun h=>?_) (fun h=>?_)<;>(try simp [-List.getD_eq_getElem?_getD,-Int.pred_toNat] at h)<;>(try (exfalso; first | omega | contradiction))) | (refine rNG ?_) | (refine bN2 ?_) | (refine bN3 ?_) | (intro _)))
     refine eX [] (eX (i + 1) (aN ⟨hi,hI⟩ (aN ?_ ?_)))
     ·dsimp only
      rw [hpv]
      (repeat' (first | exact trivial | exact Or.inl rfl | exact Or.inr (Or.inl ⟨rfl,_,rfl⟩) | exact Or.inr (Or.inr (Or.inr ⟨_,_,_,rfl,rfl⟩)) | refine aN ?_ ?_))
     ·(exact Nat.sub_lt_sub_left (by omega) (by omega))
    ·rw [if_pos ⟨hd,k3⟩] at hF
     rw [fds_stop hi (by rw [hF]; decide),hF] at hI
     rw [decide_eq_false k3] at hP
     rw [hI]
     (repeat' (first | (refine aN (fun h=>?_) (fun h=>?_)<;>(try simp [-List.getD_eq_getElem?_getD,-Int.pred_toNat] at h)<;>(try (exfalso; first | omega | contradiction))) | (refine rNG ?_) | (refine bN2 ?_) | (refine bN3 ?_) | (intro _)))
     refine Or.inl (eX _ (aN (hP) ?_))
     (repeat' (first | (refine aN (fun h=>?_) (fun h=>?_)<;>(try simp [-List.getD_eq_getElem?_getD,-Int.pred_toNat] at h)<;>(try (exfalso; first | omega | contradiction))) | (refine rNG ?_) | (refine bN2 ?_) | (refine bN3 ?_) | (intro _)))
     rfl
  ·(have hi:=geD hi hz)
   rw [fds_end (by omega)] at hI
   rw [hI]
   (repeat' (first | (refine aN (fun h=>?_) (fun h=>?_)<;>(try simp [-List.getD_eq_getElem?_getD,-Int.pred_toNat] at h)<;>(try (exfalso; first | omega | contradiction))) | (refine rNG ?_) | (refine bN2 ?_) | (refine bN3 ?_) | (intro _)))
   rfl
 rw [if_neg c4] at hR2
 by_cases c5:t.kind = 12
 ·rw [if_pos c5] at hR2
  have hD:=s_defOf s t.name hn
  by_cases c6:defI s.defs t.name < 0
  ·rw [if_pos c6] at hR2
   rw [hR2]
   (repeat' (first | (refine aN (fun h=>?_) (fun h=>?_)<;>(try simp [-List.getD_eq_getElem?_getD,-Int.pred_toNat] at h)<;>(try (exfalso; first | omega | contradiction))) | (refine rNG ?_) | (refine bN2 ?_) | (refine bN3 ?_) | (intro _)))
   refine Or.inl (eX _ (aN (hD) ?_))
   (repeat' (first | (refine aN (fun h=>?_) (fun h=>?_)<;>(try simp [-List.getD_eq_getElem?_getD,-Int.pred_toNat] at h)<;>(try (exfalso; first | omega | contradiction))) | (refine rNG ?_) | (refine bN2 ?_) | (refine bN3 ?_) | (intro _)))
   rfl
  ·rw [if_neg c6] at hR2
   rw [hR2]
   (repeat' (first | (refine aN (fun h=>?_) (fun h=>?_)<;>(try simp [-List.getD_eq_getElem?_getD,-Int.pred_toNat] at h)<;>(try (exfalso; first | omega | contradiction))) | (refine rNG ?_) | (refine bN2 ?_) | (refine bN3 ?_) | (intro _)))
   refine Or.inl (eX _ (aN (hD) ?_))
   (repeat' (first | (refine aN (fun h=>?_) (fun h=>?_)<;>(try simp [-List.getD_eq_getElem?_getD,-Int.pred_toNat] at h)<;>(try (exfalso; first | omega | contradiction))) | (refine rNG ?_) | (refine bN2 ?_) | (refine bN3 ?_) | (intro _)))
   rfl
 rw [if_neg c5] at hR2
 rw [hR2]
 (repeat' (first | (refine aN (fun h=>?_) (fun h=>?_)<;>(try simp [-List.getD_eq_getElem?_getD,-Int.pred_toNat] at h)<;>(try (exfalso; first | omega | contradiction))) | (refine rNG ?_) | (refine bN2 ?_) | (refine bN3 ?_) | (intro _)))
 rfl
theorem s_typeFault (hu:HasU8) (s:SchemaR) (t:TypR) (hb:TB t) (hn:s.defs.length≤2000000):PSpec Tryd.prog 89 [.agg (encSch s),.agg (encTyp t)] (.i .i64 (typeF s.defs t)) :=
 pspec_of_VCs Γ_good Tryd.func89 rfl Tryd.call89 Tryd.results89 Tryd.ntmps89 (Nat.le_of_ble_eq_true rfl) (w_typeFault hu s t hb hn) Γ_good
end
end Go.Proofs.YtdcdmojbkmedpaaDoor
end
section
namespace Go.Proofs.YtdcdmojbkmedpaaDoor
open Go Go.SX Go.Ck Go.Vl Go.Ut Go.Ty
set_option maxRecDepth 100000
set_option maxHeartbeats 4000000
section
variable [G:Globs]
theorem w_reached (s:SchemaR) (hd:∀ d ∈ s.defs,CT s.defs d.t∧TB d.t) (hm:s.defs.length≤1000) (t:TypR) (ht:CT s.defs t) (hb:TB t) (hw:tyN t + restN s.defs []≤100000):vc Tryd.prog Γ 58 [2,3,4,5,6,7,8,9,15,22,27,34,40,1000,1001] (Tryd.f90.body.getD .skip) (postBK Γ [.tmp 4,.tmp 5] (.tup [.ob 1000 1000 (.mp .str .bool (comeA s.defs t).2),.vec 1001 .typ (comeA s.defs t).1]) []) ⟨argSlots 0 [.agg (encSch s),.agg (encTyp t)],[]⟩:=by
 have hK:comeA s.defs t = (([]:List TypR)++(comeL (comeF s.defs (need s.defs t [] + 1)) ([t].drop 0) []).1,(comeL (comeF s.defs (need s.defs t [] + 1)) ([t].drop 0) []).2):=by
  show comeF s.defs (need s.defs t [] + 1) t [] = (((comeF s.defs (need s.defs t [] + 1) t []).1++[]),_)
  rw [List.append_nil]
  rfl
 have hN:wkN s.defs ([t].drop 0) [] < need s.defs t [] + 1:=by
  show wkN s.defs [t] [] < _
  rw [need_wk]
  exact Nat.lt_succ_self _
 generalize need s.defs t [] = k at hK hN
 generalize comeA s.defs t = R at hK ⊢
 (repeat' (first | (refine aN (fun h=>?_) (fun h=>?_)<;>(try simp [-List.getD_eq_getElem?_getD,-Int.pred_toNat] at h)<;>(try (exfalso; first | omega | contradiction))) | (refine rNG ?_) | (refine bN2 ?_) | (refine bN3 ?_) | (intro _)))
 refine eX [(7,7,.typ)] (eX [] (eX [(12,8),(10,6)] (eX (List TypR × Nat × Met × List TypR) (eX (fun q=>q.2.1≤q.1.length∧R = (q.2.2.2++(comeL (comeF s.defs (k + 1)) (q.1.drop q.2.1) q.2.2.1).1,(comeL (comeF s.defs (k + 1)) (q.1.drop q.2.1) q.2.2.1).2)∧wkN s.defs (q.1.drop q.2.1) q.2.2.1 < k + 1∧(∀ x ∈ q.1.drop q.2.1,CT s.defs x∧TB x)∧sumN (q.1.drop q.2.1) + q.2.2.2.length + restN s.defs q.2.2.1≤100000∧q.2.2.1.length + Ty.cnt s.defs q.2.2.1≤1000) (eX (fun ⟨l,j,es,pre⟩=>⟨[(2,.pt 2 0),(6,.ob 6 6 (.mp .str .bool es)),(7,.vec 7 .typ pre),(8,.vs 8 .typ l j)],[(2,encSch s)]⟩) (eX (fun q=>wkN s.defs (q.1.drop q.2.1) q.2.2.1) (eX ([t],0,[],[]) (aN ⟨Nat.zero_le _,hK,hN,?_,?_,?_⟩ (aN ?_ ?_)))))))))
 ·intro x hx
  have hx:x ∈ [t]:=hx
  obtain rfl:=List.mem_singleton.1 hx
  exact ⟨ht,hb⟩
 ·show sumN [t] + 0 + restN s.defs []≤100000
  rw [sumN_cons]
  show tyN t + 0 + 0 + restN s.defs []≤100000
  omega
 ·show 0 + Ty.cnt s.defs []≤1000
  rw [cnt_all]
  omega
 ·rw [etaT]
  (repeat' (first | exact trivial | exact Or.inl rfl | exact Or.inr (Or.inl ⟨rfl,_,rfl⟩) | exact Or.inr (Or.inr (Or.inr ⟨_,_,_,rfl,rfl⟩)) | refine aN ?_ ?_))
 rintro ⟨l,j,es,pre⟩ ⟨hj,hI,hN,hT,hS,hM⟩
 dsimp only at hj hI hN hT hS hM
 intro _ _
 refine aN (fun hz=>?_) (fun hz=>?_)
 rotate_left
 ·have hz:l.drop j = []:=List.drop_eq_nil_of_le (by have:¬ (0:Int) < ((l.length - j:Nat):Int):=of_decide_eq_false hz; omega)
  rw [hz] at hI
  have hI:R = (pre,es):=by rw [hI]; show (pre++[],es) = _; rw [List.append_nil]
  subst hI
  (repeat' (first | (refine aN (fun h=>?_) (fun h=>?_)<;>(try simp [-List.getD_eq_getElem?_getD,-Int.pred_toNat] at h)<;>(try (exfalso; first | omega | contradiction))) | (refine rNG ?_) | (refine bN2 ?_) | (refine bN3 ?_) | (intro _)))
  exact eX [(6,1000),(7,1001)] (aN rfl (by (repeat' (first | exact trivial | exact Or.inl rfl | exact Or.inr (Or.inl ⟨rfl,_,rfl⟩) | exact Or.inr (Or.inr (Or.inr ⟨_,_,_,rfl,rfl⟩)) | refine aN ?_ ?_))))
 have hj2:j < l.length:=by have:(0:Int) < ((l.length - j:Nat):Int):=of_decide_eq_true hz; omega
 have eD:=List.drop_eq_getElem_cons hj2
 rw [eD] at hI hN hT hS
 obtain ⟨hx,hxb⟩:=hT l[j] (List.mem_cons_self ..)
 have hr:∀ y ∈ l.drop (j + 1),CT s.defs y∧TB y:=fun y hy=>hT y (List.mem_cons_of_mem _ hy)
 have hg:l.getD (j + Int.toNat 0) (dflt .typ) = l[j]:=by
  show l.getD (j + 0) _ = _
  rw [Nat.add_zero,List.getD_eq_getElem?_getD,List.getElem?_eq_getElem hj2]
  rfl
 rw [sumN_cons] at hS
 have hpos:=tyN_pos l[j]
 have hlen:=len_sumN (l.drop (j + 1))
 rw [List.length_drop] at hlen
 refine aN ⟨by decide,by omega⟩ ?_
 (conv=>whnf)
 rw [hg]
 by_cases c1:l[j].kind = 11
 ·rw [wk_union (fun d h=>(hd d h).1) hx hN c1] at hI
  have hsp:=sumN_part l[j]
  have hsa:=sumN_append l[j].t (l.drop (j + 1))
  have hlt:=len_sumN l[j].t
  (repeat' (first | (refine aN (fun h=>?_) (fun h=>?_)<;>(try simp [-List.getD_eq_getElem?_getD,-Int.pred_toNat] at h)<;>(try (exfalso; first | omega | contradiction))) | (refine rNG ?_) | (refine bN2 ?_) | (refine bN3 ?_) | (intro _)))
  (refine aN (Go.Ty.szB (by (try simp only [List.length_append,List.length_cons,List.length_nil,List.length_map,List.length_take,List.length_drop]); omega) (Nat.le_of_ble_eq_true rfl)) ?_)
  (refine aN (Go.Ty.szB (by (try simp only [List.length_append,List.length_cons,List.length_nil,List.length_map,List.length_take,List.length_drop]); omega) (Nat.le_of_ble_eq_true rfl)) ?_)
  (repeat' (first | (refine aN (fun h=>?_) (fun h=>?_)<;>(try simp [-List.getD_eq_getElem?_getD,-Int.pred_toNat] at h)<;>(try (exfalso; first | omega | contradiction))) | (refine rNG ?_) | (refine bN2 ?_) | (refine bN3 ?_) | (intro _)))
  refine eX [(33,8)] (eX (l[j].t++l.drop (j + 1),0,es,pre) (aN ⟨Nat.zero_le _,hI,Nat.lt_of_lt_of_le wkN_union (Nat.le_of_lt hN),fun y hy=>?_,?_,hM⟩ (aN ?_ ?_)))
  ·rcases List.mem_append.1 hy with hy | hy
   ·exact ⟨hx.part y hy,hxb.inside y (List.mem_append_left _ hy)⟩
   ·exact hr y hy
  ·show sumN (l[j].t++l.drop (j + 1)) + pre.length + restN s.defs es≤100000
   omega
  ·(repeat' (first | exact trivial | exact Or.inl rfl | exact Or.inr (Or.inl ⟨rfl,_,rfl⟩) | exact Or.inr (Or.inr (Or.inr ⟨_,_,_,rfl,rfl⟩)) | refine aN ?_ ?_))
  ·show wkN s.defs (l[j].t++l.drop (j + 1)) es < wkN s.defs (l.drop j) es
   rw [eD]
   exact wkN_union
 by_cases c2:l[j].kind = 12
 rotate_left
 ·rw [wk_part c2 c1] at hI
  (repeat' (first | (refine aN (fun h=>?_) (fun h=>?_)<;>(try simp [-List.getD_eq_getElem?_getD,-Int.pred_toNat] at h)<;>(try (exfalso; first | omega | contradiction))) | (refine rNG ?_) | (refine bN2 ?_) | (refine bN3 ?_) | (intro _)))
  (refine aN (Go.Ty.szB (by (try simp only [List.length_append,List.length_cons,List.length_nil,List.length_map,List.length_take,List.length_drop]); omega) (Nat.le_of_ble_eq_true rfl)) ?_)
  (repeat' (first | (refine aN (fun h=>?_) (fun h=>?_)<;>(try simp [-List.getD_eq_getElem?_getD,-Int.pred_toNat] at h)<;>(try (exfalso; first | omega | contradiction))) | (refine rNG ?_) | (refine bN2 ?_) | (refine bN3 ?_) | (intro _)))
  refine eX [(26,7)] (eX (l,j + 1,es,pre++[l[j]]) (aN ⟨hj2,?_,Nat.lt_of_lt_of_le wkN_tail (Nat.le_of_lt hN),hr,?_,hM⟩ (aN ?_ ?_)))
  ·rw [hI]
   show (_,_) = (_,_)
   rw [List.append_assoc]
   rfl
  ·show sumN (l.drop (j + 1)) + (pre++[l[j]]).length + restN s.defs es≤100000
   rw [List.length_append,List.length_cons,List.length_nil]
   omega
  ·dsimp only
   rw [etaT]
   (repeat' (first | exact trivial | exact Or.inl rfl | exact Or.inr (Or.inl ⟨rfl,_,rfl⟩) | exact Or.inr (Or.inr (Or.inr ⟨_,_,_,rfl,rfl⟩)) | refine aN ?_ ?_))
  ·show wkN s.defs (l.drop (j + 1)) es < wkN s.defs (l.drop j) es
   rw [eD]
   exact wkN_tail
 by_cases c3:met es l[j].name = true
 ·rw [wk_met c2 c3] at hI
  have c3:(mpGet (κ:=.str) (τ:=.bool) es l[j].name).getD false = true:=c3
  (repeat' (first | (refine aN (fun h=>?_) (fun h=>?_)<;>(try simp [-List.getD_eq_getElem?_getD,-Int.pred_toNat] at h)<;>(try (exfalso; first | omega | contradiction))) | (refine rNG ?_) | (refine bN2 ?_) | (refine bN3 ?_) | (intro _)))
  ·exact absurd (show (mpGet (κ:=.str) (τ:=.bool) es l[j].name).getD false = false by assumption) (by rw [c3]; decide)
  (repeat' (first | (refine aN (fun h=>?_) (fun h=>?_)<;>(try simp [-List.getD_eq_getElem?_getD,-Int.pred_toNat] at h)<;>(try (exfalso; first | omega | contradiction))) | (refine rNG ?_) | (refine bN2 ?_) | (refine bN3 ?_) | (intro _)))
  refine eX [] (eX (l,j + 1,es,pre) (aN ⟨hj2,hI,Nat.lt_of_lt_of_le wkN_tail (Nat.le_of_lt hN),hr,?_,hM⟩ (aN ?_ ?_)))
  ·show sumN (l.drop (j + 1)) + pre.length + restN s.defs es≤100000
   omega
  ·(repeat' (first | exact trivial | exact Or.inl rfl | exact Or.inr (Or.inl ⟨rfl,_,rfl⟩) | exact Or.inr (Or.inr (Or.inr ⟨_,_,_,rfl,rfl⟩)) | refine aN ?_ ?_))
  ·show wkN s.defs (l.drop (j + 1)) es < wkN s.defs (l.drop j) es
   rw [eD]
   exact wkN_tail
 ·have c3:met es l[j].name = false:=by simpa using c3
  rw [wk_name (fun d h=>(hd d h).1) hx hN c2 c3] at hI
  have h0:0≤defI s.defs l[j].name:=by cases hx with | mk _ _ h _=>exact h c2
  have hD:=s_defOf s l[j].name (by omega)
  have c4:(mpGet (κ:=.str) (τ:=.bool) es l[j].name).getD false = false:=c3
  have hrf:=restN_ref h0 (es:=es) c3
  have hcr:=cnt_ref h0 (es:=es) c3
  (repeat' (first | (refine aN (fun h=>?_) (fun h=>?_)<;>(try simp [-List.getD_eq_getElem?_getD,-Int.pred_toNat] at h)<;>(try (exfalso; first | omega | contradiction))) | (refine rNG ?_) | (refine bN2 ?_) | (refine bN3 ?_) | (intro _)))
  refine aN (show es.length < 9223372036854775807 by omega) ?_
  (repeat' (first | (refine aN (fun h=>?_) (fun h=>?_)<;>(try simp [-List.getD_eq_getElem?_getD,-Int.pred_toNat] at h)<;>(try (exfalso; first | omega | contradiction))) | (refine rNG ?_) | (refine bN2 ?_) | (refine bN3 ?_) | (intro _)))
  refine eX [.take 0,.take 3,.take 10,.blk [1,2,4,5,6,7,8],.one 9,.one 11,.take 12] (aN (by kernel_rfl) ?_)
  refine eX _ (aN (hD) ?_)
  obtain ⟨g1,g2⟩:=defI_get h0
  have gg:s.defs.getD (defI s.defs l[j].name).toNat (dflt .dfn) = s.defs[(defI s.defs l[j].name).toNat]:=by rw [List.getD_eq_getElem?_getD,List.getElem?_eq_getElem g1]; rfl
  refine aN ⟨h0,by omega⟩ ?_
  (repeat' (first | (refine aN (fun h=>?_) (fun h=>?_)<;>(try simp [-List.getD_eq_getElem?_getD,-Int.pred_toNat] at h)<;>(try (exfalso; first | omega | contradiction))) | (refine rNG ?_) | (refine bN2 ?_) | (refine bN3 ?_) | (intro _)))
  (refine aN (Go.Ty.szB (by (try simp only [List.length_append,List.length_cons,List.length_nil,List.length_map,List.length_take,List.length_drop]); omega) (Nat.le_of_ble_eq_true rfl)) ?_)
  (repeat' (first | (refine aN (fun h=>?_) (fun h=>?_)<;>(try simp [-List.getD_eq_getElem?_getD,-Int.pred_toNat] at h)<;>(try (exfalso; first | omega | contradiction))) | (refine rNG ?_) | (refine bN2 ?_) | (refine bN3 ?_) | (intro _)))
  refine eX [(55,8)] (eX (defT s.defs l[j].name::l.drop (j + 1),0,meet es l[j].name,pre) (aN ⟨Nat.zero_le _,hI,Nat.lt_trans (wkN_name hx c2 c3) hN,fun y hy=>?_,?_,?_⟩ (aN ?_ ?_)))
  ·rcases List.mem_cons.1 hy with rfl | hy
   ·refine ⟨CT.defT (fun d h=>(hd d h).1) h0,?_⟩
    obtain ⟨d,h1,_,e⟩:=defT_mem h0
    rw [← e]
    exact (hd d h1).2
   ·exact hr y hy
  ·show sumN (defT s.defs l[j].name::l.drop (j + 1)) + pre.length + restN s.defs (meet es l[j].name)≤100000
   rw [sumN_cons]
   omega
  ·show (meet es l[j].name).length + Ty.cnt s.defs (meet es l[j].name)≤1000
   omega
  ·dsimp only
   rw [etaT]
   (repeat' (first | exact trivial | exact Or.inl rfl | exact Or.inr (Or.inl ⟨rfl,_,rfl⟩) | exact Or.inr (Or.inr (Or.inr ⟨_,_,_,rfl,rfl⟩)) | refine aN ?_ ?_))
  ·show wkN s.defs (defT s.defs l[j].name::l.drop (j + 1)) (meet es l[j].name) < wkN s.defs (l.drop j) es
   rw [eD]
   exact wkN_name hx c2 c3
theorem s_reached (s:SchemaR) (hd:∀ d ∈ s.defs,CT s.defs d.t∧TB d.t) (hm:s.defs.length≤1000) (t:TypR) (ht:CT s.defs t) (hb:TB t) (hw:tyN t + restN s.defs []≤100000):CSpec Tryd.prog 90 [.agg (encSch s),.agg (encTyp t)] [] (.tup [.ob 1000 1000 (.mp .str .bool (comeA s.defs t).2),.vec 1001 .typ (comeA s.defs t).1]) [] :=
 cspec_of_vc Γ_good Tryd.func90 rfl Tryd.call90 Tryd.results90 Tryd.ntmps90 (Nat.le_of_ble_eq_true rfl) (Nat.le_of_ble_eq_true rfl) (by rfl) (w_reached s hd hm t ht hb hw)
theorem w_partsOf (s:SchemaR) (hd:∀ d ∈ s.defs,CT s.defs d.t∧TB d.t) (hm:s.defs.length≤1000) (t:TypR) (ht:CT s.defs t) (hb:TB t) (hw:tyN t + restN s.defs []≤100000):vc Tryd.prog Γ 14 [2,3,4,6] (Tryd.f39.body.getD .skip) (postK Γ [.tmp 4] (fun v=>v = .rd .typ (comeA s.defs t).1)) ⟨argSlots 0 [.agg (encSch s),.agg (encTyp t)],[]⟩:=by
 have hR:=s_reached s hd hm t ht hb hw
 (repeat' (first | (refine aN (fun h=>?_) (fun h=>?_)<;>(try simp [-List.getD_eq_getElem?_getD,-Int.pred_toNat] at h)<;>(try (exfalso; first | omega | contradiction))) | (refine rNG ?_) | (refine bN2 ?_) | (refine bN3 ?_) | (intro _)))
 refine Or.inr (Or.inl (eX [] (eX _ (eX _ (eX _ (eX _ (eX _ (eX [(1000,11),(1001,12)] (aN (hR) ?_)))))))))
 refine (aN rfl (aN rfl (aN rfl (aN rfl ?_))))
 (repeat' (first | (refine aN (fun h=>?_) (fun h=>?_)<;>(try simp [-List.getD_eq_getElem?_getD,-Int.pred_toNat] at h)<;>(try (exfalso; first | omega | contradiction))) | (refine rNG ?_) | (refine bN2 ?_) | (refine bN3 ?_) | (intro _)))
 rfl
theorem s_partsOf (s:SchemaR) (hd:∀ d ∈ s.defs,CT s.defs d.t∧TB d.t) (hm:s.defs.length≤1000) (t:TypR) (ht:CT s.defs t) (hb:TB t) (hw:tyN t + restN s.defs []≤100000):PSpec Tryd.prog 39 [.agg (encSch s),.agg (encTyp t)] (.rd .typ (comeA s.defs t).1) :=
 pspec_of_vc Γ_good Tryd.func39 rfl Tryd.call39 Tryd.results39 Tryd.ntmps39 (Nat.le_of_ble_eq_true rfl) (w_partsOf s hd hm t ht hb hw)
end
end Go.Proofs.YtdcdmojbkmedpaaDoor
end
section
namespace Go.Proofs.YtdcdmojbkmedpaaDoor
open Go Go.SX Go.Ck Go.Vl Go.Ut Go.Ty
set_option maxRecDepth 100000
set_option maxHeartbeats 20000000
theorem pre_prop {Q:TypR→Prop} (hQ:∀ t,Q t→∀ x ∈ Ty.inside t,Q x):∀ (k:Nat) (t:TypR),SizeOf.sizeOf t < k→Q t→∀ a,∀ p ∈ preT t a,Q p.t:=by
 intro k
 induction k with
 | zero=>intro t h; exact absurd h (Nat.not_lt_zero _)
 | succ k ih =>
  intro t h ht a p hp
  rw [preT_eq] at hp
  rcases List.mem_cons.1 hp with rfl | hp
  ·exact ht
  ·obtain ⟨x,hx,hp⟩:=List.mem_flatMap.1 hp
   exact ih x (by have:=size_inside hx; omega) (hQ t ht x hx) _ p hp
theorem all_prop {Q:TypR→Prop} (hQ:∀ t,Q t→∀ x ∈ Ty.inside t,Q x) {s:SchemaR} (hd:∀ d ∈ s.defs,Q d.t) (hr:Q s.root):∀ p ∈ allP s,Q p.t:=by
 intro p hp
 unfold allP at hp
 rcases List.mem_append.1 hp with hp | hp
 ·obtain ⟨d,h1,hp⟩:=List.mem_flatMap.1 hp
  exact pre_prop hQ _ d.t (Nat.lt_succ_self _) (hd d h1) _ p hp
 ·exact pre_prop hQ _ s.root (Nat.lt_succ_self _) hr _ p hp
theorem sumN_mem {l:List TypR} {x:TypR} (h:x ∈ l):tyN x≤sumN l:=by
 induction l with
 | nil=>exact nomatch h
 | cons y r ih =>
  rw [sumN_cons]
  rcases List.mem_cons.1 h with rfl | h
  ·omega
  ·have:=ih h
   omega
theorem tyN_in {t x:TypR} (h:x ∈ Ty.inside t):tyN x < tyN t:=by
 rw [tyN_eq t]
 have:=sumN_mem h
 omega
theorem tyN_def {l:List DefR} {d:DefR} (h:d ∈ l):tyN d.t≤restN l []:=by
 unfold restN
 rw [rest_all]
 induction l with
 | nil=>exact nomatch h
 | cons y r ih =>
  rw [List.map_cons,List.sum_cons]
  rcases List.mem_cons.1 h with rfl | h
  ·omega
  ·have:=ih h
   omega
theorem tyN_all {s:SchemaR}:∀ p ∈ allP s,tyN p.t≤restN s.defs [] + tyN s.root:=all_prop (Q:=fun t=>tyN t≤restN s.defs [] + tyN s.root) (fun t ht x hx=>by have:=tyN_in hx; omega) (fun d hd=>by have:=tyN_def hd; omega) (by omega)
theorem scan_at {l:List DefR} {A:List TPlace} {i:Nat} (h:i < A.length):(scan l (A.drop i) (i:Int)).1 = if lookF l A[i] (i:Int)≠0 then lookF l A[i] (i:Int) else (scan l (A.drop (i + 1)) ((i + 1:Nat):Int)).1:=by
 rw [List.drop_eq_getElem_cons h,scan]
 by_cases c:lookF l A[i] (i:Int)≠0
 ·rw [if_pos c,if_pos c]
 ·rw [if_neg c,if_neg c]
  rfl
section
variable [G:Globs]
theorem w_schemaFault (hu:HasU8) (s:SchemaR) (hd:∀ d ∈ s.defs,TB d.t) (hr:TB s.root) (hn:s.defs.length≤2000000):vc Tryd.prog Γ 139 [1,2,3,4,5,6,7,8,9,10,11,13,14,17,18,19,21,23,24,26,30,32,33,34,35,46,56,57,58,59,64,69,74,78,79,80,81,94,96,97,98,99,104,105,106,109,110,111,112,121,122,123,124,129,136] (Tryd.f33.body.getD .skip) (postK Γ [.tmp 2] (fun v=>v = .i .i64 (checkS s))) ⟨argSlots 0 [.agg (encSch s)],[]⟩:=by
 by_cases c1:50 < s.defs.length
 ·have hR:checkS s = 2:=if_pos c1
  rw [hR]
  (repeat' (first | (refine aN (fun h=>?_) (fun h=>?_)<;>(try simp [-List.getD_eq_getElem?_getD,-Int.pred_toNat] at h)<;>(try (exfalso; first | omega | contradiction))) | (refine rNG ?_) | (refine bN2 ?_) | (refine bN3 ?_) | (intro _)))
  rfl
 have hR:checkS s = orI (nmsF none (s.defs.map (·.name))) (orI (scan s.defs (allP s) 0).1 (if s.defs.any (cirF s.defs) = true then 11 else clsF s.defs (allP s))):=if_neg c1
 generalize checkS s = R at hR ⊢
 have hnl:(s.defs.map (·.name)).length = s.defs.length:=List.length_map ..
 (repeat' (first | (refine aN (fun h=>?_) (fun h=>?_)<;>(try simp [-List.getD_eq_getElem?_getD,-Int.pred_toNat] at h)<;>(try (exfalso; first | omega | contradiction))) | (refine rNG ?_) | (refine bN2 ?_) | (refine bN3 ?_) | (intro _)))
 refine eX [] (eX [] (eX [] (eX Nat (eX (fun i=>i≤(s.defs).length∧(nmsF none (s.defs.map (·.name)) = nmsF (nmAt (s.defs.map (·.name)) i) ((s.defs.map (·.name)).drop i))) (eX (fun i=>⟨[(1,.pt 1 0),(3,.s (if 0 < i then (s.defs.map (·.name)).getD (i - 1) [] else [])),(32,.rd .dfn s.defs),(33,.i .i64 s.defs.length),(34,.i .i64 i)],[(1,encSch s)]⟩) (eX (fun i=>(s.defs).length - i) (eX 0 (aN ⟨Nat.zero_le _,rfl⟩ (aN ?_ ?_)))))))))
 ·(repeat' (first | exact trivial | exact Or.inl rfl | exact Or.inr (Or.inl ⟨rfl,_,rfl⟩) | exact Or.inr (Or.inr (Or.inr ⟨_,_,_,rfl,rfl⟩)) | refine aN ?_ ?_))
 rintro i ⟨hi,hI⟩
 refine aN (fun hz=>?_) (fun hz=>?_)
 ·have hi:=ltD hz
  have hg:=getI (τ:=.dfn) hi
  refine bN2 ?_
  rw [hg]
  have hi2:i < (s.defs.map (·.name)).length:=by omega
  have hni:(s.defs.map (·.name))[i] = s.defs[i].name:=by rw [List.getElem_map]
  have hN:=s_nameFault s.defs[i].name (if 0 < i then (s.defs.map (·.name)).getD (i - 1) [] else []) ((i:Int) == 0)
  have hN2:(if ((i:Int) == 0) = true then none else some (if 0 < i then (s.defs.map (·.name)).getD (i - 1) [] else [])) = nmAt (s.defs.map (·.name)) i:=by
   unfold nmAt
   by_cases h0:0 < i
   ·rw [if_neg (by rw [beq_iff_eq]; omega),if_pos h0,if_pos h0]
   ·rw [if_pos (by rw [beq_iff_eq]; omega),if_neg h0]
  rw [hN2] at hN
  have hpv:(if 0 < i + 1 then (s.defs.map (·.name)).getD (i + 1 - 1) [] else []) = s.defs[i].name:=by
   rw [if_pos (by omega),Nat.add_sub_cancel,List.getD_eq_getElem?_getD,List.getElem?_eq_getElem hi2,← hni]
   rfl
  (repeat' (first | (refine aN (fun h=>?_) (fun h=>?_)<;>(try simp [-List.getD_eq_getElem?_getD,-Int.pred_toNat] at h)<;>(try (exfalso; first | omega | contradiction))) | (refine rNG ?_) | (refine bN2 ?_) | (refine bN3 ?_) | (intro _)))
  refine Or.inl (eX _ (aN (hN) ?_))
  by_cases k1:keyF (nmAt (s.defs.map (·.name)) i) s.defs[i].name = 0
  rotate_left
  ·rw [nms_stop hi2 (by rw [hni]; exact k1),hni] at hI
   rw [hI,orI_ne k1] at hR
   rw [hR]
   (repeat' (first | (refine aN (fun h=>?_) (fun h=>?_)<;>(try simp [-List.getD_eq_getElem?_getD,-Int.pred_toNat] at h)<;>(try (exfalso; first | omega | contradiction))) | (refine rNG ?_) | (refine bN2 ?_) | (refine bN3 ?_) | (intro _)))
   rfl
  rw [nms_go hi2 (by rw [hni]; exact k1)] at hI
  rw [k1]
  (repeat' (first | (refine aN (fun h=>?_) (fun h=>?_)<;>(try simp [-List.getD_eq_getElem?_getD,-Int.pred_toNat] at h)<;>(try (exfalso; first | omega | contradiction))) | (refine rNG ?_) | (refine bN2 ?_) | (refine bN3 ?_) | (intro _)))
  refine eX [] (eX (i + 1) (aN ⟨hi,hI⟩ (aN ?_ ?_)))
  ·dsimp only
   rw [hpv]
   (repeat' (first | exact trivial | exact Or.inl rfl | exact Or.inr (Or.inl ⟨rfl,_,rfl⟩) | exact Or.inr (Or.inr (Or.inr ⟨_,_,_,rfl,rfl⟩)) | refine aN ?_ ?_))
  ·(exact Nat.sub_lt_sub_left (by omega) (by omega))
 (have hi:=geD hi hz)
 rw [nms_end (by omega)] at hI
 rw [hI,orI_zero] at hR
 clear hI
 have hG:=s_gone s hd hr hn
 have hsc:(scan s.defs ((allP s).take 201) 0).1 = (scan s.defs (allP s) 0).1:=congrArg Prod.fst (scan_take s.defs (allP s) 0 (by decide))
 have hsz:=fun h=>scan_zero (l:=s.defs) (allP s) 0 (by decide) h
 have hmem:∀ p ∈ (allP s).take 201,TB p.t:=fun p hp=>all_prop (Q:=TB) (fun t ht x hx=>ht.inside x hx) hd hr p (List.mem_of_mem_take hp)
 have hAl:((allP s).take 201).length≤201:=List.length_take_le ..
 generalize hA:(allP s).take 201 = A at hsc hG hmem hAl
 rw [← hsc] at hR
 have hml:(A.map (·.t)).length = A.length:=List.length_map ..
 have hml2:(A.map (·.around)).length = A.length:=List.length_map ..
 (repeat' (first | (refine aN (fun h=>?_) (fun h=>?_)<;>(try simp [-List.getD_eq_getElem?_getD,-Int.pred_toNat] at h)<;>(try (exfalso; first | omega | contradiction))) | (refine rNG ?_) | (refine bN2 ?_) | (refine bN3 ?_) | (intro _)))
 refine Or.inl (eX _ (aN (hG) ?_))
 (repeat' (first | (refine aN (fun h=>?_) (fun h=>?_)<;>(try simp [-List.getD_eq_getElem?_getD,-Int.pred_toNat] at h)<;>(try (exfalso; first | omega | contradiction))) | (refine rNG ?_) | (refine bN2 ?_) | (refine bN3 ?_) | (intro _)))
 refine eX [] (eX [] (eX [] (eX Nat (eX (fun i=>i≤((A.map (·.t))).length∧((scan s.defs A 0).1 = (scan s.defs (A.drop i) (i:Int)).1)) (eX (fun i=>⟨[(1,.pt 1 0),(7,.rd .typ (A.map (·.t))),(8,.rd .int (A.map (·.around))),(56,.rd .typ (A.map (·.t))),(57,.i .i64 (A.map (·.t)).length),(58,.i .i64 i)],[(1,encSch s)]⟩) (eX (fun i=>((A.map (·.t))).length - i) (eX 0 (aN ⟨Nat.zero_le _,rfl⟩ (aN ?_ ?_)))))))))
 ·(repeat' (first | exact trivial | exact Or.inl rfl | exact Or.inr (Or.inl ⟨rfl,_,rfl⟩) | exact Or.inr (Or.inr (Or.inr ⟨_,_,_,rfl,rfl⟩)) | refine aN ?_ ?_))
 rintro i ⟨hi,hI⟩
 refine aN (fun hz=>?_) (fun hz=>?_)
 ·have hi:=ltD hz
  have hg:=getI (τ:=.typ) hi
  refine bN2 ?_
  rw [hg]
  have hiA:i < A.length:=by omega
  have eT:(A.map (·.t))[i] = A[i].t:=by rw [List.getElem_map]
  have hg2:(A.map (·.around)).getD (i:Int).toNat (dflt .int) = A[i].around:=by
   show (A.map (·.around)).getD i 0 = _
   rw [List.getD_eq_getElem?_getD,List.getElem?_eq_getElem (by omega),List.getElem_map]
   rfl
  have hg3:@Eq Int ((A.map (·.around)).getD i (dflt .int)) A[i].around:=hg2
  rw [eT]
  have hTF:=s_typeFault hu s A[i].t (hmem _ (List.getElem_mem hiA)) hn
  rw [scan_at hiA] at hI
  have hL:lookF s.defs A[i] (i:Int) = if 200 < (i:Int) + 1 then 2 else if 20≤A[i].around then 5 else typeF s.defs A[i].t:=rfl
  by_cases b1:200 < (i:Int) + 1
  ·rw [if_pos b1] at hL
   rw [hL,if_pos (by decide)] at hI
   rw [hI,orI_ne (by decide)] at hR
   rw [hR]
   (repeat' (first | (refine aN (fun h=>?_) (fun h=>?_)<;>(try simp [-List.getD_eq_getElem?_getD,-Int.pred_toNat] at h)<;>(try (exfalso; first | omega | contradiction))) | (refine rNG ?_) | (refine bN2 ?_) | (refine bN3 ?_) | (intro _)))
   rfl
  rw [if_neg b1] at hL
  by_cases b2:20≤A[i].around
  ·rw [if_pos b2] at hL
   rw [hL,if_pos (by decide)] at hI
   rw [hI,orI_ne (by decide)] at hR
   rw [hR]
   (repeat' (first | (refine aN (fun h=>?_) (fun h=>?_)<;>(try simp [-List.getD_eq_getElem?_getD,-Int.pred_toNat] at h)<;>(try (exfalso; first | omega | contradiction))) | (refine rNG ?_) | (refine bN2 ?_) | (refine bN3 ?_) | (intro _)))
   rfl
  rw [if_neg b2] at hL
  by_cases b3:typeF s.defs A[i].t = 0
  rotate_left
  ·rw [hL,if_pos b3] at hI
   rw [hI,orI_ne b3] at hR
   rw [hR]
   (repeat' (first | (refine aN (fun h=>?_) (fun h=>?_)<;>(try simp [-List.getD_eq_getElem?_getD,-Int.pred_toNat] at h)<;>(try (exfalso; first | omega | contradiction))) | (refine rNG ?_) | (refine bN2 ?_) | (refine bN3 ?_) | (intro _)))
   refine Or.inl (eX _ (aN (hTF) ?_))
   (repeat' (first | (refine aN (fun h=>?_) (fun h=>?_)<;>(try simp [-List.getD_eq_getElem?_getD,-Int.pred_toNat] at h)<;>(try (exfalso; first | omega | contradiction))) | (refine rNG ?_) | (refine bN2 ?_) | (refine bN3 ?_) | (intro _)))
   rfl
  ·rw [hL,if_neg (fun h=>h b3)] at hI
   rw [b3] at hTF
   (repeat' (first | (refine aN (fun h=>?_) (fun h=>?_)<;>(try simp [-List.getD_eq_getElem?_getD,-Int.pred_toNat] at h)<;>(try (exfalso; first | omega | contradiction))) | (refine rNG ?_) | (refine bN2 ?_) | (refine bN3 ?_) | (intro _)))
   refine Or.inl (eX _ (aN (hTF) ?_))
   (repeat' (first | (refine aN (fun h=>?_) (fun h=>?_)<;>(try simp [-List.getD_eq_getElem?_getD,-Int.pred_toNat] at h)<;>(try (exfalso; first | omega | contradiction))) | (refine rNG ?_) | (refine bN2 ?_) | (refine bN3 ?_) | (intro _)))
   refine eX [] (eX (i + 1) (aN ⟨by omega,hI⟩ (aN ?_ ?_)))
   ·(repeat' (first | exact trivial | exact Or.inl rfl | exact Or.inr (Or.inl ⟨rfl,_,rfl⟩) | exact Or.inr (Or.inr (Or.inr ⟨_,_,_,rfl,rfl⟩)) | refine aN ?_ ?_))
   ·(exact Nat.sub_lt_sub_left (by omega) (by omega))
 (have hi:=geD hi hz)
 rw [List.drop_eq_nil_of_le (by omega)] at hI
 have hI:(scan s.defs A 0).1 = 0:=hI
 rw [hI,orI_zero] at hR
 have hz0:(scan s.defs (allP s) 0).1 = 0:=hsc ▸ hI
 obtain ⟨hB,hL⟩:=sb_of hd hr (by omega) hz0
 obtain rfl:A = allP s:=by rw [← hA,List.take_of_length_le (by have:=(hsz hz0).2; omega)]
 (repeat' (first | (refine aN (fun h=>?_) (fun h=>?_)<;>(try simp [-List.getD_eq_getElem?_getD,-Int.pred_toNat] at h)<;>(try (exfalso; first | omega | contradiction))) | (refine rNG ?_) | (refine bN2 ?_) | (refine bN3 ?_) | (intro _)))
 refine eX [] (eX [] (eX [] (eX Nat (eX (fun i=>i≤(s.defs).length∧(s.defs.any (cirF s.defs) = (s.defs.drop i).any (cirF s.defs))) (eX (fun i=>⟨[(1,.pt 1 0),(7,.rd .typ ((allP s).map (·.t))),(78,.rd .dfn s.defs),(79,.i .i64 s.defs.length),(80,.i .i64 i)],[(1,encSch s)]⟩) (eX (fun i=>(s.defs).length - i) (eX 0 (aN ⟨Nat.zero_le _,rfl⟩ (aN ?_ ?_)))))))))
 ·(repeat' (first | exact trivial | exact Or.inl rfl | exact Or.inr (Or.inl ⟨rfl,_,rfl⟩) | exact Or.inr (Or.inr (Or.inr ⟨_,_,_,rfl,rfl⟩)) | refine aN ?_ ?_))
 rintro i ⟨hi,hI⟩
 refine aN (fun hz=>?_) (fun hz=>?_)
 ·have hi:=ltD hz
  have hg:=getI (τ:=.dfn) hi
  refine bN2 ?_
  rw [hg]
  have hx:=List.getElem_mem hi
  have hRe:=s_reached s hB.defs hB.many s.defs[i].t (hB.defs _ hx).1 (hB.defs _ hx).2 (by have:=tyN_def hx; have:=hB.types; omega)
  have hC:cirF s.defs s.defs[i] = (mpGet (κ:=.str) (τ:=.bool) (comeA s.defs s.defs[i].t).2 s.defs[i].name).getD false:=rfl
  rw [List.drop_eq_getElem_cons hi,List.any_cons,hC] at hI
  (repeat' (first | (refine aN (fun h=>?_) (fun h=>?_)<;>(try simp [-List.getD_eq_getElem?_getD,-Int.pred_toNat] at h)<;>(try (exfalso; first | omega | contradiction))) | (refine rNG ?_) | (refine bN2 ?_) | (refine bN3 ?_) | (intro _)))
  refine Or.inr (Or.inl (eX [] (eX _ (eX _ (eX _ (eX _ (eX _ (eX [(1000,89),(1001,90)] (aN (hRe) ?_)))))))))
  refine (aN rfl (aN rfl (aN rfl (aN rfl ?_))))
  (repeat' (first | (refine aN (fun h=>?_) (fun h=>?_)<;>(try simp [-List.getD_eq_getElem?_getD,-Int.pred_toNat] at h)<;>(try (exfalso; first | omega | contradiction))) | (refine rNG ?_) | (refine bN2 ?_) | (refine bN3 ?_) | (intro _)))
  ·have hq:(mpGet (κ:=.str) (τ:=.bool) (comeA s.defs s.defs[i].t).2 s.defs[i].name).getD false = true:=by assumption
   rw [hq,Bool.true_or] at hI
   rw [hI,if_pos rfl] at hR
   rw [hR]
   (repeat' (first | (refine aN (fun h=>?_) (fun h=>?_)<;>(try simp [-List.getD_eq_getElem?_getD,-Int.pred_toNat] at h)<;>(try (exfalso; first | omega | contradiction))) | (refine rNG ?_) | (refine bN2 ?_) | (refine bN3 ?_) | (intro _)))
   rfl
  ·have hq:(mpGet (κ:=.str) (τ:=.bool) (comeA s.defs s.defs[i].t).2 s.defs[i].name).getD false = false:=by assumption
   rw [hq,Bool.false_or] at hI
   (repeat' (first | (refine aN (fun h=>?_) (fun h=>?_)<;>(try simp [-List.getD_eq_getElem?_getD,-Int.pred_toNat] at h)<;>(try (exfalso; first | omega | contradiction))) | (refine rNG ?_) | (refine bN2 ?_) | (refine bN3 ?_) | (intro _)))
   refine eX [] (eX (i + 1) (aN ⟨hi,hI⟩ (aN ?_ ?_)))
   ·(repeat' (first | exact trivial | exact Or.inl rfl | exact Or.inr (Or.inl ⟨rfl,_,rfl⟩) | exact Or.inr (Or.inr (Or.inr ⟨_,_,_,rfl,rfl⟩)) | refine aN ?_ ?_))
   ·(exact Nat.sub_lt_sub_left (by omega) (by omega))
 (have hi:=geD hi hz)
 rw [List.drop_eq_nil_of_le (by omega)] at hI
 rw [hI,if_neg (by intro h; cases h),clsF_doc (fun d h=>(hB.defs d h).1) (allP s) (ct_all hB)] at hR
 have hR:R = if ((allP s).drop 0).any (fun p=>dcl s.defs p.t) = true then 13 else 0:=hR
 clear hI
 (repeat' (first | (refine aN (fun h=>?_) (fun h=>?_)<;>(try simp [-List.getD_eq_getElem?_getD,-Int.pred_toNat] at h)<;>(try (exfalso; first | omega | contradiction))) | (refine rNG ?_) | (refine bN2 ?_) | (refine bN3 ?_) | (intro _)))
 refine eX [] (eX [] (eX [] (eX Nat (eX (fun i=>i≤(((allP s).map (·.t))).length∧(R = if ((allP s).drop i).any (fun p=>dcl s.defs p.t) = true then 13 else 0)) (eX (fun i=>⟨[(1,.pt 1 0),(96,.rd .typ ((allP s).map (·.t))),(97,.i .i64 ((allP s).map (·.t)).length),(98,.i .i64 i)],[(1,encSch s)]⟩) (eX (fun i=>(((allP s).map (·.t))).length - i) (eX 0 (aN ⟨Nat.zero_le _,hR⟩ (aN ?_ ?_)))))))))
 ·(repeat' (first | exact trivial | exact Or.inl rfl | exact Or.inr (Or.inl ⟨rfl,_,rfl⟩) | exact Or.inr (Or.inr (Or.inr ⟨_,_,_,rfl,rfl⟩)) | refine aN ?_ ?_))
 rintro i ⟨hi,hI⟩
 refine aN (fun hz=>?_) (fun hz=>?_)
 ·have hi:=ltD hz
  have hg:=getI (τ:=.typ) hi
  refine bN2 ?_
  rw [hg]
  have hiA:i < (allP s).length:=by omega
  have eT:((allP s).map (·.t))[i] = (allP s)[i].t:=by rw [List.getElem_map]
  rw [eT]
  have hx:=List.getElem_mem hiA
  have hxc:=ct_all hB _ hx
  have hxt:=hmem _ hx
  have hxn:=tyN_all _ hx
  rw [List.drop_eq_getElem_cons hiA,List.any_cons] at hI
  generalize (allP s)[i].t = t at hI hxc hxt hxn
  have hdc:dcl s.defs t = (decide (t.kind = 11) && (List.range 7).any fun j=>decide (1 < t.t.countP fun x=>tl s.defs x j)):=rfl
  by_cases k1:t.kind = 11
  rotate_left
  ·rw [hdc,decide_eq_false k1,Bool.false_and,Bool.false_or] at hI
   (repeat' (first | (refine aN (fun h=>?_) (fun h=>?_)<;>(try simp [-List.getD_eq_getElem?_getD,-Int.pred_toNat] at h)<;>(try (exfalso; first | omega | contradiction))) | (refine rNG ?_) | (refine bN2 ?_) | (refine bN3 ?_) | (intro _)))
   refine eX [] (eX (i + 1) (aN ⟨by omega,hI⟩ (aN ?_ ?_)))
   ·(repeat' (first | exact trivial | exact Or.inl rfl | exact Or.inr (Or.inl ⟨rfl,_,rfl⟩) | exact Or.inr (Or.inr (Or.inr ⟨_,_,_,rfl,rfl⟩)) | refine aN ?_ ?_))
   ·(exact Nat.sub_lt_sub_left (by omega) (by omega))
  rw [decide_eq_true k1,Bool.true_and] at hdc
  (repeat' (first | (refine aN (fun h=>?_) (fun h=>?_)<;>(try simp [-List.getD_eq_getElem?_getD,-Int.pred_toNat] at h)<;>(try (exfalso; first | omega | contradiction))) | (refine rNG ?_) | (refine bN2 ?_) | (refine bN3 ?_) | (intro _)))
  refine eX [] (eX [] (eX [] (eX Nat (eX (fun k=>k≤7∧∀ j,j < k→¬ 1 < t.t.countP fun x=>tl s.defs x j) (eX (fun k=>⟨[(1,.pt 1 0),(17,.pt 17 0),(96,.rd .typ ((allP s).map (·.t))),(97,.i .i64 ((allP s).map (·.t)).length),(98,.i .i64 i),(105,.i .i64 k)],[(1,encSch s),(17,encTyp t)]⟩) (eX (fun k=>7 - k) (eX 0 (aN ⟨by decide,fun j h=>absurd h (Nat.not_lt_zero _)⟩ (aN ?_ ?_)))))))))
  ·(repeat' (first | exact trivial | exact Or.inl rfl | exact Or.inr (Or.inl ⟨rfl,_,rfl⟩) | exact Or.inr (Or.inr (Or.inr ⟨_,_,_,rfl,rfl⟩)) | refine aN ?_ ?_))
  rintro k ⟨hk,hK⟩
  refine aN (fun hz=>?_) (fun hz=>?_)
  ·have hk7:k < 7:=by have:(k:Int) < 7:=of_decide_eq_true hz; omega
   have htl:=(by cases hxt; omega:t.t.length≤2000000)
   (repeat' (first | (refine aN (fun h=>?_) (fun h=>?_)<;>(try simp [-List.getD_eq_getElem?_getD,-Int.pred_toNat] at h)<;>(try (exfalso; first | omega | contradiction))) | (refine rNG ?_) | (refine bN2 ?_) | (refine bN3 ?_) | (intro _)))
   refine eX [] (eX [] (eX [] (eX (Nat × Nat) (eX (fun q=>q.1≤t.t.length∧q.2 + (t.t.drop q.1).countP (fun x=>tl s.defs x k) = t.t.countP (fun x=>tl s.defs x k)) (eX (fun ⟨u,m⟩=>⟨[(1,.pt 1 0),(17,.pt 17 0),(18,.i .i64 k),(19,.i .i64 (m:Int)),(96,.rd .typ ((allP s).map (·.t))),(97,.i .i64 ((allP s).map (·.t)).length),(98,.i .i64 i),(105,.i .i64 k),(109,.rd .typ t.t),(110,.i .i64 t.t.length),(111,.i .i64 u)],[(1,encSch s),(17,encTyp t)]⟩) (eX (fun q=>t.t.length - q.1) (eX (0,0) (aN ⟨Nat.zero_le _,Nat.zero_add _⟩ (aN ?_ ?_)))))))))
   ·(repeat' (first | exact trivial | exact Or.inl rfl | exact Or.inr (Or.inl ⟨rfl,_,rfl⟩) | exact Or.inr (Or.inr (Or.inr ⟨_,_,_,rfl,rfl⟩)) | refine aN ?_ ?_))
   rintro ⟨u,m⟩ ⟨hu,hM⟩
   dsimp only at hu hM
   have hmb:m≤2000000:=by have:=List.countP_le_length (p:=fun x=>tl s.defs x k) (l:=t.t); omega
   refine aN (fun hz2=>?_) (fun hz2=>?_)
   ·have hu:=ltD hz2
    have hg:=getI (τ:=.typ) hu
    have hxm:=List.getElem_mem hu
    have hin:t.t[u] ∈ Ty.inside t:=List.mem_append_left _ hxm
    have hyc:=hxc.part _ hxm
    have hyt:=hxt.inside _ hin
    have hyn:=tyN_in hin
    have hty:=hB.types
    have hRe:=s_reached s hB.defs hB.many t.t[u] hyc hyt (by have:=rest_le (w:=fun d=>tyN d.t) (l:=s.defs) (es:=[]) (fs:=[]) fun _ h=>h; omega)
    have hpart:=come_part (fun d hd=>(hB.defs d hd).1) (need s.defs t.t[u] [] + 1) t.t[u] [] hyc
    rw [List.drop_eq_getElem_cons hu,List.countP_cons] at hM
    have htl9:tl s.defs t.t[u] k = (comeA s.defs t.t[u]).1.any fun y=>tellsK y.kind (k:Int):=rfl
    have hlen:=come_wt (fun d hd=>(hB.defs d hd).1) (need s.defs t.t[u] [] + 1) t.t[u] [] hyc
    have hlen:(comeA s.defs t.t[u]).1.length≤200000:=by
     have:(comeA s.defs t.t[u]).1.length + _≤_:=hlen
     omega
    have hpart:∀ y ∈ (comeA s.defs t.t[u]).1,isPart y:=hpart
    refine bN2 ?_
    rw [hg]
    (repeat' (first | (refine aN (fun h=>?_) (fun h=>?_)<;>(try simp [-List.getD_eq_getElem?_getD,-Int.pred_toNat] at h)<;>(try (exfalso; first | omega | contradiction))) | (refine rNG ?_) | (refine bN2 ?_) | (refine bN3 ?_) | (intro _)))
    refine Or.inr (Or.inl (eX [] (eX _ (eX _ (eX _ (eX _ (eX _ (eX [(1000,119),(1001,120)] (aN (hRe) ?_)))))))))
    refine (aN rfl (aN rfl (aN rfl (aN rfl ?_))))
    generalize (comeA s.defs t.t[u]).1 = ps at htl9 hlen hpart
    (repeat' (first | (refine aN (fun h=>?_) (fun h=>?_)<;>(try simp [-List.getD_eq_getElem?_getD,-Int.pred_toNat] at h)<;>(try (exfalso; first | omega | contradiction))) | (refine rNG ?_) | (refine bN2 ?_) | (refine bN3 ?_) | (intro _)))
    refine eX [] (eX [] (eX [(999,120)] (eX (Nat × Nat) (eX (fun q=>q.1≤ps.length∧q.2≤1∧tl s.defs t.t[u] k = (decide (q.2 = 1) || (ps.drop q.1).any fun y=>tellsK y.kind (k:Int))) (eX (fun ⟨v,b⟩=>⟨[(1,.pt 1 0),(17,.pt 17 0),(18,.i .i64 k),(19,.i .i64 (m:Int)),(24,.i .i64 (b:Int)),(96,.rd .typ ((allP s).map (·.t))),(97,.i .i64 ((allP s).map (·.t)).length),(98,.i .i64 i),(105,.i .i64 k),(109,.rd .typ t.t),(110,.i .i64 t.t.length),(111,.i .i64 u),(121,.rd .typ ps),(122,.i .i64 ps.length),(123,.i .i64 v)],[(1,encSch s),(17,encTyp t)]⟩) (eX (fun q=>ps.length - q.1) (eX (0,0) (aN ⟨Nat.zero_le _,Nat.zero_le _,htl9⟩ (aN ?_ ?_)))))))))
    ·(repeat' (first | exact trivial | exact Or.inl rfl | exact Or.inr (Or.inl ⟨rfl,_,rfl⟩) | exact Or.inr (Or.inr (Or.inr ⟨_,_,_,rfl,rfl⟩)) | refine aN ?_ ?_))
    rintro ⟨v,b⟩ ⟨hv,hb1,hV⟩
    dsimp only at hv hV hb1
    refine aN (fun hz3=>?_) (fun hz3=>?_)
    ·have hv:=ltD hz3
     have hg:=getI (τ:=.typ) hv
     have hT:=s_tells ps[v] (k:Int) (by omega) (by omega)
     rw [List.drop_eq_getElem_cons hv,List.any_cons] at hV
     generalize tellsK ps[v].kind (k:Int) = q at hV hT
     refine bN2 ?_
     rw [hg]
     (repeat' (first | (refine aN (fun h=>?_) (fun h=>?_)<;>(try simp [-List.getD_eq_getElem?_getD,-Int.pred_toNat] at h)<;>(try (exfalso; first | omega | contradiction))) | (refine rNG ?_) | (refine bN2 ?_) | (refine bN3 ?_) | (intro _)))
     refine Or.inl (eX _ (aN (hT) ?_))
     cases q with
     | true =>
      rw [Bool.true_or,Bool.or_true] at hV
      (repeat' (first | (refine aN (fun h=>?_) (fun h=>?_)<;>(try simp [-List.getD_eq_getElem?_getD,-Int.pred_toNat] at h)<;>(try (exfalso; first | omega | contradiction))) | (refine rNG ?_) | (refine bN2 ?_) | (refine bN3 ?_) | (intro _)))
      refine eX [] (eX (v + 1,1) (aN ⟨hv,Nat.le_refl _,hV⟩ (aN ?_ ?_)))
      ·(repeat' (first | exact trivial | exact Or.inl rfl | exact Or.inr (Or.inl ⟨rfl,_,rfl⟩) | exact Or.inr (Or.inr (Or.inr ⟨_,_,_,rfl,rfl⟩)) | refine aN ?_ ?_))
      ·(exact Nat.sub_lt_sub_left (by omega) (by omega))
     | false =>
      rw [Bool.false_or] at hV
      (repeat' (first | (refine aN (fun h=>?_) (fun h=>?_)<;>(try simp [-List.getD_eq_getElem?_getD,-Int.pred_toNat] at h)<;>(try (exfalso; first | omega | contradiction))) | (refine rNG ?_) | (refine bN2 ?_) | (refine bN3 ?_) | (intro _)))
      refine eX [] (eX (v + 1,b) (aN ⟨hv,hb1,hV⟩ (aN ?_ ?_)))
      ·(repeat' (first | exact trivial | exact Or.inl rfl | exact Or.inr (Or.inl ⟨rfl,_,rfl⟩) | exact Or.inr (Or.inr (Or.inr ⟨_,_,_,rfl,rfl⟩)) | refine aN ?_ ?_))
      ·(exact Nat.sub_lt_sub_left (by omega) (by omega))
    ·have hv:=geD hv hz3
     rw [List.drop_eq_nil_of_le (by omega),List.any_nil,Bool.or_false] at hV
     rw [hV] at hM
     have hM:m + b + (t.t.drop (u + 1)).countP (fun x=>tl s.defs x k) = t.t.countP (fun x=>tl s.defs x k):=by
      rcases (show b = 0∨b = 1 by omega) with rfl | rfl
      ·rw [if_neg (fun h=>absurd (of_decide_eq_true h) (by omega))] at hM
       omega
      ·rw [if_pos (decide_eq_true rfl)] at hM
       omega
     (repeat' (first | (refine aN (fun h=>?_) (fun h=>?_)<;>(try simp [-List.getD_eq_getElem?_getD,-Int.pred_toNat] at h)<;>(try (exfalso; first | omega | contradiction))) | (refine rNG ?_) | (refine bN2 ?_) | (refine bN3 ?_) | (intro _)))
     refine eX [] (eX (u + 1,m + b) (aN ⟨hu,hM⟩ (aN ?_ ?_)))
     ·(repeat' (first | exact trivial | exact Or.inl rfl | exact Or.inr (Or.inl ⟨rfl,_,rfl⟩) | exact Or.inr (Or.inr (Or.inr ⟨_,_,_,rfl,rfl⟩)) | refine aN ?_ ?_))
     ·(exact Nat.sub_lt_sub_left (by omega) (by omega))
   ·have hu:=geD hu hz2
    rw [List.drop_eq_nil_of_le (by omega),List.countP_nil,Nat.add_zero] at hM
    by_cases k2:1 < m
    ·have : dcl s.defs t = true := by
      rw [hdc]
      exact List.any_eq_true.2 ⟨k,List.mem_range.2 hk7,decide_eq_true (by rw [← hM]; exact k2)⟩
     rw [this,Bool.true_or,if_pos rfl] at hI
     rw [hI]
     (repeat' (first | (refine aN (fun h=>?_) (fun h=>?_)<;>(try simp [-List.getD_eq_getElem?_getD,-Int.pred_toNat] at h)<;>(try (exfalso; first | omega | contradiction))) | (refine rNG ?_) | (refine bN2 ?_) | (refine bN3 ?_) | (intro _)))
     rfl
    ·(repeat' (first | (refine aN (fun h=>?_) (fun h=>?_)<;>(try simp [-List.getD_eq_getElem?_getD,-Int.pred_toNat] at h)<;>(try (exfalso; first | omega | contradiction))) | (refine rNG ?_) | (refine bN2 ?_) | (refine bN3 ?_) | (intro _)))
     have hK2:∀ j,j < k + 1→¬ 1 < t.t.countP fun x=>tl s.defs x j:=fun j hj=>by
      rcases Nat.lt_succ_iff_lt_or_eq.1 hj with h1 | rfl
      ·exact hK j h1
      ·rw [← hM]; exact k2
     refine eX [] (eX (k + 1) (aN ⟨hk7,hK2⟩ (aN ?_ ?_)))
     ·(repeat' (first | exact trivial | exact Or.inl rfl | exact Or.inr (Or.inl ⟨rfl,_,rfl⟩) | exact Or.inr (Or.inr (Or.inr ⟨_,_,_,rfl,rfl⟩)) | refine aN ?_ ?_))
     ·(exact Nat.sub_lt_sub_left (by omega) (by omega))
  ·have hk7:k = 7:=by have:¬ (k:Int) < 7:=of_decide_eq_false hz; omega
   have:dcl s.defs t = false:=by
    rw [hdc,List.any_eq_false]
    intro j hj
    rw [decide_eq_true_eq]
    exact hK j (by rw [hk7]; exact List.mem_range.1 hj)
   rw [this,Bool.false_or] at hI
   (repeat' (first | (refine aN (fun h=>?_) (fun h=>?_)<;>(try simp [-List.getD_eq_getElem?_getD,-Int.pred_toNat] at h)<;>(try (exfalso; first | omega | contradiction))) | (refine rNG ?_) | (refine bN2 ?_) | (refine bN3 ?_) | (intro _)))
   refine eX [] (eX (i + 1) (aN ⟨by omega,hI⟩ (aN ?_ ?_)))
   ·(repeat' (first | exact trivial | exact Or.inl rfl | exact Or.inr (Or.inl ⟨rfl,_,rfl⟩) | exact Or.inr (Or.inr (Or.inr ⟨_,_,_,rfl,rfl⟩)) | refine aN ?_ ?_))
   ·(exact Nat.sub_lt_sub_left (by omega) (by omega))
 (have hi:=geD hi hz)
 rw [List.drop_eq_nil_of_le (by omega)] at hI
 have hI:R = 0:=hI
 rw [hI]
 (repeat' (first | (refine aN (fun h=>?_) (fun h=>?_)<;>(try simp [-List.getD_eq_getElem?_getD,-Int.pred_toNat] at h)<;>(try (exfalso; first | omega | contradiction))) | (refine rNG ?_) | (refine bN2 ?_) | (refine bN3 ?_) | (intro _)))
 rfl
theorem s_schemaFault (hu:HasU8) (s:SchemaR) (hd:∀ d ∈ s.defs,TB d.t) (hr:TB s.root) (hn:s.defs.length≤2000000):PSpec Tryd.prog 33 [.agg (encSch s)] (.i .i64 (checkS s)) :=
 pspec_of_vc Γ_good Tryd.func33 rfl Tryd.call33 Tryd.results33 Tryd.ntmps33 (Nat.le_of_ble_eq_true rfl) (w_schemaFault hu s hd hr hn)
end
end Go.Proofs.YtdcdmojbkmedpaaDoor
end
section
namespace Go.Ty
open Go Go.SX Go.Ck Go.Vl Go.Ut
inductive Reach (l:List DefR):Nat→TypR→TypR→Prop
 | part (t:TypR):t.kind≠12→t.kind≠11→Reach l 0 t t
 | union (n:Nat) (t x y:TypR):t.kind = 11→x ∈ t.t→Reach l n x y→Reach l (n + 1) t y
 | name (n:Nat) (t y:TypR):t.kind = 12→Reach l n (defT l t.name) y→Reach l (n + 1) t y
theorem Reach.of_name {l:List DefR} {d:Nat} {t y:TypR} (h:Reach l d t y) (hk:t.kind = 12):∃ n,d = n + 1∧Reach l n (defT l t.name) y:=by
 cases h with
 | part _ h1 _=>exact absurd hk h1
 | union n _ x _ h1 _ _=>exact absurd (hk.symm.trans h1) (by decide)
 | name n _ _ _ h2=>exact ⟨n,rfl,h2⟩
theorem Reach.of_union {l:List DefR} {d:Nat} {t y:TypR} (h:Reach l d t y) (hk:t.kind = 11):∃ n x,d = n + 1∧x ∈ t.t∧Reach l n x y:=by
 cases h with
 | part _ _ h1=>exact absurd hk h1
 | union n _ x _ _ h2 h3=>exact ⟨n,x,rfl,h2,h3⟩
 | name n _ _ h1 _=>exact absurd (hk.symm.trans h1) (by decide)
theorem Reach.of_part {l:List DefR} {d:Nat} {t y:TypR} (h:Reach l d t y) (h1:t.kind≠12) (h2:t.kind≠11):y = t:=by
 cases h with
 | part _ _ _=>rfl
 | union n _ x _ h3 _ _=>exact absurd h3 h2
 | name n _ _ h3 _=>exact absurd h3 h1
theorem comeL_reach {l:List DefR} {f:TypR→Met→List TypR × Met}:∀ (r:List TypR) (es:Met),(∀ x ∈ r,∀ es y,y ∈ (f x es).1→∃ n,Reach l n x y)→∀ y ∈ (comeL f r es).1,∃ x ∈ r,∃ n,Reach l n x y
 | [],_,_,y,hy=>nomatch hy
 | x::r,es,h,y,hy=>by
  rcases List.mem_append.1 hy with hy | hy
  ·exact ⟨x,List.mem_cons_self .., h x (List.mem_cons_self ..) es y hy⟩
  ·obtain ⟨z,hz,hn⟩:=comeL_reach r _ (fun z hz=>h z (List.mem_cons_of_mem _ hz)) y hy
   exact ⟨z,List.mem_cons_of_mem _ hz,hn⟩
theorem come_reach (l:List DefR):∀ (k:Nat) (t:TypR) (es:Met) (y:TypR),y ∈ (comeF l k t es).1→∃ n,Reach l n t y:=by
 intro k
 induction k with
 | zero=>intro t es y hy; exact nomatch hy
 | succ k ih =>
  intro t es y hy
  rw [come_step] at hy
  by_cases c1:t.kind = 12
  ·rw [if_pos c1] at hy
   by_cases c2:met es t.name = true
   ·rw [if_pos c2] at hy
    exact nomatch hy
   ·rw [if_neg c2] at hy
    obtain ⟨n,hn⟩:=ih _ _ y hy
    exact ⟨n + 1,.name n t y c1 hn⟩
  ·rw [if_neg c1] at hy
   by_cases c3:t.kind = 11
   ·rw [if_pos c3] at hy
    obtain ⟨x,hx,n,hn⟩:=comeL_reach t.t es (fun x _ es y=>ih x es y) y hy
    exact ⟨n + 1,.union n t x y c3 hx hn⟩
   ·rw [if_neg c3] at hy
    obtain rfl:y = t:=by simpa using hy
    exact ⟨0,.part _ c1 c3⟩
def AllB (l:List DefR) (t:TypR) (es:Met) (r:List TypR × Met):Prop:=∀ d y,Reach l d t y→y ∈ r.1∨∃ n d',met es n = true∧d' < d∧Reach l d' (defT l n) y
def AllC (l:List DefR) (es:Met) (r:List TypR × Met):Prop:=∀ n,met r.2 n = true→∀ d y,Reach l d (defT l n) y→y ∈ r.1∨∃ m d',met es m = true∧d'≤d∧Reach l d' (defT l m) y
theorem comeL_all {l : List DefR} {f : TypR → Met → List TypR × Met} (hm : ∀ x es n, met es n = true → met (f x es).2 n = true) : ∀ (r : List TypR) (es : Met), (∀ x ∈ r, ∀ fs, (∀ n, met es n = true → met fs n = true) → AllB l x fs (f x fs) ∧ AllC l fs (f x fs)) →
  (∀ x ∈ r,∀ d y,Reach l d x y→y ∈ (comeL f r es).1∨∃ n d',met es n = true∧d'≤d∧Reach l d' (defT l n) y)∧AllC l es (comeL f r es)
 | [],es,_=>⟨fun x hx=>(nomatch hx),fun n hn d y hy=>.inr ⟨n,d,hn,Nat.le_refl _,hy⟩⟩
 | z::r,es,h=>by
  obtain ⟨hB,hC⟩:=h z (List.mem_cons_self ..) es fun _ h=>h
  obtain ⟨gB,gC⟩:=comeL_all hm r (f z es).2 fun x hx fs hf=>h x (List.mem_cons_of_mem _ hx) fs fun n hn=>hf n (hm z es n hn)
  have back:∀ d y,(∃ n d',met (f z es).2 n = true∧d'≤d∧Reach l d' (defT l n) y)→y ∈ (comeL f (z::r) es).1∨∃ n d',met es n = true∧d'≤d∧Reach l d' (defT l n) y:=fun d y ⟨n,d',h1,h2,h3⟩=>by
   rcases hC n h1 d' y h3 with h4 | ⟨m,d'',h4,h5,h6⟩
   ·exact .inl (List.mem_append_left _ h4)
   ·exact .inr ⟨m,d'',h4,Nat.le_trans h5 h2,h6⟩
  refine ⟨fun x hx d y hy=>?_,fun n hn d y hy=>?_⟩
  ·rcases List.mem_cons.1 hx with rfl | hx
   ·rcases hB d y hy with h1 | ⟨n,d',h1,h2,h3⟩
    ·exact .inl (List.mem_append_left _ h1)
    ·exact .inr ⟨n,d',h1,Nat.le_of_lt h2,h3⟩
   ·rcases gB x hx d y hy with h1 | h1
    ·exact .inl (List.mem_append_right _ h1)
    ·exact back d y h1
  ·rcases gC n hn d y hy with h1 | h1
   ·exact .inl (List.mem_append_right _ h1)
   ·exact back d y h1
theorem come_all {l:List DefR} (hl:∀ d ∈ l,CT l d.t):∀ (k:Nat) (t:TypR) (es:Met),CT l t→need l t es < k→AllB l t es (comeF l k t es)∧AllC l es (comeF l k t es):=by
 intro k
 induction k with
 | zero=>intro t es _ h; exact absurd h (Nat.not_lt_zero _)
 | succ k ih =>
  intro t es ht hk
  rw [come_step]
  by_cases c1:t.kind = 12
  ·rw [if_pos c1]
   by_cases c2:met es t.name = true
   ·rw [if_pos c2]
    refine ⟨fun d y hy=>?_,fun n hn d y hy=>.inr ⟨n,d,hn,Nat.le_refl _,hy⟩⟩
    obtain ⟨n,rfl,h1⟩:=hy.of_name c1
    exact .inr ⟨_,n,c2,Nat.lt_succ_self _,h1⟩
   ·rw [if_neg c2]
    have h0:0≤defI l t.name:=by cases ht with | mk _ _ h _=>exact h c1
    have hn:=need_ref h0 (es:=es) (by simpa using c2)
    obtain ⟨hB,hC⟩:=ih (defT l t.name) (meet es t.name) (CT.defT hl h0) (by omega)
    have key:∀ d y,Reach l d (defT l t.name) y→y ∈ (comeF l k (defT l t.name) (meet es t.name)).1∨∃ n d',met es n = true∧d' < d∧Reach l d' (defT l n) y:=by
     intro d
     induction d using Nat.strongRecOn with
     | _ d ihd =>
     intro y hy
     rcases hB d y hy with h1 | ⟨n,d',h1,h2,h3⟩
     ·exact .inl h1
     ·rw [met_meet] at h1
      by_cases e:n = t.name
      ·subst e
       rcases ihd d' h2 y h3 with h4 | ⟨m,d'',h4,h5,h6⟩
       ·exact .inl h4
       ·exact .inr ⟨m,d'',h4,Nat.lt_trans h5 h2,h6⟩
      ·rw [decide_eq_false e,Bool.false_or] at h1
       exact .inr ⟨n,d',h1,h2,h3⟩
    refine ⟨fun d y hy=>?_,fun n hn d y hy=>?_⟩
    ·obtain ⟨m,rfl,h1⟩:=hy.of_name c1
     rcases key m y h1 with h2 | ⟨n,d',h2,h3,h4⟩
     ·exact .inl h2
     ·exact .inr ⟨n,d',h2,Nat.lt_succ_of_lt h3,h4⟩
    ·rcases hC n hn d y hy with h1 | ⟨m,d',h1,h2,h3⟩
     ·exact .inl h1
     ·rw [met_meet] at h1
      by_cases e:m = t.name
      ·subst e
       rcases key d' y h3 with h4 | ⟨m,d'',h4,h5,h6⟩
       ·exact .inl h4
       ·exact .inr ⟨m,d'',h4,by omega,h6⟩
      ·rw [decide_eq_false e,Bool.false_or] at h1
       exact .inr ⟨m,d',h1,h2,h3⟩
  ·rw [if_neg c1]
   by_cases c3:t.kind = 11
   ·rw [if_pos c3]
    obtain ⟨hB,hC⟩:=comeL_all (l:=l) (come_met l k) t.t es fun x hx fs hf=>ih x fs (ht.part x hx) (by have:=need_part (l:=l) (es:=es) (fs:=fs) hx hf; omega)
    refine ⟨fun d y hy=>?_,hC⟩
    obtain ⟨n,x,rfl,h1,h2⟩:=hy.of_union c3
    rcases hB x h1 n y h2 with h3 | ⟨m,d',h3,h4,h5⟩
    ·exact .inl h3
    ·exact .inr ⟨m,d',h3,Nat.lt_succ_of_le h4,h5⟩
   ·rw [if_neg c3]
    refine ⟨fun d y hy=>?_,fun n hn d y hy=>.inr ⟨n,d,hn,Nat.le_refl _,hy⟩⟩
    obtain rfl:=hy.of_part c1 c3
    exact .inl (List.mem_singleton.2 rfl)
theorem come_mono {l:List DefR} (hl:∀ d ∈ l,CT l d.t) {k:Nat} {t:TypR} {es:Met} (ht:CT l t) {y:TypR} (h:y ∈ (comeF l k t es).1) {m:Nat} (hm:need l t [] < m):y ∈ (comeF l m t []).1:=by
 obtain ⟨n,hn⟩:=come_reach l k t es y h
 rcases (come_all hl m t [] ht hm).1 n y hn with h1 | ⟨_,_,h1,_⟩
 ·exact h1
 ·cases h1
theorem comeL_one {p:TypR→Bool} {f:TypR→Met→List TypR × Met} {q:TypR→Bool}:∀ (r:List TypR) (es:Met),(∀ x ∈ r,∀ es,(f x es).1.countP p≤1∧(∀ y ∈ (f x es).1,p y = true→q x = true))→(comeL f r es).1.countP p≤r.countP q
 | [],_,_=>Nat.le_refl _
 | x::r,es,h=>by
  have h1:=comeL_one (p:=p) (q:=q) r (f x es).2 fun y hy=>h y (List.mem_cons_of_mem _ hy)
  obtain ⟨h2,h3⟩:=h x (List.mem_cons_self ..) es
  rw [comeL,List.countP_append,List.countP_cons]
  cases hq:q x with
  | true=>rw [if_pos rfl]; omega
  | false =>
   have:(f x es).1.countP p = 0:=List.countP_eq_zero.2 fun y hy hp=>by rw [h3 y hy hp] at hq; cases hq
   rw [if_neg (by decide)]
   omega
theorem come_one {l:List DefR} {p:TypR→Bool} {Q:TypR→Prop} (hl:∀ d ∈ l,CT l d.t∧Q d.t) (hQ:∀ t,Q t→∀ x ∈ t.t,Q x) (hu:∀ t,Q t→t.kind = 11→t.t.countP (fun x=>(comeF l (need l x [] + 1) x []).1.any p)≤1):∀ (k:Nat) (t:TypR) (es:Met),CT l t→Q t→(comeF l k t es).1.countP p≤1:=by
 intro k
 induction k with
 | zero=>intro t es _ _; exact Nat.zero_le _
 | succ k ih =>
  intro t es ht hq
  rw [come_step]
  by_cases c1:t.kind = 12
  ·rw [if_pos c1]
   by_cases c2:met es t.name = true
   ·rw [if_pos c2]
    exact Nat.zero_le _
   ·rw [if_neg c2]
    have h0:0≤defI l t.name:=by cases ht with | mk _ _ h _=>exact h c1
    obtain ⟨d,hd,_,e⟩:=defT_mem h0
    exact ih _ _ (CT.defT (fun d hd=>(hl d hd).1) h0) (by rw [← e]; exact (hl d hd).2)
  ·rw [if_neg c1]
   by_cases c3:t.kind = 11
   ·rw [if_pos c3]
    refine Nat.le_trans (comeL_one (p:=p) (q:=fun x=>(comeF l (need l x [] + 1) x []).1.any p) t.t es fun x hx fs=>⟨ih x fs (ht.part x hx) (hQ t hq x hx),fun y hy hp=>?_⟩) (hu t hq c3)
    exact List.any_eq_true.2 ⟨y,come_mono (fun d hd=>(hl d hd).1) (ht.part x hx) hy (Nat.lt_succ_self _),hp⟩
   ·rw [if_neg c3]
    show [t].countP p≤1
    rw [List.countP_cons,List.countP_nil]
    split<;>omega
end Go.Ty
end
section
namespace Go.Up
open Go.SX Go.Vl Go.Ut Go.Ck
theorem less_trans:∀ {a b c:Str},Op.bytesLess a b = true→Op.bytesLess b c = true→Op.bytesLess a c = true
 | _,[],[],_,h=>by simp [Op.bytesLess] at h
 | [],[],_::_,h,_=>by simp [Op.bytesLess] at h
 | _::_,[],_::_,h,_=>by simp [Op.bytesLess] at h
 | _,_::_,[],_,h=>by simp [Op.bytesLess] at h
 | [],_::_,_::_,_,_=>by simp [Op.bytesLess]
 | x::a,y::b,z::c,h1,h2=>by
  have ih:=@less_trans a b c
  simp only [Op.bytesLess,Bool.or_eq_true,decide_eq_true_eq,Bool.and_eq_true,beq_iff_eq] at h1 h2 ⊢
  rcases h1 with h1 | ⟨rfl,h1⟩
  ·rcases h2 with h2 | ⟨rfl,h2⟩
   ·exact .inl (UInt8.lt_trans h1 h2)
   ·exact .inl h1
  ·rcases h2 with h2 | ⟨rfl,h2⟩
   ·exact .inl h2
   ·exact .inr ⟨rfl,ih h1 h2⟩
theorem orI_0 {a b:Int} (h:orI a b = 0):a = 0∧b = 0:=by
 by_cases c:a = 0
 ·subst c; rw [orI_zero] at h; exact ⟨rfl,h⟩
 ·rw [orI_ne c] at h; exact absurd h c
theorem less_ne' {a b:Str} (h:Op.bytesLess a b = true):a≠b:=fun e=>by rw [e,less_irrefl] at h; cases h
end Go.Up
end
section
namespace Go.Proofs.YtdcdmojbkmedpaaDoor
open Go Go.SX Go.Ck Go.Vl Go.Ut Go.Ty
set_option maxRecDepth 100000
set_option maxHeartbeats 4000000
def betw (n lo hi:Int):Bool:=decide (lo≤n) && decide (n≤hi)
def pickK (ps:List TypR) (k:Int):Option TypR:=ps.find? fun y=>tellsK y.kind k
def fldOf (fl:List Fld) (k:Str):Option Fld:=fl.find? fun f=>f.name == k
def askd (full:Bool) (f:Fld):Bool:=(!f.opt && !f.hasDef) || (full && f.hasDef)
def miss (full:Bool) (fl:List Fld) (E:List Ent):Bool:=fl.any fun f=>askd full f && decide (ixI E (keyIs f.name) < 0)
mutual
noncomputable def wrV (l:List DefR) (full:Bool):Val→TypR→List PStep × Bool
 | ⟨k,n,f,s,L,E⟩,t=>match pickK (comeA l t).1 k with
  | none=>([],true)
  | some x =>
   if x.kind = 4 then ([],!betw n x.lo x.hi) else if x.kind = 6 then ([],!betw ((runes s).length:Nat) x.lo x.hi) else if x.kind = 7 then ([],!(x.texts.any fun y=>y == s))
   else if x.kind = 8 then (if betw (L.length:Nat) x.lo x.hi = true then wrL l full L (x.t.getD 0 (dflt .typ)) 0 else ([],true))
   else if x.kind = 9 then wrM l full E (x.t.getD 0 (dflt .typ)) else if x.kind = 10 then wrR l full E x.f (miss full x.f E) else ([],false)
noncomputable def wrL (l:List DefR) (full:Bool):List Val→TypR→Nat→List PStep × Bool
 | [],_,_=>([],false)
 | v::r,t,i=>if (wrV l full v t).2 = true then (⟨[],(i:Int)⟩::(wrV l full v t).1,true) else wrL l full r t (i + 1)
noncomputable def wrM (l:List DefR) (full:Bool):List (Str × Val)→TypR→List PStep × Bool
 | [],_=>([],false)
 | p::r,t=>if (wrP l full p t).2 = true then (⟨p.1,-1⟩::(wrP l full p t).1,true) else wrM l full r t
noncomputable def wrR (l:List DefR) (full:Bool):List (Str × Val)→List Fld→Bool→List PStep × Bool
 | [],_,m=>([],m)
 | p::r,fl,m=>match fldOf fl p.1 with
  | none=>([⟨p.1,-1⟩],true)
  | some f=>if (wrP l full p f.t).2 = true then (⟨p.1,-1⟩::(wrP l full p f.t).1,true) else wrR l full r fl m
noncomputable def wrP (l:List DefR) (full:Bool):Str × Val→TypR→List PStep × Bool
 | (_,v),t=>wrV l full v t
end
theorem wrP_eq (l:List DefR) (full:Bool) (p:Str × Val) (t:TypR):wrP l full p t = wrV l full p.2 t:=by
 obtain ⟨k,v⟩:=p
 rw [wrP]
noncomputable def prtF (l:List DefR) (full:Bool) (x:TypR) (v:Val):List PStep × Bool :=
 if x.kind = 4 then ([],!betw v.n x.lo x.hi) else if x.kind = 6 then ([],!betw ((runes v.s).length:Nat) x.lo x.hi) else if x.kind = 7 then ([],!(x.texts.any fun y=>y == v.s))
 else if x.kind = 8 then (if betw (v.l.length:Nat) x.lo x.hi = true then wrL l full v.l (x.t.getD 0 (dflt .typ)) 0 else ([],true))
 else if x.kind = 9 then wrM l full v.e (x.t.getD 0 (dflt .typ)) else if x.kind = 10 then wrR l full v.e x.f (miss full x.f v.e) else ([],false)
theorem wrV_eq (l : List DefR) (full : Bool) (v : Val) (t : TypR) : wrV l full v t = match pickK (comeA l t).1 v.kind with
  | none=>([],true)
  | some x=>prtF l full x v:=by
 obtain ⟨k,n,f,s,L,E⟩:=v
 rw [wrV]
 rfl
theorem wrL_drop (l:List DefR) (full:Bool) {L:List Val} {t:TypR} {i:Nat} (h:i < L.length):wrL l full (L.drop i) t i = if (wrV l full L[i] t).2 = true then (⟨[],(i:Int)⟩::(wrV l full L[i] t).1,true) else wrL l full (L.drop (i + 1)) t (i + 1):=by
 rw [List.drop_eq_getElem_cons h,wrL]
theorem wrM_drop (l:List DefR) (full:Bool) {E:List Ent} {t:TypR} {i:Nat} (h:i < E.length):wrM l full (E.drop i) t = if (wrV l full E[i].2 t).2 = true then (⟨E[i].1,-1⟩::(wrV l full E[i].2 t).1,true) else wrM l full (E.drop (i + 1)) t:=by
 rw [List.drop_eq_getElem_cons h,wrM,wrP_eq]
theorem wrR_drop (l : List DefR) (full : Bool) {E : List Ent} {fl : List Fld} {m : Bool} {i : Nat} (h : i < E.length) : wrR l full (E.drop i) fl m = match fldOf fl E[i].1 with
  | none=>([⟨E[i].1,-1⟩],true)
  | some f=>if (wrV l full E[i].2 f.t).2 = true then (⟨E[i].1,-1⟩::(wrV l full E[i].2 f.t).1,true) else wrR l full (E.drop (i + 1)) fl m:=by
 rw [List.drop_eq_getElem_cons h,wrR]
 cases fldOf fl E[i].1 with
 | none=>rfl
 | some f=>simp only [wrP_eq]
inductive GV:Nat→Val→Prop
 | mk (d:Nat) (v:Val):VB v→(0≤v.kind∧v.kind≤6)→bad v.s < 0→(v.s.length≤4000∧v.l.length≤200∧v.e.length≤200)→(∀ x ∈ v.l,GV d x)→(∀ p ∈ v.e,GV d p.2)→GV (d + 1) v
theorem chkL_mem {a:Int}:∀ (l:List Val) (m:Int),(chkL l a m).1 = 0→∀ x ∈ l,∃ m',(chkV x a m').1 = 0
 | [],_,_,x,hx=>nomatch hx
 | y::r,m,h,x,hx=>by
  rw [chkL] at h
  cases hy:chkV y a m with
  | mk e m1 =>
   rw [hy] at h
   by_cases c:e = 0
   ·simp only [c,ne_eq,not_true_eq_false,if_false] at h
    rcases List.mem_cons.1 hx with rfl | hx
    ·exact ⟨m,by rw [hy]; exact c⟩
    ·exact chkL_mem r m1 h x hx
   ·simp only [ne_eq,c,not_false_eq_true,if_true] at h
theorem gv_of:∀ (k:Nat) (v:Val),SizeOf.sizeOf v < k→VB v→∀ (d:Nat) (a m:Int),a + d = 20→(chkV v a m).1 = 0→GV d v:=by
 intro k
 induction k with
 | zero=>intro v h; exact absurd h (Nat.not_lt_zero _)
 | succ k ih =>
  intro v h hb d a m hd hc
  rw [chkV_eq] at hc
  by_cases c1:2000 < m + 1
  ·rw [if_pos c1] at hc; exact absurd (show (2:Int) = 0 from hc) (by decide)
  rw [if_neg c1] at hc
  by_cases c2:oneF v a≠0
  ·rw [if_pos c2] at hc; exact absurd hc c2
  rw [if_neg c2] at hc
  have c2:oneF v a = 0:=Decidable.not_not.1 c2
  rw [oneF_doc] at c2
  by_cases c3:20≤a
  ·rw [if_pos c3] at c2; exact absurd c2 (by decide)
  rw [if_neg c3] at c2
  unfold docF at c2
  by_cases c4:kindBad v
  ·rw [if_pos c4] at c2; exact absurd c2 (by decide)
  rw [if_neg c4] at c2
  by_cases c5:4000 < v.s.length∨200 < v.l.length∨200 < v.e.length
  ·rw [if_pos c5] at c2; exact absurd c2 (by decide)
  rw [if_neg c5] at c2
  by_cases c6:0≤bad v.s
  ·rw [if_pos c6] at c2; exact absurd c2 (by decide)
  obtain ⟨d,rfl⟩:∃ e,d = e + 1:=⟨d - 1,by omega⟩
  have hmem:=chkL_mem (partsOf v) (m + 1) hc
  have hbb:=hb
  cases hb with
  | mk _ b1 b2 b3 b4 b5 =>
   refine .mk d v hbb ⟨?_,?_⟩ (by omega) ⟨by omega,by omega,by omega⟩ (fun x hx=>?_) (fun p hp=>?_)
   ·exact Int.not_lt.1 fun h9=>c4 (.inl (.inl h9))
   ·exact Int.not_lt.1 fun h9=>c4 (.inl (.inr h9))
   ·obtain ⟨m',hm⟩:=hmem x (List.mem_append_left _ hx)
    have h1:=List.sizeOf_lt_of_mem hx
    obtain ⟨a1,a2,a3,a4,a5,a6⟩:=v
    simp only at h1
    simp only [Val.mk.sizeOf_spec] at h
    exact ih x (by omega) (b4 x hx) d (a + 1) m' (by omega) hm
   ·obtain ⟨m',hm⟩:=hmem p.2 (List.mem_append_right _ (List.mem_map.2 ⟨p,hp,rfl⟩))
    have h1:=List.sizeOf_lt_of_mem hp
    obtain ⟨a1,a2,a3,a4,a5,a6⟩:=v
    obtain ⟨q,w⟩:=p
    simp only [Prod.mk.sizeOf_spec] at h1
    simp only [Val.mk.sizeOf_spec] at h
    exact ih w (by omega) (b5 _ hp) d (a + 1) m' (by omega) hm
theorem gv_chk {v:Val} (hb:VB v) (h:(chkV v 0 0).1 = 0):GV 20 v:=gv_of _ v (Nat.lt_succ_self _) hb 20 0 0 (by decide) h
/-! what a good schema holds -/
theorem pre_closed:∀ (k:Nat) (t:TypR),SizeOf.sizeOf t < k→∀ a,∀ p ∈ preT t a,∀ x ∈ Ty.inside p.t,∃ q ∈ preT t a,q.t = x:=by
 intro k
 induction k with
 | zero=>intro t h; exact absurd h (Nat.not_lt_zero _)
 | succ k ih =>
  intro t h a p hp x hx
  rw [preT_eq] at hp ⊢
  rcases List.mem_cons.1 hp with rfl | hp
  ·exact ⟨⟨x,a + 1⟩,List.mem_cons_of_mem _ (List.mem_flatMap.2 ⟨x,hx,by rw [preT_eq]; exact List.mem_cons_self ..⟩),rfl⟩
  ·obtain ⟨y,hy,hp⟩:=List.mem_flatMap.1 hp
   obtain ⟨q,hq,e⟩:=ih y (by have:=size_inside hy; omega) _ p hp x hx
   exact ⟨q,List.mem_cons_of_mem _ (List.mem_flatMap.2 ⟨y,hy,hq⟩),e⟩
def inS (s:SchemaR) (t:TypR):Prop:=∃ p ∈ allP s,p.t = t
theorem inS_in {s:SchemaR} {t:TypR} (h:inS s t):∀ x ∈ Ty.inside t,inS s x:=by
 intro x hx
 obtain ⟨p,hp,rfl⟩:=h
 unfold allP at hp
 rcases List.mem_append.1 hp with hp | hp
 ·obtain ⟨d,hd,hp⟩:=List.mem_flatMap.1 hp
  obtain ⟨q,hq,e⟩:=pre_closed _ d.t (Nat.lt_succ_self _) _ p hp x hx
  exact ⟨q,List.mem_append_left _ (List.mem_flatMap.2 ⟨d,hd,hq⟩),e⟩
 ·obtain ⟨q,hq,e⟩:=pre_closed _ s.root (Nat.lt_succ_self _) _ p hp x hx
  exact ⟨q,List.mem_append_right _ hq,e⟩
theorem inS_root (s:SchemaR):inS s s.root:=⟨⟨s.root,0⟩,List.mem_append_right _ (by rw [preT_eq]; exact List.mem_cons_self ..),rfl⟩
theorem inS_def {s:SchemaR} {d:DefR} (h:d ∈ s.defs):inS s d.t:=⟨⟨d.t,0⟩,List.mem_append_left _ (List.mem_flatMap.2 ⟨d,h,by rw [preT_eq]; exact List.mem_cons_self ..⟩),rfl⟩
structure GS (s:SchemaR):Prop where
 sb:SB s
 tb:∀ t,inS s t→TB t
 ok:∀ t,inS s t→typeF s.defs t = 0
 cl:∀ t,inS s t→dcl s.defs t = false
theorem gs_of {s:SchemaR} (hd:∀ d ∈ s.defs,TB d.t) (hr:TB s.root) (h:checkS s = 0):GS s:=by
 obtain ⟨hB,_⟩:=check_sb hd hr h
 unfold checkS at h
 split at h
 ·cases h
 have h1:nmsF none (s.defs.map (·.name)) = 0:=Decidable.byContradiction fun c=>by rw [orI_ne c] at h; exact c h
 rw [h1,orI_zero] at h
 have h2:(scan s.defs (allP s) 0).1 = 0:=Decidable.byContradiction fun c=>by rw [orI_ne c] at h; exact c h
 rw [h2,orI_zero] at h
 split at h
 ·cases h
 rw [clsF_doc (fun d h=>(hB.defs d h).1) (allP s) (ct_all hB)] at h
 obtain ⟨hz,_⟩:=scan_zero (allP s) 0 (by decide) h2
 refine ⟨hB,fun t ⟨p,hp,e⟩=>e ▸ all_prop (Q:=TB) (fun t ht x hx=>ht.inside x hx) hd hr p hp,fun t ⟨p,hp,e⟩=>e ▸ (hz p hp).1,fun t ⟨p,hp,e⟩=>?_⟩
 cases hc:dcl s.defs t with
 | false=>rfl
 | true =>
  have:((allP s).any fun p=>dcl s.defs p.t) = true:=List.any_eq_true.2 ⟨p,hp,by rw [e]; exact hc⟩
  rw [this,if_pos rfl] at h
  cases h
theorem GS.ct {s:SchemaR} (h:GS s) {t:TypR} (ht:inS s t):CT s.defs t:=by
 obtain ⟨p,hp,e⟩:=ht
 exact e ▸ ct_all h.sb p hp
theorem GS.num {s:SchemaR} (h:GS s) {t:TypR} (ht:inS s t):tyN t + restN s.defs []≤100000:=by
 obtain ⟨p,hp,e⟩:=ht
 have h1:=tyN_all p hp
 have h2:=h.sb.types
 rw [e] at h1
 omega
theorem GS.parts {s:SchemaR} (h:GS s) {t:TypR} (ht:inS s t):∀ y ∈ (comeA s.defs t).1,isPart y∧inS s y:=fun y hy =>
 ⟨come_part (fun d hd=>(h.sb.defs d hd).1) (need s.defs t [] + 1) t [] (h.ct ht) y hy,come_prop (Q:=inS s) (fun d hd=>⟨(h.sb.defs d hd).1,inS_def hd⟩) (fun t ht x hx=>inS_in ht x (List.mem_append_left _ hx)) (need s.defs t [] + 1) t [] (h.ct ht) ht y hy⟩
theorem GS.len {s:SchemaR} (h:GS s) {t:TypR} (ht:inS s t):(comeA s.defs t).1.length≤100000:=by
 have h1:=come_wt (fun d hd=>(h.sb.defs d hd).1) (need s.defs t [] + 1) t [] (h.ct ht)
 have h1:(comeA s.defs t).1.length + _≤_:=h1
 have:=h.num ht
 omega
theorem GS.one {s:SchemaR} (h:GS s) {t:TypR} (ht:inS s t) {k:Int} (h0:0≤k) (h6:k≤6):(comeA s.defs t).1.countP (fun y=>tellsK y.kind k)≤1:=by
 refine come_one (Q:=inS s) (fun d hd=>⟨(h.sb.defs d hd).1,inS_def hd⟩) (fun t ht x hx=>inS_in ht x (List.mem_append_left _ hx)) (fun t ht hk=>?_) (need s.defs t [] + 1) t [] (h.ct ht) ht
 have hc:=h.cl t ht
 unfold dcl at hc
 rw [decide_eq_true hk,Bool.true_and,List.any_eq_false] at hc
 have:=hc k.toNat (List.mem_range.2 (by omega))
 rw [decide_eq_true_eq] at this
 refine Nat.le_of_not_lt fun h9=>this ?_
 refine Nat.lt_of_lt_of_le h9 (Nat.le_of_eq ?_)
 have e:((k.toNat:Nat):Int) = k:=by omega
 unfold tl
 rw [e]
 rfl
def lastF (p:TypR→Bool) (z:TypR):List TypR→TypR
 | []=>z
 | x::r=>lastF p (if p x = true then x else z) r
theorem lastF_none {p:TypR→Bool}:∀ (r:List TypR) (z:TypR),r.countP p = 0→lastF p z r = z
 | [],_,_=>rfl
 | x::r,z,h=>by
  rw [List.countP_cons] at h
  have h1:¬ p x = true:=fun e=>by rw [if_pos e] at h; omega
  rw [lastF,if_neg h1]
  exact lastF_none r z (by omega)
theorem lastF_find {p:TypR→Bool}:∀ (r:List TypR) (z:TypR),r.countP p≤1→lastF p z r = (r.find? p).getD z
 | [],_,_=>rfl
 | x::r,z,h=>by
  rw [List.countP_cons] at h
  rw [lastF,List.find?_cons]
  cases hx:p x with
  | true =>
   rw [hx,if_pos rfl] at h
   rw [if_pos rfl]
   exact lastF_none r x (by omega)
  | false =>
   rw [hx,if_neg (by decide)] at h
   rw [if_neg (by decide)]
   exact lastF_find r z (by omega)
/-! fields -/
theorem fds_rise:∀ (l:List Fld) (q:Option Str),fdsF q l = 0→(l.Pairwise fun f g=>Op.bytesLess f.name g.name = true)∧(∀ k,q = some k→∀ f ∈ l,Op.bytesLess k f.name = true)∧∀ f ∈ l,(chkV f.dflt 0 0).1 = 0
 | [],_,_=>⟨List.Pairwise.nil,(fun _ _ f hf=>nomatch hf),fun f hf=>nomatch hf⟩
 | x::r,q,h=>by
  rw [fdsF] at h
  obtain ⟨h1,h2⟩:=Up.orI_0 h
  unfold fldF at h1
  obtain ⟨h1,h5⟩:=Up.orI_0 h1
  obtain ⟨h5,_⟩:=Up.orI_0 h5
  obtain ⟨h3,h4,h6⟩:=fds_rise r (some x.name) h2
  refine ⟨List.Pairwise.cons (fun f hf=>h4 x.name rfl f hf) h3,fun k hk=>?_,fun f hf=>?_⟩
  ·subst hk
   have hx:Op.bytesLess k x.name = true:=by
    unfold keyF at h1
    split at h1
    ·cases h1
    split at h1
    ·cases h1
    simp only at h1
    split at h1
    ·assumption
    ·cases h1
   intro f hf
   rcases List.mem_cons.1 hf with rfl | hf
   ·exact hx
   ·exact Up.less_trans hx (h4 x.name rfl f hf)
  ·rcases List.mem_cons.1 hf with rfl | hf
   ·exact h5
   ·exact h6 f hf
theorem GS.flds {s:SchemaR} (h:GS s) {t:TypR} (ht:inS s t) (hk:t.kind = 10):fdsF none t.f = 0:=by
 have h1:=h.ok t ht
 unfold typeF at h1
 split at h1
 ·cases h1
 split at h1
 ·cases h1
 have h1:fieldsF t.f = 0:=by
  rw [if_neg (show ¬ t.kind = 7 by omega)] at h1
  first | exact h1 | (rw [if_pos hk] at h1; exact h1)
 unfold fieldsF at h1
 split at h1
 ·cases h1
 ·exact h1
def fxI (l:List Fld) (k:Str):Int:=if l.findIdx (fun f=>f.name == k) < l.length then (l.findIdx (fun f=>f.name == k):Nat) else -1
theorem fld_ix (k:Str):∀ l:List Fld,(l.findIdx (fun f=>f.name == k) < l.length→fldOf l k = some (l.getD (l.findIdx fun f=>f.name == k) (dflt .fld)))∧(¬ l.findIdx (fun f=>f.name == k) < l.length→fldOf l k = none)
 | []=>⟨fun h=>absurd h (Nat.not_lt_zero _),fun _=>rfl⟩
 | x::r=>by
  obtain ⟨h1,h2⟩:=fld_ix k r
  unfold fldOf at h1 h2 ⊢
  rw [List.findIdx_cons,List.find?_cons]
  cases hx:(x.name == k) with
  | true=>exact ⟨fun _=>rfl,fun h=>absurd (Nat.zero_lt_succ _) h⟩
  | false =>
   simp only [cond_false,List.length_cons,Nat.add_lt_add_iff_right]
   exact ⟨fun h=>by rw [h1 h]; rfl,fun h=>h2 h⟩
theorem fxI_none {l:List Fld} {k:Str} (h:fxI l k < 0):fldOf l k = none:=(fld_ix k l).2 fun h9=>by
 unfold fxI at h
 rw [if_pos h9] at h
 omega
theorem fxI_some {l:List Fld} {k:Str} (h:¬ fxI l k < 0):0≤fxI l k∧fxI l k < (l.length:Int)∧fldOf l k = some (l.getD (fxI l k).toNat (dflt .fld))∧l.getD (fxI l k).toNat (dflt .fld) ∈ l:=by
 by_cases h9:l.findIdx (fun f=>f.name == k) < l.length
 ·have e:fxI l k = ((l.findIdx fun f=>f.name == k:Nat):Int):=if_pos h9
  rw [e]
  refine ⟨by omega,by omega,(fld_ix k l).1 h9,?_⟩
  rw [Int.toNat_natCast,List.getD_eq_getElem?_getD,List.getElem?_eq_getElem h9]
  exact List.getElem_mem h9
 ·exact absurd (by unfold fxI; rw [if_neg h9]; decide) h
end Go.Proofs.YtdcdmojbkmedpaaDoor
end
section
namespace Go.Proofs.YtdcdmojbkmedpaaDoor
open Go Go.SX Go.Ck Go.Vl Go.Ut Go.Ty
set_option maxRecDepth 100000
set_option maxHeartbeats 8000000
def jdg (s:SchemaR) (full:Bool):List AV:=encSch s++[.b full]
theorem fx_hit {α:Type} {l:List α} {q:α→Bool} {i:Nat} (hi:i < l.length) (hf:i≤l.findIdx q) (h:q l[i] = true):l.findIdx q = i:=by
 refine Nat.le_antisymm (Nat.le_of_not_lt fun hlt=>?_) hf
 have:=List.not_of_lt_findIdx hlt
 rw [h] at this
 cases this
theorem fx_miss {α:Type} {l:List α} {q:α→Bool} {i:Nat} (hi:i < l.length) (hf:i≤l.findIdx q) (h:q l[i] = false):i + 1≤l.findIdx q:=by
 rcases Nat.lt_or_ge i (l.findIdx q) with h1 | h1
 ·exact h1
 ·have he:l.findIdx q = i:=Nat.le_antisymm h1 hf
  have:=List.findIdx_getElem (xs:=l) (p:=q) (w:=by rw [he]; exact hi)
  simp only [he] at this
  rw [h] at this
  cases this
section
variable [G:Globs]
theorem w_flat (s:SchemaR) (hs:GS s) (t:TypR) (ht:inS s t):vc Tryd.prog Γ 10 [2,3,4,7] (Tryd.f175.body.getD .skip) (postK Γ [.tmp 4] (fun v=>v = .rd .typ (comeA s.defs t).1)) ⟨argSlots 0 [.agg (encSch s),.agg (encTyp t)],[]⟩:=by
 have hP:=s_tparts s hs.sb 0 t (hs.ct ht) (hs.tb t ht) (hs.num ht)
 (repeat' (first | (refine aN (fun h=>?_) (fun h=>?_)<;>(try simp [-List.getD_eq_getElem?_getD,-Int.pred_toNat] at h)<;>(try (exfalso; first | omega | contradiction))) | (refine rNG ?_) | (refine bN2 ?_) | (refine bN3 ?_) | (intro _)))
 refine Or.inr (Or.inr (Or.inr (Or.inl (eX [7] (eX _ (aN (hP) ?_))))))
 (repeat' (first | (refine aN (fun h=>?_) (fun h=>?_)<;>(try simp [-List.getD_eq_getElem?_getD,-Int.pred_toNat] at h)<;>(try (exfalso; first | omega | contradiction))) | (refine rNG ?_) | (refine bN2 ?_) | (refine bN3 ?_) | (intro _)))
 rfl
theorem s_flat (s:SchemaR) (hs:GS s) (t:TypR) (ht:inS s t):PSpec Tryd.prog 175 [.agg (encSch s),.agg (encTyp t)] (.rd .typ (comeA s.defs t).1) :=
 pspec_of_vc Γ_good Tryd.func175 rfl Tryd.call175 Tryd.results175 Tryd.ntmps175 (Nat.le_of_ble_eq_true rfl) (w_flat s hs t ht)
theorem w_tells9 (t:TypR) (h1:isPart t) (k:Int) (h0:0≤k) (h6:k≤6):vc Tryd.prog Γ 11 [1,2,4] (Tryd.f176.body.getD .skip) (postK Γ [.tmp 4] (fun v=>v = .b (tellsK t.kind k))) ⟨argSlots 0 [.agg (encTyp t),.i .i64 k],[]⟩:=by
 have hK:=s_kinds t h1.1 h1.2
 obtain ⟨g1,g2,g3⟩:=kindsF_nat h1
 have hb:=bitF_nat g2 (j:=k.toNat) (by omega)
 rw [g3 k.toNat (by omega),← g1,show ((k.toNat:Nat):Int) = k by omega] at hb
 unfold bitF at hb
 (repeat' (first | (refine aN (fun h=>?_) (fun h=>?_)<;>(try simp [-List.getD_eq_getElem?_getD,-Int.pred_toNat] at h)<;>(try (exfalso; first | omega | contradiction))) | (refine rNG ?_) | (refine bN2 ?_) | (refine bN3 ?_) | (intro _)))
 refine Or.inl (eX _ (aN (hK) ?_))
 refine aN h0 ?_
 rw [← hb]
 (repeat' (first | (refine aN (fun h=>?_) (fun h=>?_)<;>(try simp [-List.getD_eq_getElem?_getD,-Int.pred_toNat] at h)<;>(try (exfalso; first | omega | contradiction))) | (refine rNG ?_) | (refine bN2 ?_) | (refine bN3 ?_) | (intro _)))
 rfl
theorem s_tells9 (t:TypR) (h1:isPart t) (k:Int) (h0:0≤k) (h6:k≤6):PSpec Tryd.prog 176 [.agg (encTyp t),.i .i64 k] (.b (tellsK t.kind k)) :=
 pspec_of_vc Γ_good Tryd.func176 rfl Tryd.call176 Tryd.results176 Tryd.ntmps176 (Nat.le_of_ble_eq_true rfl) (w_tells9 t h1 k h0 h6)
theorem w_betw1 (n lo hi:Int):vc Tryd.prog Γ 15 [0,1,2,6] (Tryd.f217.body.getD .skip) (postK Γ [.tmp 6] (fun v=>v = .b (betw n lo hi))) ⟨argSlots 0 [.i .i64 n,.i .i64 lo,.i .i64 hi],[]⟩:=by
 unfold betw
 by_cases c1:lo≤n
 ·by_cases c2:n≤hi
  ·rw [decide_eq_true c1,decide_eq_true c2]
   (repeat' (first | (refine aN (fun h=>?_) (fun h=>?_)<;>(try simp [-List.getD_eq_getElem?_getD,-Int.pred_toNat] at h)<;>(try (exfalso; first | omega | contradiction))) | (refine rNG ?_) | (refine bN2 ?_) | (refine bN3 ?_) | (intro _)))
   all_goals (show AV.b _ = AV.b _; simp [c1,c2])
  ·rw [decide_eq_true c1,decide_eq_false c2]
   (repeat' (first | (refine aN (fun h=>?_) (fun h=>?_)<;>(try simp [-List.getD_eq_getElem?_getD,-Int.pred_toNat] at h)<;>(try (exfalso; first | omega | contradiction))) | (refine rNG ?_) | (refine bN2 ?_) | (refine bN3 ?_) | (intro _)))
   all_goals (show AV.b _ = AV.b _; simp [c1,c2])
 ·rw [decide_eq_false c1]
  (repeat' (first | (refine aN (fun h=>?_) (fun h=>?_)<;>(try simp [-List.getD_eq_getElem?_getD,-Int.pred_toNat] at h)<;>(try (exfalso; first | omega | contradiction))) | (refine rNG ?_) | (refine bN2 ?_) | (refine bN3 ?_) | (intro _)))
  all_goals (show AV.b _ = AV.b _; simp [c1])
theorem s_betw1 (n lo hi:Int):PSpec Tryd.prog 217 [.i .i64 n,.i .i64 lo,.i .i64 hi] (.b (betw n lo hi)) :=
 pspec_of_vc Γ_good Tryd.func217 rfl Tryd.call217 Tryd.results217 Tryd.ntmps217 (Nat.le_of_ble_eq_true rfl) (w_betw1 n lo hi)
theorem w_rec1 (f:Fld) (p:Ent):vc Tryd.prog Γ 9 [1,2,3] (Tryd.f249.body.getD .skip) (postK Γ [.tmp 3] (fun v=>v = .b (f.name == p.1))) ⟨argSlots 0 [.agg (enc .fld f),.rp (enc .ent p)],[]⟩:=by
 (repeat' (first | (refine aN (fun h=>?_) (fun h=>?_)<;>(try simp [-List.getD_eq_getElem?_getD,-Int.pred_toNat] at h)<;>(try (exfalso; first | omega | contradiction))) | (refine rNG ?_) | (refine bN2 ?_) | (refine bN3 ?_) | (intro _)))
 rfl
theorem s_rec1 (f:Fld) (p:Ent):PSpec Tryd.prog 249 [.agg (enc .fld f),.rp (enc .ent p)] (.b (f.name == p.1)) :=
 pspec_of_vc Γ_good Tryd.func249 rfl Tryd.call249 Tryd.results249 Tryd.ntmps249 (Nat.le_of_ble_eq_true rfl) (w_rec1 f p)
theorem w_ixF (l:List Fld) (hl:l.length≤2000000) (p:Ent):vc Tryd.prog Γ 19 [0,1,4,5,7,8,9,16] (Tryd.f248.body.getD .skip) (postK Γ [.tmp 4] (fun v=>v = .i .i64 (fxI l p.1))) ⟨argSlots 0 [.rd .fld l,.fn 249 [.rp (enc .ent p)]],[]⟩:=by
 (repeat' (first | (refine aN (fun h=>?_) (fun h=>?_)<;>(try simp [-List.getD_eq_getElem?_getD,-Int.pred_toNat] at h)<;>(try (exfalso; first | omega | contradiction))) | (refine rNG ?_) | (refine bN2 ?_) | (refine bN3 ?_) | (intro _)))
 refine eX [] (eX [] (eX [] (eX Nat (eX (fun i=>i≤(l).length∧(i≤l.findIdx (fun f=>f.name == p.1))) (eX (fun i=>⟨[(0,.rd .fld l),(1,.fn 249 [.rp (enc .ent p)]),(7,.i .i64 l.length),(8,.i .i64 i)],[]⟩) (eX (fun i=>(l).length - i) (eX 0 (aN ⟨Nat.zero_le _,(Nat.zero_le _)⟩ (aN ?_ ?_)))))))))
 ·(repeat' (first | exact trivial | exact Or.inl rfl | exact Or.inr (Or.inl ⟨rfl,_,rfl⟩) | exact Or.inr (Or.inr (Or.inr ⟨_,_,_,rfl,rfl⟩)) | refine aN ?_ ?_))
 rintro i ⟨hi,hI⟩
 refine aN (fun hz=>?_) (fun hz=>?_)
 ·have hi:=ltD hz
  have hg:=getI (τ:=.fld) hi
  have hD:=s_rec1 l[i] p
  refine bN2 ?_
  rw [hg]
  (repeat' (first | (refine aN (fun h=>?_) (fun h=>?_)<;>(try simp [-List.getD_eq_getElem?_getD,-Int.pred_toNat] at h)<;>(try (exfalso; first | omega | contradiction))) | (refine rNG ?_) | (refine bN2 ?_) | (refine bN3 ?_) | (intro _)))
  refine Or.inl (eX _ (aN (hD) ?_))
  cases hq:(l[i].name == p.1) with
  | true =>
   have he:=fx_hit (q:=fun f:Fld=>f.name == p.1) hi hI hq
   (repeat' (first | (refine aN (fun h=>?_) (fun h=>?_)<;>(try simp [-List.getD_eq_getElem?_getD,-Int.pred_toNat] at h)<;>(try (exfalso; first | omega | contradiction))) | (refine rNG ?_) | (refine bN2 ?_) | (refine bN3 ?_) | (intro _)))
   refine congrArg (AV.i .i64) ?_
   unfold fxI
   rw [he,if_pos hi]
  | false =>
   have he:=fx_miss (q:=fun f:Fld=>f.name == p.1) hi hI hq
   (repeat' (first | (refine aN (fun h=>?_) (fun h=>?_)<;>(try simp [-List.getD_eq_getElem?_getD,-Int.pred_toNat] at h)<;>(try (exfalso; first | omega | contradiction))) | (refine rNG ?_) | (refine bN2 ?_) | (refine bN3 ?_) | (intro _)))
   refine eX [] (eX (i + 1) (aN ⟨hi,he⟩ (aN ?_ ?_)))
   ·(repeat' (first | exact trivial | exact Or.inl rfl | exact Or.inr (Or.inl ⟨rfl,_,rfl⟩) | exact Or.inr (Or.inr (Or.inr ⟨_,_,_,rfl,rfl⟩)) | refine aN ?_ ?_))
   ·(exact Nat.sub_lt_sub_left (by omega) (by omega))
 ·(have hi:=geD hi hz)
  refine congrArg (AV.i .i64) ?_
  unfold fxI
  rw [if_neg (by omega)]
theorem s_ixF (l:List Fld) (hl:l.length≤2000000) (p:Ent):PSpec Tryd.prog 248 [.rd .fld l,.fn 249 [.rp (enc .ent p)]] (.i .i64 (fxI l p.1)) :=
 pspec_of_vc Γ_good Tryd.func248 rfl Tryd.call248 Tryd.results248 Tryd.ntmps248 (Nat.le_of_ble_eq_true rfl) (w_ixF l hl p)
theorem w_ixS (l:List Str) (hl:l.length≤2000000) (k:Str):vc Tryd.prog Γ 19 [0,1,4,5,7,8,9,16] (Tryd.f247.body.getD .skip) (postK Γ [.tmp 4] (fun v=>v = .i .i64 (if l.findIdx (fun x=>x == k) < l.length then (l.findIdx (fun x=>x == k):Nat) else -1))) ⟨argSlots 0 [.rd .str l,.s k],[]⟩:=by
 (repeat' (first | (refine aN (fun h=>?_) (fun h=>?_)<;>(try simp [-List.getD_eq_getElem?_getD,-Int.pred_toNat] at h)<;>(try (exfalso; first | omega | contradiction))) | (refine rNG ?_) | (refine bN2 ?_) | (refine bN3 ?_) | (intro _)))
 refine eX [] (eX [] (eX [] (eX Nat (eX (fun i=>i≤(l).length∧(i≤l.findIdx (fun x=>x == k))) (eX (fun i=>⟨[(0,.rd .str l),(1,.s k),(7,.i .i64 l.length),(8,.i .i64 i)],[]⟩) (eX (fun i=>(l).length - i) (eX 0 (aN ⟨Nat.zero_le _,(Nat.zero_le _)⟩ (aN ?_ ?_)))))))))
 ·(repeat' (first | exact trivial | exact Or.inl rfl | exact Or.inr (Or.inl ⟨rfl,_,rfl⟩) | exact Or.inr (Or.inr (Or.inr ⟨_,_,_,rfl,rfl⟩)) | refine aN ?_ ?_))
 rintro i ⟨hi,hI⟩
 refine aN (fun hz=>?_) (fun hz=>?_)
 ·have hi:=ltD hz
  have hg:=getI (τ:=.str) hi
  refine bN2 ?_
  rw [hg]
  cases hq:(l[i] == k) with
  | true =>
   have he:=fx_hit (q:=fun x:Str=>x == k) hi hI hq
   have hq2:k = l[i]:=(eq_of_beq hq).symm
   (repeat' (first | (refine aN (fun h=>?_) (fun h=>?_)<;>(try simp [-List.getD_eq_getElem?_getD,-Int.pred_toNat] at h)<;>(try (exfalso; first | omega | contradiction))) | (refine rNG ?_) | (refine bN2 ?_) | (refine bN3 ?_) | (intro _)))
   refine congrArg (AV.i .i64) ?_
   rw [he,if_pos hi]
  | false =>
   have he:=fx_miss (q:=fun x:Str=>x == k) hi hI hq
   have hq2:¬ k = l[i]:=fun e=>ne_of_beq_false hq e.symm
   (repeat' (first | (refine aN (fun h=>?_) (fun h=>?_)<;>(try simp [-List.getD_eq_getElem?_getD,-Int.pred_toNat] at h)<;>(try (exfalso; first | omega | contradiction))) | (refine rNG ?_) | (refine bN2 ?_) | (refine bN3 ?_) | (intro _)))
   refine eX [] (eX (i + 1) (aN ⟨hi,he⟩ (aN ?_ ?_)))
   ·(repeat' (first | exact trivial | exact Or.inl rfl | exact Or.inr (Or.inl ⟨rfl,_,rfl⟩) | exact Or.inr (Or.inr (Or.inr ⟨_,_,_,rfl,rfl⟩)) | refine aN ?_ ?_))
   ·(exact Nat.sub_lt_sub_left (by omega) (by omega))
 ·(have hi:=geD hi hz)
  refine congrArg (AV.i .i64) ?_
  rw [if_neg (by omega)]
theorem s_ixS (l:List Str) (hl:l.length≤2000000) (k:Str):PSpec Tryd.prog 247 [.rd .str l,.s k] (.i .i64 (if l.findIdx (fun x=>x == k) < l.length then (l.findIdx (fun x=>x == k):Nat) else -1)) :=
 pspec_of_vc Γ_good Tryd.func247 rfl Tryd.call247 Tryd.results247 Tryd.ntmps247 (Nat.le_of_ble_eq_true rfl) (w_ixS l hl k)
theorem w_hasS (l:List Str) (hl:l.length≤2000000) (k:Str):vc Tryd.prog Γ 9 [0,1,4] (Tryd.f219.body.getD .skip) (postK Γ [.tmp 4] (fun v=>v = .b (l.any fun x=>x == k))) ⟨argSlots 0 [.rd .str l,.s k],[]⟩:=by
 have hC:=s_ixS l hl k
 have hR:(decide (0≤(if l.findIdx (fun x=>x == k) < l.length then ((l.findIdx (fun x=>x == k):Nat):Int) else -1))) = l.any fun x=>x == k:=by
  by_cases h:l.findIdx (fun x=>x == k) < l.length
  ·rw [if_pos h]
   have:=List.findIdx_lt_length.1 h
   rw [decide_eq_true (Int.natCast_nonneg _)]
   exact (List.any_eq_true.2 this).symm
  ·rw [if_neg h]
   have h9:¬ ∃ x,x ∈ l∧(x == k) = true:=fun e=>h (List.findIdx_lt_length.2 e)
   have:(l.any fun x=>x == k) = false:=by
    rw [List.any_eq_false]
    exact fun x hx e=>h9 ⟨x,hx,e⟩
   rw [this]
   rfl
 generalize (if l.findIdx (fun x=>x == k) < l.length then ((l.findIdx (fun x=>x == k):Nat):Int) else -1) = r at hC hR
 rw [← hR]
 (repeat' (first | (refine aN (fun h=>?_) (fun h=>?_)<;>(try simp [-List.getD_eq_getElem?_getD,-Int.pred_toNat] at h)<;>(try (exfalso; first | omega | contradiction))) | (refine rNG ?_) | (refine bN2 ?_) | (refine bN3 ?_) | (intro _)))
 refine Or.inl (eX _ (aN (hC) ?_))
 (repeat' (first | (refine aN (fun h=>?_) (fun h=>?_)<;>(try simp [-List.getD_eq_getElem?_getD,-Int.pred_toNat] at h)<;>(try (exfalso; first | omega | contradiction))) | (refine rNG ?_) | (refine bN2 ?_) | (refine bN3 ?_) | (intro _)))
 rfl
theorem s_hasS (l:List Str) (hl:l.length≤2000000) (k:Str):PSpec Tryd.prog 219 [.rd .str l,.s k] (.b (l.any fun x=>x == k)) :=
 pspec_of_vc Γ_good Tryd.func219 rfl Tryd.call219 Tryd.results219 Tryd.ntmps219 (Nat.le_of_ble_eq_true rfl) (w_hasS l hl k)
end
end Go.Proofs.YtdcdmojbkmedpaaDoor
end
section
namespace Go.Proofs.YtdcdmojbkmedpaaDoor
open Go Go.SX Go.Ck Go.Vl Go.Ut Go.Ty
set_option maxRecDepth 100000
set_option maxHeartbeats 8000000
theorem wrL_len {l:List DefR} {full:Bool} {d:Nat} {t:TypR}:∀ (L:List Val) (i:Nat),(∀ x ∈ L,(wrV l full x t).1.length≤d)→(wrL l full L t i).1.length≤d + 1
 | [],_,_=>by rw [wrL]; exact Nat.zero_le _
 | x::r,i,h=>by
  rw [wrL]
  split
  ·exact Nat.succ_le_succ (h x (List.mem_cons_self ..))
  ·exact wrL_len r (i + 1) fun y hy=>h y (List.mem_cons_of_mem _ hy)
theorem wrM_len {l:List DefR} {full:Bool} {d:Nat} {t:TypR}:∀ (E:List Ent),(∀ p ∈ E,(wrV l full p.2 t).1.length≤d)→(wrM l full E t).1.length≤d + 1
 | [],_=>by rw [wrM]; exact Nat.zero_le _
 | p::r,h=>by
  rw [wrM,wrP_eq]
  split
  ·exact Nat.succ_le_succ (h p (List.mem_cons_self ..))
  ·exact wrM_len r fun y hy=>h y (List.mem_cons_of_mem _ hy)
theorem wrR_len {l:List DefR} {full:Bool} {d:Nat} {fl:List Fld} {m:Bool}:∀ (E:List Ent),(∀ p ∈ E,∀ t,(wrV l full p.2 t).1.length≤d)→(wrR l full E fl m).1.length≤d + 1
 | [],_=>by rw [wrR]; exact Nat.zero_le _
 | p::r,h=>by
  rw [wrR]
  split
  ·exact Nat.succ_le_succ (Nat.zero_le _)
  ·rw [wrP_eq]
   split
   ·exact Nat.succ_le_succ (h p (List.mem_cons_self ..) _)
   ·exact wrR_len r fun y hy=>h y (List.mem_cons_of_mem _ hy)
theorem wr_len (l:List DefR) (full:Bool):∀ (d:Nat) (v:Val),GV d v→∀ t,(wrV l full v t).1.length≤d:=by
 intro d
 induction d with
 | zero=>intro v h; exact nomatch h
 | succ d ih =>
  intro v h t
  cases h with
  | mk _ _ _ _ _ _ h1 h2 =>
   rw [wrV_eq]
   split
   ·exact Nat.zero_le _
   ·unfold prtF
    split
    ·exact Nat.zero_le _
    split
    ·exact Nat.zero_le _
    split
    ·exact Nat.zero_le _
    split
    ·split
     ·exact wrL_len _ _ fun x hx=>ih x (h1 x hx) _
     ·exact Nat.zero_le _
    split
    ·exact wrM_len _ fun p hp=>ih p.2 (h2 p hp) _
    split
    ·exact wrR_len _ fun p hp t=>ih p.2 (h2 p hp) t
    ·exact Nat.zero_le _
section
variable [G:Globs]
theorem w_jon (s:SchemaR) (full:Bool) (z:Val) (t:TypR) (p:PStep) (hl:(wrV s.defs full z t).1.length≤100) (hW:PSpec Tryd.prog 106 [.rp (jdg s full),.agg (encTyp t),.agg (encVal z)] (.tup [.rd .pstep (wrV s.defs full z t).1,.b (wrV s.defs full z t).2])):vc Tryd.prog Γ 26 [0,5,6,7,8,9,10,11,19] (Tryd.f220.body.getD .skip) (postK Γ [.tmp 8,.tmp 9] (fun v=>RL v (.tup [.rd .pstep (if (wrV s.defs full z t).2 = true then p::(wrV s.defs full z t).1 else (wrV s.defs full z t).1),.b (wrV s.defs full z t).2]))) ⟨argSlots 0 [.rp (jdg s full),.agg (encTyp t),.agg (encVal z),.agg (enc .pstep p)],[]⟩:=by
 generalize (wrV s.defs full z t).1 = q at hl hW ⊢
 generalize (wrV s.defs full z t).2 = b at hW ⊢
 (repeat' (first | (refine aN (fun h=>?_) (fun h=>?_)<;>(try simp [-List.getD_eq_getElem?_getD,-Int.pred_toNat] at h)<;>(try (exfalso; first | omega | contradiction))) | (refine rNG ?_) | (refine bN2 ?_) | (refine bN3 ?_) | (intro _)))
 refine Or.inl (eX _ (aN (hW) ?_))
 cases b with
 | true =>
  rw [if_pos rfl]
  (repeat' (first | (refine aN (fun h=>?_) (fun h=>?_)<;>(try simp [-List.getD_eq_getElem?_getD,-Int.pred_toNat] at h)<;>(try (exfalso; first | omega | contradiction))) | (refine rNG ?_) | (refine bN2 ?_) | (refine bN3 ?_) | (intro _)))
  (refine aN (Go.Ty.szB (by (try simp only [List.length_append,List.length_cons,List.length_nil,List.length_map,List.length_take,List.length_drop]); omega) (Nat.le_of_ble_eq_true rfl)) ?_)
  (repeat' (first | (refine aN (fun h=>?_) (fun h=>?_)<;>(try simp [-List.getD_eq_getElem?_getD,-Int.pred_toNat] at h)<;>(try (exfalso; first | omega | contradiction))) | (refine rNG ?_) | (refine bN2 ?_) | (refine bN3 ?_) | (intro _)))
  (repeat' (first | exact trivial | exact Or.inl rfl | exact Or.inr ⟨rfl,_,rfl⟩ | refine aN ?_ ?_))
 | false =>
  rw [if_neg (by decide)]
  (repeat' (first | (refine aN (fun h=>?_) (fun h=>?_)<;>(try simp [-List.getD_eq_getElem?_getD,-Int.pred_toNat] at h)<;>(try (exfalso; first | omega | contradiction))) | (refine rNG ?_) | (refine bN2 ?_) | (refine bN3 ?_) | (intro _)))
  (repeat' (first | exact trivial | exact Or.inl rfl | exact Or.inr ⟨rfl,_,rfl⟩ | refine aN ?_ ?_))
theorem s_jon (s:SchemaR) (full:Bool) (z:Val) (t:TypR) (p:PStep) (hl:(wrV s.defs full z t).1.length≤100) (hW:PSpec Tryd.prog 106 [.rp (jdg s full),.agg (encTyp t),.agg (encVal z)] (.tup [.rd .pstep (wrV s.defs full z t).1,.b (wrV s.defs full z t).2])):PSpec Tryd.prog 220 [.rp (jdg s full),.agg (encTyp t),.agg (encVal z),.agg (enc .pstep p)] (.tup [.rd .pstep (if (wrV s.defs full z t).2 = true then p::(wrV s.defs full z t).1 else (wrV s.defs full z t).1),.b (wrV s.defs full z t).2]) :=
 pspec_of_vcL Γ_good Tryd.func220 rfl Tryd.call220 Tryd.results220 Tryd.ntmps220 (Nat.le_of_ble_eq_true rfl) (w_jon s full z t p hl hW)
theorem w_jrec (s:SchemaR) (hs:GS s) (full:Bool) (d:Nat) (hd:d≤50) (x:TypR) (hx:inS s x) (z:Val) (hv:GV (d + 1) z) (ih:∀ u,GV d u→∀ y,inS s y→PSpec Tryd.prog 106 [.rp (jdg s full),.agg (encTyp y),.agg (encVal u)] (.tup [.rd .pstep (wrV s.defs full u y).1,.b (wrV s.defs full u y).2])):vc Tryd.prog Γ 84 [0,1,5,6,7,9,10,11,12,13,15,16,18,19,20,21,31,47,50,51,52,53,82] (Tryd.f221.body.getD .skip) (postK Γ [.tmp 6,.tmp 7] (fun v=>RL v (.tup [.rd .pstep (wrR s.defs full z.e x.f (miss full x.f z.e)).1,.b (wrR s.defs full z.e x.f (miss full x.f z.e)).2]))) ⟨argSlots 0 [.rp (jdg s full),.rd .fld x.f,.agg (encVal z)],[]⟩:=by
 have hA:wrR s.defs full z.e x.f (miss full x.f z.e) = wrR s.defs full (z.e.drop 0) x.f (miss full x.f z.e):=rfl
 generalize wrR s.defs full z.e x.f (miss full x.f z.e) = R at hA ⊢
 have hfl:=(by cases hs.tb x hx; omega:x.f.length≤2000000)
 have hel:=(by cases hv; omega:z.e.length≤200)
 have hve:=(by cases hv; assumption:∀ p ∈ z.e,GV d p.2)
 (repeat' (first | (refine aN (fun h=>?_) (fun h=>?_)<;>(try simp [-List.getD_eq_getElem?_getD,-Int.pred_toNat] at h)<;>(try (exfalso; first | omega | contradiction))) | (refine rNG ?_) | (refine bN2 ?_) | (refine bN3 ?_) | (intro _)))
 refine eX [] (eX [] (eX [] (eX Nat (eX (fun i=>i≤(z.e).length∧(R = wrR s.defs full (z.e.drop i) x.f (miss full x.f z.e))) (eX (fun i=>⟨[(0,.rp (jdg s full)),(1,.rd .fld x.f),(5,.pt 5 0),(18,.rd .ent z.e),(19,.i .i64 z.e.length),(20,.i .i64 i)],[(5,encVal z)]⟩) (eX (fun i=>(z.e).length - i) (eX 0 (aN ⟨Nat.zero_le _,hA⟩ (aN ?_ ?_)))))))))
 ·(repeat' (first | exact trivial | exact Or.inl rfl | exact Or.inr (Or.inl ⟨rfl,_,rfl⟩) | exact Or.inr (Or.inr (Or.inr ⟨_,_,_,rfl,rfl⟩)) | refine aN ?_ ?_))
 rintro i ⟨hi,hI⟩
 refine aN (fun hz=>?_) (fun hz=>?_)
 ·have hi:=ltD hz
  have hg:=getI (τ:=.ent) hi
  refine bN2 ?_
  rw [hg]
  have hF:=s_ixF x.f hfl z.e[i]
  have hg9:=hve _ (List.getElem_mem hi)
  rw [wrR_drop s.defs full hi] at hI
  (repeat' (first | (refine aN (fun h=>?_) (fun h=>?_)<;>(try simp [-List.getD_eq_getElem?_getD,-Int.pred_toNat] at h)<;>(try (exfalso; first | omega | contradiction))) | (refine rNG ?_) | (refine bN2 ?_) | (refine bN3 ?_) | (intro _)))
  refine Or.inr (Or.inr (Or.inr (Or.inl (eX [9] (eX _ (aN (hF) ?_))))))
  by_cases c1:fxI x.f z.e[i].1 < 0
  ·rw [fxI_none c1] at hI
   rw [hI]
   (repeat' (first | (refine aN (fun h=>?_) (fun h=>?_)<;>(try simp [-List.getD_eq_getElem?_getD,-Int.pred_toNat] at h)<;>(try (exfalso; first | omega | contradiction))) | (refine rNG ?_) | (refine bN2 ?_) | (refine bN3 ?_) | (intro _)))
   (repeat' (first | exact trivial | exact Or.inl rfl | exact Or.inr ⟨rfl,_,rfl⟩ | refine aN ?_ ?_))
  obtain ⟨f0,f1,f2,f3⟩:=fxI_some c1
  rw [f2] at hI
  obtain ⟨f,hgf⟩:∃ f,f = x.f.getD (fxI x.f z.e[i].1).toNat (dflt .fld):=⟨_,rfl⟩
  rw [← hgf] at f3 hI
  dsimp only at hI
  have hfi:inS s f.t:=inS_in hx f.t (List.mem_append_right _ (List.mem_map.2 ⟨f,f3,rfl⟩))
  have hON:=s_jon s full z.e[i].2 f.t ⟨z.e[i].1,-1⟩ (by have:=wr_len s.defs full d _ hg9 f.t; omega) (ih _ hg9 _ hfi)
  (repeat' (first | (refine aN (fun h=>?_) (fun h=>?_)<;>(try simp [-List.getD_eq_getElem?_getD,-Int.pred_toNat] at h)<;>(try (exfalso; first | omega | contradiction))) | (refine rNG ?_) | (refine bN2 ?_) | (refine bN3 ?_) | (intro _)))
  refine eX [.blk [0,1,2,3,4,5,6,7,8,9,10,11,12,13,14]] (aN (by kernel_rfl) ?_)
  refine aN ⟨f0,f1⟩ ?_
  subst hgf
  refine eX _ (aN (hON) ?_)
  generalize wrV s.defs full z.e[i].2 (x.f.getD (fxI x.f z.e[i].1).toNat (dflt .fld)).t = q at hI ⊢
  cases hq:q.2 with
  | true =>
   rw [hq,if_pos rfl] at hI
   rw [hI,if_pos rfl]
   (repeat' (first | (refine aN (fun h=>?_) (fun h=>?_)<;>(try simp [-List.getD_eq_getElem?_getD,-Int.pred_toNat] at h)<;>(try (exfalso; first | omega | contradiction))) | (refine rNG ?_) | (refine bN2 ?_) | (refine bN3 ?_) | (intro _)))
   (repeat' (first | exact trivial | exact Or.inl rfl | exact Or.inr ⟨rfl,_,rfl⟩ | refine aN ?_ ?_))
  | false =>
   rw [hq,if_neg (by decide)] at hI
   (repeat' (first | (refine aN (fun h=>?_) (fun h=>?_)<;>(try simp [-List.getD_eq_getElem?_getD,-Int.pred_toNat] at h)<;>(try (exfalso; first | omega | contradiction))) | (refine rNG ?_) | (refine bN2 ?_) | (refine bN3 ?_) | (intro _)))
   refine eX [] (eX (i + 1) (aN ⟨hi,hI⟩ (aN ?_ ?_)))
   ·(repeat' (first | exact trivial | exact Or.inl rfl | exact Or.inr (Or.inl ⟨rfl,_,rfl⟩) | exact Or.inr (Or.inr (Or.inr ⟨_,_,_,rfl,rfl⟩)) | refine aN ?_ ?_))
   ·(exact Nat.sub_lt_sub_left (by omega) (by omega))
 (have hi:=geD hi hz)
 rw [List.drop_eq_nil_of_le (by omega),wrR] at hI
 subst hI
 have hM:miss full x.f z.e = (x.f.drop 0).any fun f=>askd full f && decide (ixI z.e (keyIs f.name) < 0):=rfl
 generalize miss full x.f z.e = m at hM ⊢
 (repeat' (first | (refine aN (fun h=>?_) (fun h=>?_)<;>(try simp [-List.getD_eq_getElem?_getD,-Int.pred_toNat] at h)<;>(try (exfalso; first | omega | contradiction))) | (refine rNG ?_) | (refine bN2 ?_) | (refine bN3 ?_) | (intro _)))
 refine eX [] (eX [] (eX [] (eX Nat (eX (fun j=>j≤(x.f).length∧(m = (x.f.drop j).any fun f=>askd full f && decide (ixI z.e (keyIs f.name) < 0))) (eX (fun j=>⟨[(0,.rp (jdg s full)),(5,.pt 5 0),(50,.rd .fld x.f),(51,.i .i64 x.f.length),(52,.i .i64 j)],[(5,encVal z)]⟩) (eX (fun j=>(x.f).length - j) (eX 0 (aN ⟨Nat.zero_le _,hM⟩ (aN ?_ ?_)))))))))
 ·(repeat' (first | exact trivial | exact Or.inl rfl | exact Or.inr (Or.inl ⟨rfl,_,rfl⟩) | exact Or.inr (Or.inr (Or.inr ⟨_,_,_,rfl,rfl⟩)) | refine aN ?_ ?_))
 rintro j ⟨hi,hI⟩
 refine aN (fun hz=>?_) (fun hz=>?_)
 ·rename_i i0 hi0 hz0 hi1
  have hi:=ltD hz
  have hg:=getI (τ:=.fld) hi
  refine bN2 ?_
  rw [hg]
  have hFd:=s_find z.e x.f[j].name
  (conv=>whnf)
  rw [List.drop_eq_getElem_cons hi,List.any_cons] at hI
  have hak:askd full x.f[j] = ((!x.f[j].opt && !x.f[j].hasDef) || (full && x.f[j].hasDef)):=rfl
  by_cases hk:askd full x.f[j] = true
  ·rw [hk,Bool.true_and] at hI
   rw [hk] at hak
   by_cases hx9:ixI z.e (keyIs x.f[j].name) < 0
   ·rw [decide_eq_true hx9,Bool.true_or] at hI
    rw [hI]
    cases ho:x.f[j].opt<;>cases hh:x.f[j].hasDef<;>cases full<;>first | (rw [ho,hh] at hak; exact absurd hak (by decide)) | skip
    all_goals (repeat' (first | (refine aN (fun h=>?_) (fun h=>?_)<;>(try simp [-List.getD_eq_getElem?_getD,-Int.pred_toNat] at h)<;>(try (exfalso; first | omega | contradiction))) | (refine rNG ?_) | (refine bN2 ?_) | (refine bN3 ?_) | (intro _)))
    all_goals refine Or.inl (eX _ (aN hFd ?_))
    all_goals (repeat' (first | (refine aN (fun h=>?_) (fun h=>?_)<;>(try simp [-List.getD_eq_getElem?_getD,-Int.pred_toNat] at h)<;>(try (exfalso; first | omega | contradiction))) | (refine rNG ?_) | (refine bN2 ?_) | (refine bN3 ?_) | (intro _)))
    all_goals (repeat' (first | exact trivial | exact Or.inl rfl | exact Or.inr ⟨rfl,_,rfl⟩ | refine aN ?_ ?_))
   ·rw [decide_eq_false hx9,Bool.false_or] at hI
    cases ho:x.f[j].opt<;>cases hh:x.f[j].hasDef<;>cases full<;>first | (rw [ho,hh] at hak; exact absurd hak (by decide)) | skip
    all_goals (repeat' (first | (refine aN (fun h=>?_) (fun h=>?_)<;>(try simp [-List.getD_eq_getElem?_getD,-Int.pred_toNat] at h)<;>(try (exfalso; first | omega | contradiction))) | (refine rNG ?_) | (refine bN2 ?_) | (refine bN3 ?_) | (intro _)))
    all_goals refine Or.inl (eX _ (aN hFd ?_))
    all_goals (repeat' (first | (refine aN (fun h=>?_) (fun h=>?_)<;>(try simp [-List.getD_eq_getElem?_getD,-Int.pred_toNat] at h)<;>(try (exfalso; first | omega | contradiction))) | (refine rNG ?_) | (refine bN2 ?_) | (refine bN3 ?_) | (intro _)))
    all_goals refine eX [] (eX (j + 1) (aN ⟨hi,hI⟩ (aN ?_ ?_)))
    all_goals first | (repeat' (first | exact trivial | exact Or.inl rfl | exact Or.inr (Or.inl ⟨rfl,_,rfl⟩) | exact Or.inr (Or.inr (Or.inr ⟨_,_,_,rfl,rfl⟩)) | refine aN ?_ ?_)); done | (exact Nat.sub_lt_sub_left (by omega) (by omega))
  ·have hk:askd full x.f[j] = false:=Bool.eq_false_iff.2 hk
   rw [hk,Bool.false_and,Bool.false_or] at hI
   rw [hk] at hak
   cases ho:x.f[j].opt<;>cases hh:x.f[j].hasDef<;>cases full<;>first | (rw [ho,hh] at hak; exact absurd hak (by decide)) | skip
   all_goals (repeat' (first | (refine aN (fun h=>?_) (fun h=>?_)<;>(try simp [-List.getD_eq_getElem?_getD,-Int.pred_toNat] at h)<;>(try (exfalso; first | omega | contradiction))) | (refine rNG ?_) | (refine bN2 ?_) | (refine bN3 ?_) | (intro _)))
   all_goals refine eX [] (eX (j + 1) (aN ⟨hi,hI⟩ (aN ?_ ?_)))
   all_goals first | (repeat' (first | exact trivial | exact Or.inl rfl | exact Or.inr (Or.inl ⟨rfl,_,rfl⟩) | exact Or.inr (Or.inr (Or.inr ⟨_,_,_,rfl,rfl⟩)) | refine aN ?_ ?_)); done | (exact Nat.sub_lt_sub_left (by omega) (by omega))
 (have hi:=geD hi hz)
 rw [List.drop_eq_nil_of_le (by omega),List.any_nil] at hI
 rw [hI]
 (repeat' (first | (refine aN (fun h=>?_) (fun h=>?_)<;>(try simp [-List.getD_eq_getElem?_getD,-Int.pred_toNat] at h)<;>(try (exfalso; first | omega | contradiction))) | (refine rNG ?_) | (refine bN2 ?_) | (refine bN3 ?_) | (intro _)))
 (repeat' (first | exact trivial | exact Or.inl rfl | exact Or.inr ⟨rfl,_,rfl⟩ | refine aN ?_ ?_))
theorem s_jrec (s:SchemaR) (hs:GS s) (full:Bool) (d:Nat) (hd:d≤50) (x:TypR) (hx:inS s x) (z:Val) (hv:GV (d + 1) z) (ih:∀ u,GV d u→∀ y,inS s y→PSpec Tryd.prog 106 [.rp (jdg s full),.agg (encTyp y),.agg (encVal u)] (.tup [.rd .pstep (wrV s.defs full u y).1,.b (wrV s.defs full u y).2])):PSpec Tryd.prog 221 [.rp (jdg s full),.rd .fld x.f,.agg (encVal z)] (.tup [.rd .pstep (wrR s.defs full z.e x.f (miss full x.f z.e)).1,.b (wrR s.defs full z.e x.f (miss full x.f z.e)).2]) :=
 pspec_of_vcL Γ_good Tryd.func221 rfl Tryd.call221 Tryd.results221 Tryd.ntmps221 (Nat.le_of_ble_eq_true rfl) (w_jrec s hs full d hd x hx z hv ih)
end
end Go.Proofs.YtdcdmojbkmedpaaDoor
end
