/-
  A part of a proof: plain laws and walks, one after the other. No conditions.
-/
import Derived.Test.YtdcdmojbkmedpaaDoorTy5
set_option linter.constructorNameAsVariable false
set_option linter.unusedVariables false
set_option linter.unusedSimpArgs false
set_option linter.unusedSectionVars false
section
namespace Go.Proofs.YtdcdmojbkmedpaaDoor
open Go Go.SX Go.Ck Go.Vl Go.Ut Go.Ty
set_option maxRecDepth 100000
set_option maxHeartbeats 4000000
theorem etaTP (x:TypR) (a:Int):(⟨⟨x.kind,x.lo,x.hi,x.texts,x.t,x.f,x.name⟩,a⟩:TPlace) = ⟨x,a⟩:=by cases x; rfl
def plD (l:List DefR):List TPlace:=l.map fun d=>⟨d.t,0⟩
theorem plD_snoc {l:List DefR} {i:Nat} (h:i < l.length):plD (l.take (i + 1)) = plD (l.take i)++[⟨l[i].t,0⟩]:=by
 unfold plD
 rw [List.take_add_one,List.getElem?_eq_getElem h,List.map_append]
 rfl
theorem allP_gone (s:SchemaR):allP s = goneF (plD s.defs++[⟨s.root,0⟩]):=by
 unfold allP goneF plD
 rw [List.flatMap_append,List.flatMap_map,List.flatMap_singleton]
def kids (x:TPlace):List TPlace:=(Ty.inside x.t).map fun y=>⟨y,x.around + 1⟩
theorem kids_snoc {x:TPlace} {i:Nat} (h:i < (Ty.inside x.t).length):((Ty.inside x.t).take (i + 1)).map (fun y=>(⟨y,x.around + 1⟩:TPlace)) = ((Ty.inside x.t).take i).map (fun y=>(⟨y,x.around + 1⟩:TPlace))++[⟨(Ty.inside x.t)[i],x.around + 1⟩]:=by
 rw [List.take_add_one,List.getElem?_eq_getElem h,List.map_append]
 rfl
section
variable [G:Globs]
theorem w_gone (s:SchemaR) (hd:∀ d ∈ s.defs,TB d.t) (hr:TB s.root) (hn:s.defs.length≤2000000):vc Tryd.prog Γ 78 [1,2,3,4,6,7,8,9,10,12,14,15,16,17,40,58,59,60,61] (Tryd.f88.body.getD .skip) (postK Γ [.tmp 2,.tmp 3] (fun v=>v = .tup [.rd .typ (((allP s).take 201).map (·.t)),.rd .int (((allP s).take 201).map (·.around))])) ⟨argSlots 0 [.agg (encSch s)],[]⟩:=by
 have hA:=allP_gone s
 generalize allP s = A at hA ⊢
 (repeat' (first | (refine And.intro (fun h=>?_) (fun h=>?_)<;>(try simp [-List.getD_eq_getElem?_getD,-Int.pred_toNat] at h)<;>(try (exfalso; first | omega | contradiction))) | (refine And.intro (rng64 (by omega) (by omega)) ?_) | (refine And.intro ⟨by omega,by omega⟩ ?_) | (refine And.intro ⟨by omega,by omega,by omega⟩ ?_) | (intro _)))
 refine Exists.intro [(4,4,.tplace)] (Exists.intro [] (Exists.intro [] (Exists.intro Nat (Exists.intro (fun i=>i≤(s.defs).length) (Exists.intro (fun i=>⟨[(1,.pt 1 0),(4,.vec 4 .tplace (plD (s.defs.take i))),(14,.rd .dfn s.defs),(15,.i .i64 s.defs.length),(16,.i .i64 i)],[(1,encSch s)]⟩) (Exists.intro (fun i=>(s.defs).length - i) (Exists.intro 0 (And.intro (Nat.zero_le _) (And.intro ?_ ?_)))))))))
 ·(repeat' (first | exact trivial | exact Or.inl rfl | exact Or.inr (Or.inl ⟨rfl,_,rfl⟩) | exact Or.inr (Or.inr (Or.inr ⟨_,_,_,rfl,rfl⟩)) | refine And.intro ?_ ?_))
 rintro i hi
 refine And.intro (fun hz=>?_) (fun hz=>?_)
 ·have hi:=ltD hz
  have hg:=getI (τ:=.dfn) hi
  refine And.intro ⟨by omega,by omega⟩ ?_
  rw [hg]
  (repeat' (first | (refine And.intro (fun h=>?_) (fun h=>?_)<;>(try simp [-List.getD_eq_getElem?_getD,-Int.pred_toNat] at h)<;>(try (exfalso; first | omega | contradiction))) | (refine And.intro (rng64 (by omega) (by omega)) ?_) | (refine And.intro ⟨by omega,by omega⟩ ?_) | (refine And.intro ⟨by omega,by omega,by omega⟩ ?_) | (intro _)))
  refine And.intro (show ((plD (s.defs.take i)).length + 1) * 120≤140737488355328 by unfold plD; rw [List.length_map,List.length_take]; omega) ?_
  (repeat' (first | (refine And.intro (fun h=>?_) (fun h=>?_)<;>(try simp [-List.getD_eq_getElem?_getD,-Int.pred_toNat] at h)<;>(try (exfalso; first | omega | contradiction))) | (refine And.intro (rng64 (by omega) (by omega)) ?_) | (refine And.intro ⟨by omega,by omega⟩ ?_) | (refine And.intro ⟨by omega,by omega,by omega⟩ ?_) | (intro _)))
  refine Exists.intro [(25,4)] (Exists.intro (i + 1) (And.intro hi (And.intro ?_ ?_)))
  ·dsimp only
   rw [etaTP,plD_snoc hi]
   (repeat' (first | exact trivial | exact Or.inl rfl | exact Or.inr (Or.inl ⟨rfl,_,rfl⟩) | exact Or.inr (Or.inr (Or.inr ⟨_,_,_,rfl,rfl⟩)) | refine And.intro ?_ ?_))
  ·(exact Nat.sub_lt_sub_left (by omega) (by omega))
 (have hi:=geD hi hz)
 subst hi
 rw [List.take_length]
 (repeat' (first | (refine And.intro (fun h=>?_) (fun h=>?_)<;>(try simp [-List.getD_eq_getElem?_getD,-Int.pred_toNat] at h)<;>(try (exfalso; first | omega | contradiction))) | (refine And.intro (rng64 (by omega) (by omega)) ?_) | (refine And.intro ⟨by omega,by omega⟩ ?_) | (refine And.intro ⟨by omega,by omega,by omega⟩ ?_) | (intro _)))
 refine And.intro (show ((plD s.defs).length + 1) * 120≤140737488355328 by unfold plD; rw [List.length_map]; omega) ?_
 (repeat' (first | (refine And.intro (fun h=>?_) (fun h=>?_)<;>(try simp [-List.getD_eq_getElem?_getD,-Int.pred_toNat] at h)<;>(try (exfalso; first | omega | contradiction))) | (refine And.intro (rng64 (by omega) (by omega)) ?_) | (refine And.intro ⟨by omega,by omega⟩ ?_) | (refine And.intro ⟨by omega,by omega,by omega⟩ ?_) | (intro _)))
 rw [etaTP]
 refine Exists.intro [(7,7,.typ),(8,8,.int)] (Exists.intro [] (Exists.intro [(32,4)] (Exists.intro (List TPlace × List TPlace) (Exists.intro (fun q=>q.2++goneF q.1 = A∧q.2.length≤201∧q.1.length≤2000001 + 4000000 * q.2.length∧∀ p ∈ q.1,TB p.t∧0≤p.around∧p.around≤q.2.length) (Exists.intro (fun ⟨l,all⟩=>⟨[(4,.vec 4 .tplace l),(7,.vec 7 .typ (all.map (·.t))),(8,.vec 8 .int (all.map (·.around)))],[]⟩) (Exists.intro (fun q=>201 - q.2.length) (Exists.intro (plD s.defs++[(⟨s.root,0⟩:TPlace)],[]) (And.intro ⟨hA.symm,(by decide:0≤201),by unfold plD; simp only [List.length_append,List.length_map,List.length_cons,List.length_nil]; omega,fun p hp=>?_⟩ (And.intro ?_ ?_)))))))))
 ·rcases List.mem_append.1 hp with hp | hp
  ·obtain ⟨d,h1,rfl⟩:=List.mem_map.1 hp
   exact ⟨hd d h1,Int.le_refl _,Int.le_refl _⟩
  ·obtain rfl:=List.mem_singleton.1 hp
   exact ⟨hr,Int.le_refl _,Int.le_refl _⟩
 ·(repeat' (first | exact trivial | exact Or.inl rfl | exact Or.inr (Or.inl ⟨rfl,_,rfl⟩) | exact Or.inr (Or.inr (Or.inr ⟨_,_,_,rfl,rfl⟩)) | refine And.intro ?_ ?_))
 rintro ⟨l,all⟩ ⟨hI,hl1,hl2,hp⟩
 dsimp only at hI hl1 hl2 hp
 have fin:∀ h:l = []∨all.length = 201,(.tup [.rd .typ (all.map (·.t)),.rd .int (all.map (·.around))]:AV) = .tup [.rd .typ ((A.take 201).map (·.t)),.rd .int ((A.take 201).map (·.around))]:=fun h=>by rw [← gone_end hI hl1 h]
 cases l with
 | nil =>
  (repeat' (first | (refine And.intro (fun h=>?_) (fun h=>?_)<;>(try simp [-List.getD_eq_getElem?_getD,-Int.pred_toNat] at h)<;>(try (exfalso; first | omega | contradiction))) | (refine And.intro (rng64 (by omega) (by omega)) ?_) | (refine And.intro ⟨by omega,by omega⟩ ?_) | (refine And.intro ⟨by omega,by omega,by omega⟩ ?_) | (intro _)))
  all_goals exact fin (.inl rfl)
 | cons x r =>
  by_cases h200:all.length≤200
  rotate_left
  ·(repeat' (first | (refine And.intro (fun h=>?_) (fun h=>?_)<;>(try simp [-List.getD_eq_getElem?_getD,-Int.pred_toNat] at h)<;>(try (exfalso; first | omega | contradiction))) | (refine And.intro (rng64 (by omega) (by omega)) ?_) | (refine And.intro ⟨by omega,by omega⟩ ?_) | (refine And.intro ⟨by omega,by omega,by omega⟩ ?_) | (intro _)))
   all_goals exact fin (.inr (by omega))
  obtain ⟨hxb,hx0,hx1⟩:=hp x (List.mem_cons_self ..)
  rw [goneF_step] at hI
  have hW:=s_withinR x.t (by cases hxb; omega) (by cases hxb; omega)
  have hin:(Ty.inside x.t).length≤4000000:=by
   unfold Ty.inside
   rw [List.length_append,List.length_map]
   cases hxb
   omega
  rw [List.length_cons] at hl2
  (repeat' (first | (refine And.intro (fun h=>?_) (fun h=>?_)<;>(try simp [-List.getD_eq_getElem?_getD,-Int.pred_toNat] at h)<;>(try (exfalso; first | omega | contradiction))) | (refine And.intro (rng64 (by omega) (by omega)) ?_) | (refine And.intro ⟨by omega,by omega⟩ ?_) | (refine And.intro ⟨by omega,by omega,by omega⟩ ?_) | (intro _)))
  refine And.intro ⟨by decide,by rw [List.length_cons]; omega⟩ ?_
  (repeat' (first | (refine And.intro (fun h=>?_) (fun h=>?_)<;>(try simp [-List.getD_eq_getElem?_getD,-Int.pred_toNat] at h)<;>(try (exfalso; first | omega | contradiction))) | (refine And.intro (rng64 (by omega) (by omega)) ?_) | (refine And.intro ⟨by omega,by omega⟩ ?_) | (refine And.intro ⟨by omega,by omega,by omega⟩ ?_) | (intro _)))
  refine And.intro ⟨by decide,by rw [List.length_cons]; omega⟩ ?_
  (repeat' (first | (refine And.intro (fun h=>?_) (fun h=>?_)<;>(try simp [-List.getD_eq_getElem?_getD,-Int.pred_toNat] at h)<;>(try (exfalso; first | omega | contradiction))) | (refine And.intro (rng64 (by omega) (by omega)) ?_) | (refine And.intro ⟨by omega,by omega⟩ ?_) | (refine And.intro ⟨by omega,by omega,by omega⟩ ?_) | (intro _)))
  refine Exists.intro [.take 0,.take 1,.take 5,.take 6,.tree 5 [2,3,4,7,8] (.opt 2 (.opt 3 (.opt 4 (.opt 7 (.opt 8 .fin .non) .non) (.opt 7 (.opt 4 (.opt 8 .fin .non) (.opt 8 (.opt 4 .fin .non) .non)) .non)) (.opt 7 (.opt 3 (.opt 4 (.opt 8 .fin .non) (.opt 8 (.opt 4 .fin .non) .non)) (.opt 8 (.opt 3 (.opt 4 .fin .non) .non) .non)) .non)) (.opt 7 (.opt 2 (.opt 3 (.opt 4 (.opt 8 .fin .non) (.opt 8 (.opt 4 .fin .non) .non)) (.opt 8 (.opt 3 (.opt 4 .fin .non) .non) .non)) (.opt 8 (.opt 2 (.opt 3 (.opt 4 .fin .non) .non) .non) .non)) .non)),.one 9,.blk [10,11]] (And.intro (by kernel_rfl) ?_)
  refine Exists.intro ⟨[(4,.vs 4 .tplace (x::r) 1),(9,.pt 9 0),(50,.vec 50 .typ (all.map (·.t)++[⟨x.t.kind,x.t.lo,x.t.hi,x.t.texts,x.t.t,x.t.f,x.t.name⟩])),(51,.vec 8 .int (all.map (·.around))),(54,.vec 54 .int [x.around])],[(9,enc .tplace x)]⟩ (And.intro ?_ ?_)
  ·repeat' (first | exact trivial | exact Or.inl rfl | (refine And.intro (Go.Ty.szB (by (try simp only [List.length_append,List.length_cons,List.length_nil,List.length_map,List.length_take,List.length_drop]); omega) (Nat.le_of_ble_eq_true rfl)) ?_) | intro _ | refine And.intro ?_ ?_)
  dsimp only
  rw [etaT]
  (repeat' (first | (refine And.intro (fun h=>?_) (fun h=>?_)<;>(try simp [-List.getD_eq_getElem?_getD,-Int.pred_toNat] at h)<;>(try (exfalso; first | omega | contradiction))) | (refine And.intro (rng64 (by omega) (by omega)) ?_) | (refine And.intro ⟨by omega,by omega⟩ ?_) | (refine And.intro ⟨by omega,by omega,by omega⟩ ?_) | (intro _)))
  (refine And.intro (Go.Ty.szB (by (try simp only [List.length_append,List.length_cons,List.length_nil,List.length_map,List.length_take,List.length_drop]); omega) (Nat.le_of_ble_eq_true rfl)) ?_)
  refine Or.inr (Or.inl (Exists.intro [] (Exists.intro _ (Exists.intro _ (Exists.intro _ (Exists.intro _ (Exists.intro _ (Exists.intro [(1000,58)] (And.intro (hW) ?_)))))))))
  refine (And.intro rfl (And.intro rfl (And.intro rfl (And.intro rfl ?_))))
  (repeat' (first | (refine And.intro (fun h=>?_) (fun h=>?_)<;>(try simp [-List.getD_eq_getElem?_getD,-Int.pred_toNat] at h)<;>(try (exfalso; first | omega | contradiction))) | (refine And.intro (rng64 (by omega) (by omega)) ?_) | (refine And.intro ⟨by omega,by omega⟩ ?_) | (refine And.intro ⟨by omega,by omega,by omega⟩ ?_) | (intro _)))
  refine Exists.intro [(10,10,.tplace)] (Exists.intro [] (Exists.intro [(999,58)] (Exists.intro Nat (Exists.intro (fun i=>i≤((Ty.inside x.t)).length) (Exists.intro (fun i=>⟨[(4,.vs 4 .tplace (x::r) 1),(7,.vec 50 .typ (all.map (·.t)++[x.t])),(8,.vec 55 .int (all.map (·.around)++[x.around])),(9,.pt 9 0),(10,.vec 10 .tplace (((Ty.inside x.t).take i).map fun y=>⟨y,x.around + 1⟩)),(58,.rd .typ (Ty.inside x.t)),(59,.i .i64 (Ty.inside x.t).length),(60,.i .i64 i)],[(9,enc .tplace x)]⟩) (Exists.intro (fun i=>((Ty.inside x.t)).length - i) (Exists.intro 0 (And.intro (Nat.zero_le _) (And.intro ?_ ?_)))))))))
  ·(repeat' (first | exact trivial | exact Or.inl rfl | exact Or.inr (Or.inl ⟨rfl,_,rfl⟩) | exact Or.inr (Or.inr (Or.inr ⟨_,_,_,rfl,rfl⟩)) | refine And.intro ?_ ?_))
  rintro i hi
  refine And.intro (fun hz=>?_) (fun hz=>?_)
  ·have hi:=ltD hz
   have hg:=getI (τ:=.typ) hi
   refine And.intro ⟨by omega,by omega⟩ ?_
   rw [hg]
   (repeat' (first | (refine And.intro (fun h=>?_) (fun h=>?_)<;>(try simp [-List.getD_eq_getElem?_getD,-Int.pred_toNat] at h)<;>(try (exfalso; first | omega | contradiction))) | (refine And.intro (rng64 (by omega) (by omega)) ?_) | (refine And.intro ⟨by omega,by omega⟩ ?_) | (refine And.intro ⟨by omega,by omega,by omega⟩ ?_) | (intro _)))
   (refine And.intro (Go.Ty.szB (by (try simp only [List.length_append,List.length_cons,List.length_nil,List.length_map,List.length_take,List.length_drop]); omega) (Nat.le_of_ble_eq_true rfl)) ?_)
   (repeat' (first | (refine And.intro (fun h=>?_) (fun h=>?_)<;>(try simp [-List.getD_eq_getElem?_getD,-Int.pred_toNat] at h)<;>(try (exfalso; first | omega | contradiction))) | (refine And.intro (rng64 (by omega) (by omega)) ?_) | (refine And.intro ⟨by omega,by omega⟩ ?_) | (refine And.intro ⟨by omega,by omega,by omega⟩ ?_) | (intro _)))
   refine Exists.intro [(71,10)] (Exists.intro (i + 1) (And.intro hi (And.intro ?_ ?_)))
   ·dsimp only
    rw [etaTP,kids_snoc hi]
    (repeat' (first | exact trivial | exact Or.inl rfl | exact Or.inr (Or.inl ⟨rfl,_,rfl⟩) | exact Or.inr (Or.inr (Or.inr ⟨_,_,_,rfl,rfl⟩)) | refine And.intro ?_ ?_))
   ·(exact Nat.sub_lt_sub_left (by omega) (by omega))
  (have hi:=geD hi hz)
  subst hi
  rw [List.take_length]
  (repeat' (first | (refine And.intro (fun h=>?_) (fun h=>?_)<;>(try simp [-List.getD_eq_getElem?_getD,-Int.pred_toNat] at h)<;>(try (exfalso; first | omega | contradiction))) | (refine And.intro (rng64 (by omega) (by omega)) ?_) | (refine And.intro ⟨by omega,by omega⟩ ?_) | (refine And.intro ⟨by omega,by omega,by omega⟩ ?_) | (intro _)))
  (refine And.intro (Go.Ty.szB (by (try simp only [List.length_append,List.length_cons,List.length_nil,List.length_map,List.length_take,List.length_drop]); omega) (Nat.le_of_ble_eq_true rfl)) ?_)
  (repeat' (first | (refine And.intro (fun h=>?_) (fun h=>?_)<;>(try simp [-List.getD_eq_getElem?_getD,-Int.pred_toNat] at h)<;>(try (exfalso; first | omega | contradiction))) | (refine And.intro (rng64 (by omega) (by omega)) ?_) | (refine And.intro ⟨by omega,by omega⟩ ?_) | (refine And.intro ⟨by omega,by omega,by omega⟩ ?_) | (intro _)))
  refine Exists.intro [(75,4),(50,7),(55,8)] (Exists.intro (kids x++r,all++[x]) (And.intro ⟨?_,?_,?_,?_⟩ (And.intro ?_ ?_)))
  ·rw [List.append_assoc]
   exact hI
  ·rw [List.length_append]
   exact Nat.succ_le_succ h200
  ·show (kids x++r).length≤2000001 + 4000000 * (all++[x]).length
   unfold kids
   rw [List.length_append,List.length_map,List.length_append,List.length_cons,List.length_nil]
   omega
  ·intro p hq
   show TB p.t∧0≤p.around∧p.around≤((all++[x]).length:Nat)
   rw [List.length_append,List.length_cons,List.length_nil]
   rcases List.mem_append.1 hq with hq | hq
   ·obtain ⟨y,hy,rfl⟩:=List.mem_map.1 hq
    exact ⟨hxb.inside y hy,by show 0≤x.around + 1; omega,by show x.around + 1≤_; omega⟩
   ·obtain ⟨g1,g2,g3⟩:=hp p (List.mem_cons_of_mem _ hq)
    exact ⟨g1,g2,by omega⟩
  ·dsimp only
   rw [List.map_append,List.map_append]
   (repeat' (first | exact trivial | exact Or.inl rfl | exact Or.inr (Or.inl ⟨rfl,_,rfl⟩) | exact Or.inr (Or.inr (Or.inr ⟨_,_,_,rfl,rfl⟩)) | refine And.intro ?_ ?_))
  ·show 201 - (all++[x]).length < 201 - all.length
   rw [List.length_append,List.length_cons,List.length_nil]
   omega
theorem s_gone (s:SchemaR) (hd:∀ d ∈ s.defs,TB d.t) (hr:TB s.root) (hn:s.defs.length≤2000000):PSpec Tryd.prog 88 [.agg (encSch s)] (.tup [.rd .typ (((allP s).take 201).map (·.t)),.rd .int (((allP s).take 201).map (·.around))]) :=
 pspec_of_vc Γ_good Tryd.func88 rfl Tryd.call88 Tryd.results88 Tryd.ntmps88 (Nat.le_of_ble_eq_true rfl) (w_gone s hd hr hn)
end
end Go.Proofs.YtdcdmojbkmedpaaDoor
end
section
namespace Go.SX
variable [Globs]
theorem CSpec.frz {P : Program} {f : FuncId} {args args' : List AV} {boxes boxes0 : List (Nat × List AV)} {r : AV} {boxes' : List (Nat × List AV)} (h : CSpec P f args boxes r boxes') (id : Nat)
  (he:(⟨argSlots 0 args',boxes0⟩:St).frz id = ⟨argSlots 0 args,boxes⟩) (hl:args'.length = args.length) (hb:boxNames boxes0 = boxNames boxes):CSpec P f args' boxes0 r boxes' :=
 ⟨h.1,fun F X β w vs h1 h2 hI=>h.2 F X β w vs (h1.trans hl) (fun n g hg=>by
  have:=boxNames_mem.2 (h2 n g hg)
  rw [hb] at this
  exact boxNames_mem.1 this) (by
  have:=hI.frz id
  rw [he] at this
  exact this)⟩
end Go.SX
end
section
namespace Go.SX
variable [Globs]
structure VOs (P:Program) (Γ:Ctx) (N:Nat) (ops:List Oper) (l:List Oper) (s:St) (Q:St→Prop):Prop where
 ok:∀ (W0:World) (F:Fr) (X:Nat→Prop) (Q':Exit→Act→World→Prop) (a:Act) (w:World),(∀ s a w,Q s→Inv W0 F X N s a w→Q' .normal a w)→Inv W0 F X N s a w→wpList P ops.toArray Q' l a w
section
variable {P:Program} {N:Nat} {Γ:Ctx} {L:List Nat} {s:St} {W0:World} {F:Fr} {X:Nat→Prop}
theorem vcOps_ok2 (hΓ : Γ.good P) {ops : List Oper} {Q : St → Prop} {Q' : Exit → Act → World → Prop} {l2 : List Oper} (hQ : ∀ s a w, Q s → Inv W0 F X N s a w → wpList P ops.toArray Q' l2 a w) (l : List Oper) :
  ∀ (known:List Nat) (s:St) (a:Act) (w:World),vcOps P Γ N ops l known s Q→Inv W0 F X N s a w→wpList P ops.toArray Q' (l++l2) a w:=by
 induction l with
 | nil=>intro known s a w h hI; exact hQ s a w h hI
 | cons o r ih =>
  intro known s a w h ⟨β,hI⟩
  simp only [vcOps,opsStepK] at h
  rw [List.cons_append]
  cases hg:o.guard with
  | none =>
   rw [hg] at h
   exact wpList_plain hg fun K hK=>op_ok hΓ hI h fun s' a' w' h1 h2=>hK _ _ (ih known s' a' w' h1 h2)
  | some p =>
   obtain ⟨j,want⟩:=p
   rw [hg] at h
   obtain ⟨oj,hj,h⟩:=(nthK_iff _ _ _).1 h
   obtain ⟨d,hd,h⟩:=(optK_iff _ _).1 h
   refine wpList_step fun K hK=>?_
   rcases guard_ok hI hj hd h with ⟨s',hI',hy,h⟩ | ⟨s',hI',hy,h⟩
   ·rw [if_pos (by simp [Region.wanted,hg,hy])]
    exact op_ok hΓ hI' h fun s' a' w' h1 h2=>hK _ _ (ih _ s' a' w' h1 h2)
   ·rw [if_neg (by simp [Region.wanted,hg]; exact hy)]
    obtain ⟨s2,h1,h2⟩:=putIm_ok hI' (Stp.refl _ w) h (undef_rel _ _)
    exact hK _ _ (ih _ s2 _ _ h1 ⟨β,h2⟩)
theorem VOs.of_vc (hΓ:Γ.good P) {ops l:List Oper} {Q:St→Prop} (h:vcOps P Γ N ops l [] s Q):VOs P Γ N ops l s Q:=⟨fun _ _ _ _ a w hQ hI=>vcOps_ok hΓ hQ l [] s a w h hI⟩
theorem VOs.cut (hΓ:Γ.good P) {ops l:List Oper} {Q:St→Prop} (k:Nat) (σ:Type) (I:σ→Prop) (S:σ→St) (h:vcOps P Γ N ops (l.take k) [] s fun s'=>∃ v,I v∧Wk s' (S v)) (h2:∀ v,I v→VOs P Γ N ops (l.drop k) (S v) Q):VOs P Γ N ops l s Q:=⟨fun W0 F X Q' a w hQ hI=>by
 have:=vcOps_ok2 (Q':=Q') (l2:=l.drop k) hΓ (fun s' a' w' ⟨v,hv,hw⟩ ⟨β,hI'⟩=>(h2 v hv).ok W0 F X Q' a' w' hQ ⟨β,hI'.wk hw⟩) (l.take k) [] s a w h hI
 rw [List.take_append_drop] at this
 exact this⟩
theorem VCs.region {id:Nat} {ops:Array Oper} {Q:Exit→St→Prop} (h:VOs P Γ N ops.toList ops.toList s fun s=>stKeepK L s (Q .normal)):VCs P Γ N L (.region id ops false) Q s:=⟨fun W0 F X Q' a w hQ hI=>wp_region_list (by
 have:=h.ok W0 F X Q' a w (fun s a w hk ⟨β,hI⟩=>by
  obtain ⟨s',h1,h2⟩:=keep_ok hI hk
  exact hQ .normal s' a w h1 ⟨β,h2⟩) hI
 simpa using this)⟩
end
end Go.SX
end
section
namespace Go.Proofs.YtdcdmojbkmedpaaDoor
open Go Go.SX Go.Ck Go.Vl Go.Ut Go.Ty
set_option maxRecDepth 100000
set_option maxHeartbeats 4000000
theorem okLenT (t:TypR):okKind t↔(1≤t.kind∧t.kind≤12)∧((t.kind = 4∨t.kind = 6∨t.kind = 8)∨(t.lo = 0∧t.hi = 0))∧(t.kind = 7∨t.texts.length = 0)∧((t.kind = 8∨t.kind = 9)→t.t.length = 1)∧((t.kind = 8∨t.kind = 9)∨t.kind = 11∨t.t.length = 0)∧(t.kind = 10∨t.f.length = 0)∧(t.kind = 12∨t.name = []):=by
 cases t
 exact okLen ..
section
variable [G:Globs]
theorem w_isK (l:List Int) (hl:l.length≤100) (t:TypR):vc Tryd.prog Γ 17 [0,1,3,5,6,7,8,9,15,1000] (Tryd.f154.body.getD .skip) (postBK Γ [.tmp 3] (.b (l.any fun k=>t.kind == k)) [(1000,encTyp t)]) ⟨argSlots 0 [.rd .int l,.pt 1000 0],[(1000,encTyp t)]⟩:=by
 (repeat' (first | (refine And.intro (fun h=>?_) (fun h=>?_)<;>(try simp [-List.getD_eq_getElem?_getD,-Int.pred_toNat] at h)<;>(try (exfalso; first | omega | contradiction))) | (refine And.intro (rng64 (by omega) (by omega)) ?_) | (refine And.intro ⟨by omega,by omega⟩ ?_) | (refine And.intro ⟨by omega,by omega,by omega⟩ ?_) | (intro _)))
 refine Exists.intro [] (Exists.intro [] (Exists.intro [] (Exists.intro Nat (Exists.intro (fun i=>i≤(l).length∧((l.any fun k=>t.kind == k) = (l.drop i).any fun k=>t.kind == k)) (Exists.intro (fun i=>⟨[(1,.pt 1000 0),(6,.rd .int l),(7,.i .i64 l.length),(8,.i .i64 i)],[(1000,encTyp t)]⟩) (Exists.intro (fun i=>(l).length - i) (Exists.intro 0 (And.intro ⟨Nat.zero_le _,rfl⟩ (And.intro ?_ ?_)))))))))
 ·(repeat' (first | exact trivial | exact Or.inl rfl | exact Or.inr (Or.inl ⟨rfl,_,rfl⟩) | exact Or.inr (Or.inr (Or.inr ⟨_,_,_,rfl,rfl⟩)) | refine And.intro ?_ ?_))
 rintro i ⟨hi,hI⟩
 refine And.intro (fun hz=>?_) (fun hz=>?_)
 ·have hi:=ltD hz
  have hg:=getI (τ:=.int) hi
  refine And.intro ⟨by omega,by omega⟩ ?_
  rw [hg]
  rw [List.drop_eq_getElem_cons hi,List.any_cons] at hI
  cases hq:(t.kind == l[i]) with
  | true =>
   rw [hq,Bool.true_or] at hI
   rw [hI]
   have hq2:t.kind = l[i]:=eq_of_beq hq
   (repeat' (first | (refine And.intro (fun h=>?_) (fun h=>?_)<;>(try simp [-List.getD_eq_getElem?_getD,-Int.pred_toNat] at h)<;>(try (exfalso; first | omega | contradiction))) | (refine And.intro (rng64 (by omega) (by omega)) ?_) | (refine And.intro ⟨by omega,by omega⟩ ?_) | (refine And.intro ⟨by omega,by omega,by omega⟩ ?_) | (intro _)))
   exact Exists.intro [] (And.intro rfl (by (repeat' (first | exact trivial | exact Or.inl rfl | exact Or.inr (Or.inl ⟨rfl,_,rfl⟩) | exact Or.inr (Or.inr (Or.inr ⟨_,_,_,rfl,rfl⟩)) | refine And.intro ?_ ?_))))
  | false =>
   rw [hq,Bool.false_or] at hI
   have hq2:¬ t.kind = l[i]:=ne_of_beq_false hq
   (repeat' (first | (refine And.intro (fun h=>?_) (fun h=>?_)<;>(try simp [-List.getD_eq_getElem?_getD,-Int.pred_toNat] at h)<;>(try (exfalso; first | omega | contradiction))) | (refine And.intro (rng64 (by omega) (by omega)) ?_) | (refine And.intro ⟨by omega,by omega⟩ ?_) | (refine And.intro ⟨by omega,by omega,by omega⟩ ?_) | (intro _)))
   refine Exists.intro [] (Exists.intro (_ + 1) (And.intro ⟨hi,hI⟩ (And.intro ?_ ?_)))
   ·(repeat' (first | exact trivial | exact Or.inl rfl | exact Or.inr (Or.inl ⟨rfl,_,rfl⟩) | exact Or.inr (Or.inr (Or.inr ⟨_,_,_,rfl,rfl⟩)) | refine And.intro ?_ ?_))
   ·(exact Nat.sub_lt_sub_left (by omega) (by omega))
 ·(have hi:=geD hi hz)
  rw [List.drop_eq_nil_of_le (by omega)] at hI
  rw [hI]
  exact Exists.intro [] (And.intro rfl (by (repeat' (first | exact trivial | exact Or.inl rfl | exact Or.inr (Or.inl ⟨rfl,_,rfl⟩) | exact Or.inr (Or.inr (Or.inr ⟨_,_,_,rfl,rfl⟩)) | refine And.intro ?_ ?_))))
theorem s_isK (l:List Int) (hl:l.length≤100) (t:TypR):CSpec Tryd.prog 154 [.rd .int l,.pt 1000 0] [(1000,encTyp t)] (.b (l.any fun k=>t.kind == k)) [(1000,encTyp t)] :=
 cspec_of_vc Γ_good Tryd.func154 rfl Tryd.call154 Tryd.results154 Tryd.ntmps154 (Nat.le_of_ble_eq_true rfl) (Nat.le_of_ble_eq_true rfl) (by rfl) (w_isK l hl t)
theorem s_isV (l:List Int) (hl:l.length≤100) (t:TypR) (b:Bool) (h:(l.any fun k=>t.kind == k) = b):CSpec Tryd.prog 154 [.vec 1001 .int l,.pt 1000 0] [(1000,encTyp t)] (.b b) [(1000,encTyp t)]:=h ▸ (s_isK l hl t).frz 1001 rfl rfl rfl
theorem s_is468 (t:TypR):CSpec Tryd.prog 154 [.vec 1001 .int [4,6,8],.pt 1000 0] [(1000,encTyp t)] (.b (decide (t.kind = 4∨t.kind = 6∨t.kind = 8))) [(1000,encTyp t)]:=s_isV _ (by decide) t _ (by rw [Bool.eq_iff_iff]; simp)
theorem s_is7 (t:TypR):CSpec Tryd.prog 154 [.vec 1001 .int [7],.pt 1000 0] [(1000,encTyp t)] (.b (decide (t.kind = 7))) [(1000,encTyp t)]:=s_isV _ (by decide) t _ (by rw [Bool.eq_iff_iff]; simp)
theorem s_is89 (t:TypR):CSpec Tryd.prog 154 [.vec 1001 .int [8,9],.pt 1000 0] [(1000,encTyp t)] (.b (decide (t.kind = 8∨t.kind = 9))) [(1000,encTyp t)]:=s_isV _ (by decide) t _ (by rw [Bool.eq_iff_iff]; simp)
theorem s_is8911 (t:TypR):CSpec Tryd.prog 154 [.vec 1001 .int [8,9,11],.pt 1000 0] [(1000,encTyp t)] (.b (decide (t.kind = 8∨t.kind = 9∨t.kind = 11))) [(1000,encTyp t)]:=s_isV _ (by decide) t _ (by rw [Bool.eq_iff_iff]; simp)
theorem s_is10 (t:TypR):CSpec Tryd.prog 154 [.vec 1001 .int [10],.pt 1000 0] [(1000,encTyp t)] (.b (decide (t.kind = 10))) [(1000,encTyp t)]:=s_isV _ (by decide) t _ (by rw [Bool.eq_iff_iff]; simp)
theorem s_is12 (t:TypR):CSpec Tryd.prog 154 [.vec 1001 .int [12],.pt 1000 0] [(1000,encTyp t)] (.b (decide (t.kind = 12))) [(1000,encTyp t)]:=s_isV _ (by decide) t _ (by rw [Bool.eq_iff_iff]; simp)
theorem s_is68 (t:TypR):CSpec Tryd.prog 154 [.vec 1001 .int [6,8],.pt 1000 0] [(1000,encTyp t)] (.b (decide (t.kind = 6∨t.kind = 8))) [(1000,encTyp t)]:=s_isV _ (by decide) t _ (by rw [Bool.eq_iff_iff]; simp)
theorem w_typeFault (hu:HasU8) (s:SchemaR) (t:TypR) (hb:TB t) (hn:s.defs.length≤2000000):VCs Tryd.prog Γ 194 [2,3,4,5,6,7,8,9,10,11,12,21,93,108,110,111,116,120,122,123,124,125,131,143,145,150,152,153,154,155,166,172,183,187,193] (Tryd.f89.body.getD .skip) (postK Γ [.tmp 4] (fun v=>v = .i .i64 (typeF s.defs t))) ⟨argSlots 0 [.agg (encSch s),.agg (encTyp t)],[]⟩:=by
 generalize hQ:typeF s.defs t = R
 have h10:¬ okKind t→AV.i .i64 10 = AV.i .i64 R:=fun h=>by rw [← hQ,typeF,if_pos h]
 refine VCs.seq (by first | exact Γ_good | exact Ctx.good_kp Γ_good _) ?_
 refine VCs.seq (by first | exact Γ_good | exact Ctx.good_kp Γ_good _) ?_
 refine VCs.cut (by first | exact Γ_good | exact Ctx.good_kp Γ_good _) Unit (fun _=>1≤t.kind∧t.kind≤12) (fun _=>⟨[(2,.pt 2 0),(3,.pt 3 0),(5,.fn 154 [.pt 3 0])],[(2,encSch s),(3,encTyp t)]⟩) ?_ ?_
 ·(repeat' (first | (refine And.intro (fun h=>?_) (fun h=>?_)<;>(try simp [-List.getD_eq_getElem?_getD,-Int.pred_toNat] at h)<;>(try (exfalso; first | omega | contradiction))) | (refine And.intro (rng64 (by omega) (by omega)) ?_) | (refine And.intro ⟨by omega,by omega⟩ ?_) | (refine And.intro ⟨by omega,by omega,by omega⟩ ?_) | (intro _)))
  all_goals first | (exact h10 fun h=>by obtain ⟨g1,_⟩:=(okLenT t).1 h; omega) | (refine Exists.intro () (And.intro (by omega) ?_); (repeat' (first | exact trivial | exact Or.inl rfl | exact Or.inr (Or.inl ⟨rfl,_,rfl⟩) | exact Or.inr (Or.inr (Or.inr ⟨_,_,_,rfl,rfl⟩)) | refine And.intro ?_ ?_)))
 intro _ k1
 refine VCs.cutS Unit (fun _=>okKind t) (fun _=>⟨[(2,.pt 2 0),(3,.pt 3 0),(5,.fn 154 [.pt 3 0])],[(2,encSch s),(3,encTyp t)]⟩) ?_ ?_
 ·have hkey : okKind t ↔ ¬ (((t.lo ≠ 0 ∨ t.hi ≠ 0) ∧ ¬ (t.kind = 4 ∨ t.kind = 6 ∨ t.kind = 8)) ∨ (0 < t.texts.length ∧ ¬ t.kind = 7) ∨ (t.t.length ≠ 1 ∧ (t.kind = 8 ∨ t.kind = 9)) ∨ (0 < t.t.length ∧ ¬ (t.kind = 8 ∨ t.kind = 9 ∨ t.kind = 11)) ∨ (0 < t.f.length ∧ ¬ t.kind = 10) ∨ (t.name ≠ [] ∧ ¬ t.kind = 12)) := by
   rw [okLenT]
   by_cases hnm:t.name = []
   ·simp only [eq_true hnm,not_true_eq_false,not_false_eq_true,ne_eq,false_and,true_and,or_false,or_true,and_true]
    omega
   ·simp only [eq_false hnm,not_true_eq_false,not_false_eq_true,ne_eq,false_and,true_and,or_false,or_true,and_true]
    omega
  refine VCs.seqS (VCs.region ?_)
  refine VOs.cut Γ_good 14 Bool (fun b=>b = true↔(((t.lo≠0∨t.hi≠0)∧¬ (t.kind = 4∨t.kind = 6∨t.kind = 8)))) (fun b=>⟨[(2,.pt 2 0),(3,.pt 3 0),(5,.fn 154 [.pt 3 0]),(35,.b b)],[(2,encSch s),(3,encTyp t)]⟩) ?_ ?_
  ·(repeat' (first | (refine And.intro (fun h=>?_) (fun h=>?_)<;>(try simp [-List.getD_eq_getElem?_getD,-Int.pred_toNat] at h)<;>(try (exfalso; first | omega | contradiction))) | (intro _) | (refine Or.inr (Or.inl (Exists.intro [] (Exists.intro _ (Exists.intro _ (Exists.intro _ (Exists.intro _ (Exists.intro _ (Exists.intro [(1000,3),(1001,32)] (And.intro (s_is468 t) ?_))))))))); refine (And.intro rfl (And.intro rfl (And.intro rfl (And.intro rfl (And.intro rfl ?_))))))))
   all_goals (refine Exists.intro _ (And.intro ?_ (by (repeat' (first | exact trivial | exact Or.inl rfl | exact Or.inr (Or.inl ⟨rfl,_,rfl⟩) | exact Or.inr (Or.inr (Or.inr ⟨_,_,_,rfl,rfl⟩)) | refine And.intro ?_ ?_)))))
   all_goals (first | (simp only [beq_iff_eq,bne_iff_ne,beq_eq_false_iff_ne,bne_eq_false_iff_eq,decide_eq_true_eq,decide_eq_false_iff_not,Bool.not_eq_true',Bool.not_eq_false',Bool.not_true,Bool.not_false,ne_eq,Decidable.not_not,gt_iff_lt,ge_iff_le,Int.not_lt,Int.not_le,Bool.cond_true,Bool.cond_false,cond_true,cond_false,Int.reduceBNe,Int.reduceBEq,Int.reduceLT,Int.reduceLE,Int.reduceEq,Int.reduceNe,not_true_eq_false,not_false_eq_true,Bool.false_eq_true,Bool.true_eq_false,reduceCtorEq,Bool.and_eq_true,Bool.or_eq_true,Bool.and_eq_false_iff,Bool.or_eq_false_iff,Bool.true_and,Bool.and_true,Bool.false_and,Bool.and_false,Bool.or_false,Bool.false_or,Bool.or_true,Bool.true_or]; omega) | (simp_all; done) | (simp_all; omega))
  intro b hb
  refine VOs.cut Γ_good 12 Bool (fun b=>b = true↔(((t.lo≠0∨t.hi≠0)∧¬ (t.kind = 4∨t.kind = 6∨t.kind = 8))∨(0 < t.texts.length∧¬ t.kind = 7))) (fun b=>⟨[(2,.pt 2 0),(3,.pt 3 0),(5,.fn 154 [.pt 3 0]),(47,.b b)],[(2,encSch s),(3,encTyp t)]⟩) ?_ ?_
  ·(repeat' (first | (refine And.intro (fun h=>?_) (fun h=>?_)<;>(try simp [-List.getD_eq_getElem?_getD,-Int.pred_toNat] at h)<;>(try (exfalso; first | omega | contradiction))) | (intro _) | (refine Or.inr (Or.inl (Exists.intro [] (Exists.intro _ (Exists.intro _ (Exists.intro _ (Exists.intro _ (Exists.intro _ (Exists.intro [(1000,3),(1001,43)] (And.intro (s_is7 t) ?_))))))))); refine (And.intro rfl (And.intro rfl (And.intro rfl (And.intro rfl (And.intro rfl ?_))))))))
   all_goals (refine Exists.intro _ (And.intro ?_ (by (repeat' (first | exact trivial | exact Or.inl rfl | exact Or.inr (Or.inl ⟨rfl,_,rfl⟩) | exact Or.inr (Or.inr (Or.inr ⟨_,_,_,rfl,rfl⟩)) | refine And.intro ?_ ?_)))))
   all_goals (first | (simp only [beq_iff_eq,bne_iff_ne,beq_eq_false_iff_ne,bne_eq_false_iff_eq,decide_eq_true_eq,decide_eq_false_iff_not,Bool.not_eq_true',Bool.not_eq_false',Bool.not_true,Bool.not_false,ne_eq,Decidable.not_not,gt_iff_lt,ge_iff_le,Int.not_lt,Int.not_le,Bool.cond_true,Bool.cond_false,cond_true,cond_false,Int.reduceBNe,Int.reduceBEq,Int.reduceLT,Int.reduceLE,Int.reduceEq,Int.reduceNe,not_true_eq_false,not_false_eq_true,Bool.false_eq_true,Bool.true_eq_false,reduceCtorEq,Bool.and_eq_true,Bool.or_eq_true,Bool.and_eq_false_iff,Bool.or_eq_false_iff,Bool.true_and,Bool.and_true,Bool.false_and,Bool.and_false,Bool.or_false,Bool.false_or,Bool.or_true,Bool.true_or]; omega) | (simp_all; done) | (simp_all; omega))
  intro b hb
  refine VOs.cut Γ_good 11 Bool (fun b=>b = true↔(((t.lo≠0∨t.hi≠0)∧¬ (t.kind = 4∨t.kind = 6∨t.kind = 8))∨(0 < t.texts.length∧¬ t.kind = 7)∨(t.t.length≠1∧(t.kind = 8∨t.kind = 9)))) (fun b=>⟨[(2,.pt 2 0),(3,.pt 3 0),(5,.fn 154 [.pt 3 0]),(58,.b b)],[(2,encSch s),(3,encTyp t)]⟩) ?_ ?_
  ·(repeat' (first | (refine And.intro (fun h=>?_) (fun h=>?_)<;>(try simp [-List.getD_eq_getElem?_getD,-Int.pred_toNat] at h)<;>(try (exfalso; first | omega | contradiction))) | (intro _) | (refine Or.inr (Or.inl (Exists.intro [] (Exists.intro _ (Exists.intro _ (Exists.intro _ (Exists.intro _ (Exists.intro _ (Exists.intro [(1000,3),(1001,55)] (And.intro (s_is89 t) ?_))))))))); refine (And.intro rfl (And.intro rfl (And.intro rfl (And.intro rfl (And.intro rfl ?_))))))))
   all_goals (refine Exists.intro _ (And.intro ?_ (by (repeat' (first | exact trivial | exact Or.inl rfl | exact Or.inr (Or.inl ⟨rfl,_,rfl⟩) | exact Or.inr (Or.inr (Or.inr ⟨_,_,_,rfl,rfl⟩)) | refine And.intro ?_ ?_)))))
   all_goals (first | (simp only [beq_iff_eq,bne_iff_ne,beq_eq_false_iff_ne,bne_eq_false_iff_eq,decide_eq_true_eq,decide_eq_false_iff_not,Bool.not_eq_true',Bool.not_eq_false',Bool.not_true,Bool.not_false,ne_eq,Decidable.not_not,gt_iff_lt,ge_iff_le,Int.not_lt,Int.not_le,Bool.cond_true,Bool.cond_false,cond_true,cond_false,Int.reduceBNe,Int.reduceBEq,Int.reduceLT,Int.reduceLE,Int.reduceEq,Int.reduceNe,not_true_eq_false,not_false_eq_true,Bool.false_eq_true,Bool.true_eq_false,reduceCtorEq,Bool.and_eq_true,Bool.or_eq_true,Bool.and_eq_false_iff,Bool.or_eq_false_iff,Bool.true_and,Bool.and_true,Bool.false_and,Bool.and_false,Bool.or_false,Bool.false_or,Bool.or_true,Bool.true_or]; omega) | (simp_all; done) | (simp_all; omega))
  intro b hb
  refine VOs.cut Γ_good 12 Bool (fun b=>b = true↔(((t.lo≠0∨t.hi≠0)∧¬ (t.kind = 4∨t.kind = 6∨t.kind = 8))∨(0 < t.texts.length∧¬ t.kind = 7)∨(t.t.length≠1∧(t.kind = 8∨t.kind = 9))∨(0 < t.t.length∧¬ (t.kind = 8∨t.kind = 9∨t.kind = 11)))) (fun b=>⟨[(2,.pt 2 0),(3,.pt 3 0),(5,.fn 154 [.pt 3 0]),(70,.b b)],[(2,encSch s),(3,encTyp t)]⟩) ?_ ?_
  ·(repeat' (first | (refine And.intro (fun h=>?_) (fun h=>?_)<;>(try simp [-List.getD_eq_getElem?_getD,-Int.pred_toNat] at h)<;>(try (exfalso; first | omega | contradiction))) | (intro _) | (refine Or.inr (Or.inl (Exists.intro [] (Exists.intro _ (Exists.intro _ (Exists.intro _ (Exists.intro _ (Exists.intro _ (Exists.intro [(1000,3),(1001,66)] (And.intro (s_is8911 t) ?_))))))))); refine (And.intro rfl (And.intro rfl (And.intro rfl (And.intro rfl (And.intro rfl ?_))))))))
   all_goals (refine Exists.intro _ (And.intro ?_ (by (repeat' (first | exact trivial | exact Or.inl rfl | exact Or.inr (Or.inl ⟨rfl,_,rfl⟩) | exact Or.inr (Or.inr (Or.inr ⟨_,_,_,rfl,rfl⟩)) | refine And.intro ?_ ?_)))))
   all_goals (first | (simp only [beq_iff_eq,bne_iff_ne,beq_eq_false_iff_ne,bne_eq_false_iff_eq,decide_eq_true_eq,decide_eq_false_iff_not,Bool.not_eq_true',Bool.not_eq_false',Bool.not_true,Bool.not_false,ne_eq,Decidable.not_not,gt_iff_lt,ge_iff_le,Int.not_lt,Int.not_le,Bool.cond_true,Bool.cond_false,cond_true,cond_false,Int.reduceBNe,Int.reduceBEq,Int.reduceLT,Int.reduceLE,Int.reduceEq,Int.reduceNe,not_true_eq_false,not_false_eq_true,Bool.false_eq_true,Bool.true_eq_false,reduceCtorEq,Bool.and_eq_true,Bool.or_eq_true,Bool.and_eq_false_iff,Bool.or_eq_false_iff,Bool.true_and,Bool.and_true,Bool.false_and,Bool.and_false,Bool.or_false,Bool.false_or,Bool.or_true,Bool.true_or]; omega) | (simp_all; done) | (simp_all; omega))
  intro b hb
  refine VOs.cut Γ_good 12 Bool (fun b=>b = true↔(((t.lo≠0∨t.hi≠0)∧¬ (t.kind = 4∨t.kind = 6∨t.kind = 8))∨(0 < t.texts.length∧¬ t.kind = 7)∨(t.t.length≠1∧(t.kind = 8∨t.kind = 9))∨(0 < t.t.length∧¬ (t.kind = 8∨t.kind = 9∨t.kind = 11))∨(0 < t.f.length∧¬ t.kind = 10))) (fun b=>⟨[(2,.pt 2 0),(3,.pt 3 0),(5,.fn 154 [.pt 3 0]),(82,.b b)],[(2,encSch s),(3,encTyp t)]⟩) ?_ ?_
  ·(repeat' (first | (refine And.intro (fun h=>?_) (fun h=>?_)<;>(try simp [-List.getD_eq_getElem?_getD,-Int.pred_toNat] at h)<;>(try (exfalso; first | omega | contradiction))) | (intro _) | (refine Or.inr (Or.inl (Exists.intro [] (Exists.intro _ (Exists.intro _ (Exists.intro _ (Exists.intro _ (Exists.intro _ (Exists.intro [(1000,3),(1001,78)] (And.intro (s_is10 t) ?_))))))))); refine (And.intro rfl (And.intro rfl (And.intro rfl (And.intro rfl (And.intro rfl ?_))))))))
   all_goals (refine Exists.intro _ (And.intro ?_ (by (repeat' (first | exact trivial | exact Or.inl rfl | exact Or.inr (Or.inl ⟨rfl,_,rfl⟩) | exact Or.inr (Or.inr (Or.inr ⟨_,_,_,rfl,rfl⟩)) | refine And.intro ?_ ?_)))))
   all_goals (first | (simp only [beq_iff_eq,bne_iff_ne,beq_eq_false_iff_ne,bne_eq_false_iff_eq,decide_eq_true_eq,decide_eq_false_iff_not,Bool.not_eq_true',Bool.not_eq_false',Bool.not_true,Bool.not_false,ne_eq,Decidable.not_not,gt_iff_lt,ge_iff_le,Int.not_lt,Int.not_le,Bool.cond_true,Bool.cond_false,cond_true,cond_false,Int.reduceBNe,Int.reduceBEq,Int.reduceLT,Int.reduceLE,Int.reduceEq,Int.reduceNe,not_true_eq_false,not_false_eq_true,Bool.false_eq_true,Bool.true_eq_false,reduceCtorEq,Bool.and_eq_true,Bool.or_eq_true,Bool.and_eq_false_iff,Bool.or_eq_false_iff,Bool.true_and,Bool.and_true,Bool.false_and,Bool.and_false,Bool.or_false,Bool.false_or,Bool.or_true,Bool.true_or]; omega) | (simp_all; done) | (simp_all; omega))
  intro b hb
  refine VOs.of_vc Γ_good ?_
  by_cases hnm:t.name = []
  all_goals (repeat' (first | (refine And.intro (fun h=>?_) (fun h=>?_)<;>(try simp [-List.getD_eq_getElem?_getD,-Int.pred_toNat] at h)<;>(try (exfalso; first | omega | contradiction))) | (intro _) | (refine Or.inr (Or.inl (Exists.intro [] (Exists.intro _ (Exists.intro _ (Exists.intro _ (Exists.intro _ (Exists.intro _ (Exists.intro [(1000,3),(1001,89)] (And.intro (s_is12 t) ?_))))))))); refine (And.intro rfl (And.intro rfl (And.intro rfl (And.intro rfl (And.intro rfl ?_))))))))
  all_goals refine VCs.of_vc (by first | exact Γ_good | exact Ctx.good_kp Γ_good _) ?_
  all_goals (repeat' (first | (refine And.intro (fun h=>?_) (fun h=>?_)<;>(try simp [-List.getD_eq_getElem?_getD,-Int.pred_toNat] at h)<;>(try (exfalso; first | omega | contradiction))) | (refine And.intro (rng64 (by omega) (by omega)) ?_) | (refine And.intro ⟨by omega,by omega⟩ ?_) | (refine And.intro ⟨by omega,by omega,by omega⟩ ?_) | (intro _)))
  all_goals clear hQ hu hn
  all_goals first | (refine h10 fun h9=>?_; have g:=hkey.1 h9; clear hkey h10; first | omega | grind) | (refine Exists.intro () (And.intro (hkey.2 fun g=>?_) (by (repeat' (first | exact trivial | exact Or.inl rfl | exact Or.inr (Or.inl ⟨rfl,_,rfl⟩) | exact Or.inr (Or.inr (Or.inr ⟨_,_,_,rfl,rfl⟩)) | refine And.intro ?_ ?_)))); clear hkey h10; first | omega | grind)
 intro _ k2
 have hR2:R = if t.hi < t.lo∨(t.kind≠4∧t.lo < 0) then 7 else if t.kind = 7 then textsF t.texts else if t.kind = 10 then fieldsF t.f else if t.kind = 12 then (if defI s.defs t.name < 0 then 8 else 0) else 0:=by
  rw [← hQ,typeF,if_neg (fun h=>h k2)]
 have hq2:=(okLenT t).1 k2
 have h7:(t.hi < t.lo∨(t.kind≠4∧t.lo < 0))→AV.i .i64 7 = AV.i .i64 R:=fun h=>by rw [hR2,if_pos h]
 refine VCs.cut (by first | exact Γ_good | exact Ctx.good_kp Γ_good _) Unit (fun _=>¬ (t.hi < t.lo∨(t.kind≠4∧t.lo < 0))) (fun _=>⟨[(2,.pt 2 0),(3,.pt 3 0)],[(2,encSch s),(3,encTyp t)]⟩) ?_ ?_
 ·obtain ⟨_,hq2,_⟩:=hq2
  clear hQ hR2 k2 hu hb hn h10
  (repeat' (first | (refine And.intro (fun h=>?_) (fun h=>?_)<;>(try simp [-List.getD_eq_getElem?_getD,-Int.pred_toNat] at h)<;>(try (exfalso; first | omega | contradiction))) | (intro _) | (refine Or.inr (Or.inl (Exists.intro [] (Exists.intro _ (Exists.intro _ (Exists.intro _ (Exists.intro _ (Exists.intro _ (Exists.intro [(1000,3),(1001,101)] (And.intro (s_is68 t) ?_))))))))); refine (And.intro rfl (And.intro rfl (And.intro rfl (And.intro rfl (And.intro rfl ?_))))))))
  all_goals first | (refine h7 ?_; omega) | (refine Exists.intro () (And.intro ?_ (by (repeat' (first | exact trivial | exact Or.inl rfl | exact Or.inr (Or.inl ⟨rfl,_,rfl⟩) | exact Or.inr (Or.inr (Or.inr ⟨_,_,_,rfl,rfl⟩)) | refine And.intro ?_ ?_)))); omega)
 intro _ k3
 rw [if_neg k3] at hR2
 clear h7 h10 hQ hq2 k2
 refine VCs.of_vc (by first | exact Γ_good | exact Ctx.good_kp Γ_good _) ?_
 by_cases c1:t.kind = 7
 ·rw [if_pos c1] at hR2
  unfold textsF at hR2
  by_cases c2:t.texts.length = 0
  ·rw [if_pos c2] at hR2
   have c2:t.texts = []:=List.eq_nil_of_length_eq_zero c2
   rw [hR2]
   (repeat' (first | (refine And.intro (fun h=>?_) (fun h=>?_)<;>(try simp [-List.getD_eq_getElem?_getD,-Int.pred_toNat] at h)<;>(try (exfalso; first | omega | contradiction))) | (refine And.intro (rng64 (by omega) (by omega)) ?_) | (refine And.intro ⟨by omega,by omega⟩ ?_) | (refine And.intro ⟨by omega,by omega,by omega⟩ ?_) | (intro _)))
   rfl
  have c2n:¬ t.texts = []:=fun e=>c2 (by rw [e]; rfl)
  rw [if_neg c2] at hR2
  by_cases c3:200 < t.texts.length
  ·rw [if_pos c3] at hR2
   rw [hR2]
   (repeat' (first | (refine And.intro (fun h=>?_) (fun h=>?_)<;>(try simp [-List.getD_eq_getElem?_getD,-Int.pred_toNat] at h)<;>(try (exfalso; first | omega | contradiction))) | (refine And.intro (rng64 (by omega) (by omega)) ?_) | (refine And.intro ⟨by omega,by omega⟩ ?_) | (refine And.intro ⟨by omega,by omega,by omega⟩ ?_) | (intro _)))
   rfl
  rw [if_neg c3] at hR2
  (repeat' (first | (refine And.intro (fun h=>?_) (fun h=>?_)<;>(try simp [-List.getD_eq_getElem?_getD,-Int.pred_toNat] at h)<;>(try (exfalso; first | omega | contradiction))) | (refine And.intro (rng64 (by omega) (by omega)) ?_) | (refine And.intro ⟨by omega,by omega⟩ ?_) | (refine And.intro ⟨by omega,by omega,by omega⟩ ?_) | (intro _)))
  refine Exists.intro [] (Exists.intro [] (Exists.intro [] (Exists.intro Nat (Exists.intro (fun i=>i≤(t.texts).length∧(R = txsF (nmAt t.texts i) (t.texts.drop i))) (Exists.intro (fun i=>⟨[(3,.pt 3 0),(122,.rd .str t.texts),(123,.i .i64 t.texts.length),(124,.i .i64 i)],[(3,encTyp t)]⟩) (Exists.intro (fun i=>(t.texts).length - i) (Exists.intro 0 (And.intro ⟨Nat.zero_le _,hR2⟩ (And.intro ?_ ?_)))))))))
  ·(repeat' (first | exact trivial | exact Or.inl rfl | exact Or.inr (Or.inl ⟨rfl,_,rfl⟩) | exact Or.inr (Or.inr (Or.inr ⟨_,_,_,rfl,rfl⟩)) | refine And.intro ?_ ?_))
  rintro i ⟨hi,hI⟩
  refine And.intro (fun hz=>?_) (fun hz=>?_)
  ·have hi:=ltD hz
   have hg:=getI (τ:=.str) hi
   refine And.intro ⟨by omega,by omega⟩ ?_
   rw [hg]
   have hB:=s_BadPlace t.texts[i]
   (repeat' (first | (refine And.intro (fun h=>?_) (fun h=>?_)<;>(try simp [-List.getD_eq_getElem?_getD,-Int.pred_toNat] at h)<;>(try (exfalso; first | omega | contradiction))) | (refine And.intro (rng64 (by omega) (by omega)) ?_) | (refine And.intro ⟨by omega,by omega⟩ ?_) | (refine And.intro ⟨by omega,by omega,by omega⟩ ?_) | (intro _)))
   refine Or.inl (Exists.intro _ (And.intro (hB) ?_))
   by_cases b1:0≤bad t.texts[i]
   ·have hF:txF (nmAt t.texts i) t.texts[i] = 3:=if_pos b1
    rw [txs_stop hi (by rw [hF]; decide),hF] at hI
    rw [hI]
    (repeat' (first | (refine And.intro (fun h=>?_) (fun h=>?_)<;>(try simp [-List.getD_eq_getElem?_getD,-Int.pred_toNat] at h)<;>(try (exfalso; first | omega | contradiction))) | (refine And.intro (rng64 (by omega) (by omega)) ?_) | (refine And.intro ⟨by omega,by omega⟩ ?_) | (refine And.intro ⟨by omega,by omega,by omega⟩ ?_) | (intro _)))
    rfl
   by_cases h0:0 < i
   ·have hn9:nmAt t.texts i = some (t.texts.getD (i - 1) []):=if_pos h0
    have hF:txF (nmAt t.texts i) t.texts[i] = if Op.bytesLess (t.texts.getD (i - 1) []) t.texts[i] = true then 0 else 14:=by
     unfold txF
     rw [if_neg b1,hn9]
    have hg9:t.texts.getD (i - 1) [] = t.texts.getD ((i:Int) - 1).toNat (dflt .str):=by rw [show ((i:Int) - 1).toNat = i - 1 by omega]
    rw [hg9] at hF
    have hfl:=less_flip t.texts[i] (t.texts.getD ((i:Int) - 1).toNat (dflt .str))
    by_cases hq:Op.bytesLess (t.texts.getD ((i:Int) - 1).toNat (dflt .str)) t.texts[i] = true
    ·rw [if_pos hq] at hF
     rw [txs_go hi hF] at hI
     rw [hq] at hfl
     (repeat' (first | (refine And.intro (fun h=>?_) (fun h=>?_)<;>(try simp [-List.getD_eq_getElem?_getD,-Int.pred_toNat] at h)<;>(try (exfalso; first | omega | contradiction))) | (refine And.intro (rng64 (by omega) (by omega)) ?_) | (refine And.intro ⟨by omega,by omega⟩ ?_) | (refine And.intro ⟨by omega,by omega,by omega⟩ ?_) | (intro _)))
     ·exfalso
      clear hI hR2 hF
      simp_all
     (repeat' (first | (refine And.intro (fun h=>?_) (fun h=>?_)<;>(try simp [-List.getD_eq_getElem?_getD,-Int.pred_toNat] at h)<;>(try (exfalso; first | omega | contradiction))) | (refine And.intro (rng64 (by omega) (by omega)) ?_) | (refine And.intro ⟨by omega,by omega⟩ ?_) | (refine And.intro ⟨by omega,by omega,by omega⟩ ?_) | (intro _)))
     refine Exists.intro [] (Exists.intro (i + 1) (And.intro ⟨hi,hI⟩ (And.intro ?_ ?_)))
     ·(repeat' (first | exact trivial | exact Or.inl rfl | exact Or.inr (Or.inl ⟨rfl,_,rfl⟩) | exact Or.inr (Or.inr (Or.inr ⟨_,_,_,rfl,rfl⟩)) | refine And.intro ?_ ?_))
     ·(exact Nat.sub_lt_sub_left (by omega) (by omega))
    ·rw [if_neg hq] at hF
     rw [txs_stop hi (by rw [hF]; decide),hF] at hI
     rw [Bool.eq_false_iff.2 hq] at hfl
     rw [hI]
     (repeat' (first | (refine And.intro (fun h=>?_) (fun h=>?_)<;>(try simp [-List.getD_eq_getElem?_getD,-Int.pred_toNat] at h)<;>(try (exfalso; first | omega | contradiction))) | (refine And.intro (rng64 (by omega) (by omega)) ?_) | (refine And.intro ⟨by omega,by omega⟩ ?_) | (refine And.intro ⟨by omega,by omega,by omega⟩ ?_) | (intro _)))
     ·rfl
     ·exfalso
      clear hI hR2 hF
      simp_all
   ·have hn9:nmAt t.texts i = none:=if_neg h0
    have hF:txF (nmAt t.texts i) t.texts[i] = 0:=by
     unfold txF
     rw [if_neg b1,hn9]
    rw [txs_go hi hF] at hI
    (repeat' (first | (refine And.intro (fun h=>?_) (fun h=>?_)<;>(try simp [-List.getD_eq_getElem?_getD,-Int.pred_toNat] at h)<;>(try (exfalso; first | omega | contradiction))) | (refine And.intro (rng64 (by omega) (by omega)) ?_) | (refine And.intro ⟨by omega,by omega⟩ ?_) | (refine And.intro ⟨by omega,by omega,by omega⟩ ?_) | (intro _)))
    refine Exists.intro [] (Exists.intro (i + 1) (And.intro ⟨hi,hI⟩ (And.intro ?_ ?_)))
    ·(repeat' (first | exact trivial | exact Or.inl rfl | exact Or.inr (Or.inl ⟨rfl,_,rfl⟩) | exact Or.inr (Or.inr (Or.inr ⟨_,_,_,rfl,rfl⟩)) | refine And.intro ?_ ?_))
    ·(exact Nat.sub_lt_sub_left (by omega) (by omega))
  ·(have hi:=geD hi hz)
   rw [txs_end (by omega)] at hI
   rw [hI]
   (repeat' (first | (refine And.intro (fun h=>?_) (fun h=>?_)<;>(try simp [-List.getD_eq_getElem?_getD,-Int.pred_toNat] at h)<;>(try (exfalso; first | omega | contradiction))) | (refine And.intro (rng64 (by omega) (by omega)) ?_) | (refine And.intro ⟨by omega,by omega⟩ ?_) | (refine And.intro ⟨by omega,by omega,by omega⟩ ?_) | (intro _)))
   rfl
 rw [if_neg c1] at hR2
 by_cases c4:t.kind = 10
 ·rw [if_pos c4] at hR2
  unfold fieldsF at hR2
  by_cases c2:200 < t.f.length
  ·rw [if_pos c2] at hR2
   rw [hR2]
   (repeat' (first | (refine And.intro (fun h=>?_) (fun h=>?_)<;>(try simp [-List.getD_eq_getElem?_getD,-Int.pred_toNat] at h)<;>(try (exfalso; first | omega | contradiction))) | (refine And.intro (rng64 (by omega) (by omega)) ?_) | (refine And.intro ⟨by omega,by omega⟩ ?_) | (refine And.intro ⟨by omega,by omega,by omega⟩ ?_) | (intro _)))
   rfl
  rw [if_neg c2] at hR2
  (repeat' (first | (refine And.intro (fun h=>?_) (fun h=>?_)<;>(try simp [-List.getD_eq_getElem?_getD,-Int.pred_toNat] at h)<;>(try (exfalso; first | omega | contradiction))) | (refine And.intro (rng64 (by omega) (by omega)) ?_) | (refine And.intro ⟨by omega,by omega⟩ ?_) | (refine And.intro ⟨by omega,by omega,by omega⟩ ?_) | (intro _)))
  refine Exists.intro [] (Exists.intro [] (Exists.intro [] (Exists.intro Nat (Exists.intro (fun i=>i≤(t.f).length∧(R = fdsF (fdAt t.f i) (t.f.drop i))) (Exists.intro (fun i=>⟨[(8,.s (if 0 < i then (t.f.getD (i - 1) default).name else [])),(152,.rd .fld t.f),(153,.i .i64 t.f.length),(154,.i .i64 i)],[]⟩) (Exists.intro (fun i=>(t.f).length - i) (Exists.intro 0 (And.intro ⟨Nat.zero_le _,hR2⟩ (And.intro ?_ ?_)))))))))
  ·(repeat' (first | exact trivial | exact Or.inl rfl | exact Or.inr (Or.inl ⟨rfl,_,rfl⟩) | exact Or.inr (Or.inr (Or.inr ⟨_,_,_,rfl,rfl⟩)) | refine And.intro ?_ ?_))
  rintro i ⟨hi,hI⟩
  refine And.intro (fun hz=>?_) (fun hz=>?_)
  ·have hi:=ltD hz
   have hg:=getI (τ:=.fld) hi
   refine And.intro ⟨by omega,by omega⟩ ?_
   rw [hg]
   obtain ⟨hv,hs⟩:=(by cases hb with | mk _ _ _ _ _ h _ _=>exact h _ (List.getElem_mem hi):VB t.f[i].dflt∧(sizV t.f[i].dflt).2≤1000000000)
   have hF:fldF (fdAt t.f i) t.f[i] = orI (keyF (fdAt t.f i) t.f[i].name) (orI (chkV t.f[i].dflt 0 0).1 (if t.f[i].hasDef = false∧cmpV t.f[i].dflt zeroV≠0 then 10 else 0)):=rfl
   have hN:=s_nameFault t.f[i].name (if 0 < i then (t.f.getD (i - 1) default).name else []) ((i:Int) == 0)
   have hN2:(if ((i:Int) == 0) = true then none else some (if 0 < i then (t.f.getD (i - 1) default).name else [])) = fdAt t.f i:=by
    unfold fdAt
    by_cases h0:0 < i
    ·rw [if_neg (by rw [beq_iff_eq]; omega),if_pos h0,if_pos h0]
    ·rw [if_pos (by rw [beq_iff_eq]; omega),if_neg h0]
   rw [hN2] at hN
   have hC:=s_fault t.f[i].dflt hv hs
   rw [← chk_T] at hC
   have hP:=PSpec.arg (args':=[.agg (encVal t.f[i].dflt),.agg [.i .i64 0,.i .i64 0,.i .u64 0,.s [],.nl,.nl]]) (s_same t.f[i].dflt zeroV hv (.mk zeroV ⟨by decide,by decide⟩ ⟨by decide,by decide⟩ ⟨by decide,by decide⟩ (fun _ h=>nomatch h) (fun _ h=>nomatch h))) (by (repeat' (first | exact trivial | exact Or.inl rfl | exact Or.inr ⟨rfl,_,rfl⟩ | refine And.intro ?_ ?_)))
   have hpv:(if 0 < i + 1 then (t.f.getD (i + 1 - 1) default).name else []) = t.f[i].name:=by
    rw [if_pos (by omega),Nat.add_sub_cancel,List.getD_eq_getElem?_getD,List.getElem?_eq_getElem hi]
    rfl
   (repeat' (first | (refine And.intro (fun h=>?_) (fun h=>?_)<;>(try simp [-List.getD_eq_getElem?_getD,-Int.pred_toNat] at h)<;>(try (exfalso; first | omega | contradiction))) | (refine And.intro (rng64 (by omega) (by omega)) ?_) | (refine And.intro ⟨by omega,by omega⟩ ?_) | (refine And.intro ⟨by omega,by omega,by omega⟩ ?_) | (intro _)))
   refine Or.inl (Exists.intro _ (And.intro (hN) ?_))
   by_cases k1:keyF (fdAt t.f i) t.f[i].name = 0
   rotate_left
   ·rw [orI_ne k1] at hF
    rw [fds_stop hi (by rw [hF]; exact k1),hF] at hI
    rw [hI]
    (repeat' (first | (refine And.intro (fun h=>?_) (fun h=>?_)<;>(try simp [-List.getD_eq_getElem?_getD,-Int.pred_toNat] at h)<;>(try (exfalso; first | omega | contradiction))) | (refine And.intro (rng64 (by omega) (by omega)) ?_) | (refine And.intro ⟨by omega,by omega⟩ ?_) | (refine And.intro ⟨by omega,by omega,by omega⟩ ?_) | (intro _)))
    rfl
   rw [k1,orI_zero] at hF
   rw [k1]
   (repeat' (first | (refine And.intro (fun h=>?_) (fun h=>?_)<;>(try simp [-List.getD_eq_getElem?_getD,-Int.pred_toNat] at h)<;>(try (exfalso; first | omega | contradiction))) | (refine And.intro (rng64 (by omega) (by omega)) ?_) | (refine And.intro ⟨by omega,by omega⟩ ?_) | (refine And.intro ⟨by omega,by omega,by omega⟩ ?_) | (intro _)))
   refine Or.inl (Exists.intro _ (And.intro (hC) ?_))
   by_cases k2:(chkV t.f[i].dflt 0 0).1 = 0
   rotate_left
   ·rw [orI_ne k2] at hF
    rw [fds_stop hi (by rw [hF]; exact k2),hF] at hI
    rw [hI]
    (repeat' (first | (refine And.intro (fun h=>?_) (fun h=>?_)<;>(try simp [-List.getD_eq_getElem?_getD,-Int.pred_toNat] at h)<;>(try (exfalso; first | omega | contradiction))) | (refine And.intro (rng64 (by omega) (by omega)) ?_) | (refine And.intro ⟨by omega,by omega⟩ ?_) | (refine And.intro ⟨by omega,by omega,by omega⟩ ?_) | (intro _)))
    rfl
   rw [k2,orI_zero] at hF
   rw [k2]
   cases hd:t.f[i].hasDef with
   | true =>
    rw [hd,if_neg (fun h=>by cases h.1)] at hF
    rw [fds_go hi hF] at hI
    (repeat' (first | (refine And.intro (fun h=>?_) (fun h=>?_)<;>(try simp [-List.getD_eq_getElem?_getD,-Int.pred_toNat] at h)<;>(try (exfalso; first | omega | contradiction))) | (refine And.intro (rng64 (by omega) (by omega)) ?_) | (refine And.intro ⟨by omega,by omega⟩ ?_) | (refine And.intro ⟨by omega,by omega,by omega⟩ ?_) | (intro _)))
    refine Exists.intro [] (Exists.intro (i + 1) (And.intro ⟨hi,hI⟩ (And.intro ?_ ?_)))
    ·dsimp only
     rw [hpv]
     (repeat' (first | exact trivial | exact Or.inl rfl | exact Or.inr (Or.inl ⟨rfl,_,rfl⟩) | exact Or.inr (Or.inr (Or.inr ⟨_,_,_,rfl,rfl⟩)) | refine And.intro ?_ ?_))
    ·(exact Nat.sub_lt_sub_left (by omega) (by omega))
   | false =>
    by_cases k3:cmpV t.f[i].dflt zeroV = 0
    ·rw [if_neg (fun h=>h.2 k3)] at hF
     rw [fds_go hi hF] at hI
     rw [decide_eq_true k3] at hP
     (repeat' (first | (refine And.intro (fun h=>?_) (fun h=>?_)<;>(try simp [-List.getD_eq_getElem?_getD,-Int.pred_toNat] at h)<;>(try (exfalso; first | omega | contradiction))) | (refine And.intro (rng64 (by omega) (by omega)) ?_) | (refine And.intro ⟨by omega,by omega⟩ ?_) | (refine And.intro ⟨by omega,by omega,by omega⟩ ?_) | (intro _)))
     refine Or.inl (Exists.intro _ (And.intro (hP) ?_))
     (repeat' (first | (refine And.intro (fun h=>?_) (fun h=>?_)<;>(try simp [-List.getD_eq_getElem?_getD,-Int.pred_toNat] at h)<;>(try (exfalso; first | omega | contradiction))) | (refine And.intro (rng64 (by omega) (by omega)) ?_) | (refine And.intro ⟨by omega,by omega⟩ ?_) | (refine And.intro ⟨by omega,by omega,by omega⟩ ?_) | (intro _)))
     refine Exists.intro [] (Exists.intro (i + 1) (And.intro ⟨hi,hI⟩ (And.intro ?_ ?_)))
     ·dsimp only
      rw [hpv]
      (repeat' (first | exact trivial | exact Or.inl rfl | exact Or.inr (Or.inl ⟨rfl,_,rfl⟩) | exact Or.inr (Or.inr (Or.inr ⟨_,_,_,rfl,rfl⟩)) | refine And.intro ?_ ?_))
     ·(exact Nat.sub_lt_sub_left (by omega) (by omega))
    ·rw [if_pos ⟨hd,k3⟩] at hF
     rw [fds_stop hi (by rw [hF]; decide),hF] at hI
     rw [decide_eq_false k3] at hP
     rw [hI]
     (repeat' (first | (refine And.intro (fun h=>?_) (fun h=>?_)<;>(try simp [-List.getD_eq_getElem?_getD,-Int.pred_toNat] at h)<;>(try (exfalso; first | omega | contradiction))) | (refine And.intro (rng64 (by omega) (by omega)) ?_) | (refine And.intro ⟨by omega,by omega⟩ ?_) | (refine And.intro ⟨by omega,by omega,by omega⟩ ?_) | (intro _)))
     refine Or.inl (Exists.intro _ (And.intro (hP) ?_))
     (repeat' (first | (refine And.intro (fun h=>?_) (fun h=>?_)<;>(try simp [-List.getD_eq_getElem?_getD,-Int.pred_toNat] at h)<;>(try (exfalso; first | omega | contradiction))) | (refine And.intro (rng64 (by omega) (by omega)) ?_) | (refine And.intro ⟨by omega,by omega⟩ ?_) | (refine And.intro ⟨by omega,by omega,by omega⟩ ?_) | (intro _)))
     rfl
  ·(have hi:=geD hi hz)
   rw [fds_end (by omega)] at hI
   rw [hI]
   (repeat' (first | (refine And.intro (fun h=>?_) (fun h=>?_)<;>(try simp [-List.getD_eq_getElem?_getD,-Int.pred_toNat] at h)<;>(try (exfalso; first | omega | contradiction))) | (refine And.intro (rng64 (by omega) (by omega)) ?_) | (refine And.intro ⟨by omega,by omega⟩ ?_) | (refine And.intro ⟨by omega,by omega,by omega⟩ ?_) | (intro _)))
   rfl
 rw [if_neg c4] at hR2
 by_cases c5:t.kind = 12
 ·rw [if_pos c5] at hR2
  have hD:=s_defOf s t.name hn
  by_cases c6:defI s.defs t.name < 0
  ·rw [if_pos c6] at hR2
   rw [hR2]
   (repeat' (first | (refine And.intro (fun h=>?_) (fun h=>?_)<;>(try simp [-List.getD_eq_getElem?_getD,-Int.pred_toNat] at h)<;>(try (exfalso; first | omega | contradiction))) | (refine And.intro (rng64 (by omega) (by omega)) ?_) | (refine And.intro ⟨by omega,by omega⟩ ?_) | (refine And.intro ⟨by omega,by omega,by omega⟩ ?_) | (intro _)))
   refine Or.inl (Exists.intro _ (And.intro (hD) ?_))
   (repeat' (first | (refine And.intro (fun h=>?_) (fun h=>?_)<;>(try simp [-List.getD_eq_getElem?_getD,-Int.pred_toNat] at h)<;>(try (exfalso; first | omega | contradiction))) | (refine And.intro (rng64 (by omega) (by omega)) ?_) | (refine And.intro ⟨by omega,by omega⟩ ?_) | (refine And.intro ⟨by omega,by omega,by omega⟩ ?_) | (intro _)))
   rfl
  ·rw [if_neg c6] at hR2
   rw [hR2]
   (repeat' (first | (refine And.intro (fun h=>?_) (fun h=>?_)<;>(try simp [-List.getD_eq_getElem?_getD,-Int.pred_toNat] at h)<;>(try (exfalso; first | omega | contradiction))) | (refine And.intro (rng64 (by omega) (by omega)) ?_) | (refine And.intro ⟨by omega,by omega⟩ ?_) | (refine And.intro ⟨by omega,by omega,by omega⟩ ?_) | (intro _)))
   refine Or.inl (Exists.intro _ (And.intro (hD) ?_))
   (repeat' (first | (refine And.intro (fun h=>?_) (fun h=>?_)<;>(try simp [-List.getD_eq_getElem?_getD,-Int.pred_toNat] at h)<;>(try (exfalso; first | omega | contradiction))) | (refine And.intro (rng64 (by omega) (by omega)) ?_) | (refine And.intro ⟨by omega,by omega⟩ ?_) | (refine And.intro ⟨by omega,by omega,by omega⟩ ?_) | (intro _)))
   rfl
 rw [if_neg c5] at hR2
 rw [hR2]
 (repeat' (first | (refine And.intro (fun h=>?_) (fun h=>?_)<;>(try simp [-List.getD_eq_getElem?_getD,-Int.pred_toNat] at h)<;>(try (exfalso; first | omega | contradiction))) | (refine And.intro (rng64 (by omega) (by omega)) ?_) | (refine And.intro ⟨by omega,by omega⟩ ?_) | (refine And.intro ⟨by omega,by omega,by omega⟩ ?_) | (intro _)))
 rfl
theorem s_typeFault (hu:HasU8) (s:SchemaR) (t:TypR) (hb:TB t) (hn:s.defs.length≤2000000):PSpec Tryd.prog 89 [.agg (encSch s),.agg (encTyp t)] (.i .i64 (typeF s.defs t)) :=
 pspec_of_VCs Γ_good Tryd.func89 rfl Tryd.call89 Tryd.results89 Tryd.ntmps89 (Nat.le_of_ble_eq_true rfl) (w_typeFault hu s t hb hn) Γ_good
end
end Go.Proofs.YtdcdmojbkmedpaaDoor
end
section
namespace Go.Proofs.YtdcdmojbkmedpaaDoor
open Go Go.SX Go.Ck Go.Vl Go.Ut Go.Ty
set_option maxRecDepth 100000
set_option maxHeartbeats 4000000
section
variable [G:Globs]
theorem w_reached (s:SchemaR) (hd:∀ d ∈ s.defs,CT s.defs d.t∧TB d.t) (hm:s.defs.length≤1000) (t:TypR) (ht:CT s.defs t) (hb:TB t) (hw:tyN t + restN s.defs []≤100000):vc Tryd.prog Γ 58 [2,3,4,5,6,7,8,9,15,22,27,34,40,1000,1001] (Tryd.f90.body.getD .skip) (postBK Γ [.tmp 4,.tmp 5] (.tup [.ob 1000 1000 (.mp .str .bool (comeA s.defs t).2),.vec 1001 .typ (comeA s.defs t).1]) []) ⟨argSlots 0 [.agg (encSch s),.agg (encTyp t)],[]⟩:=by
 have hK:comeA s.defs t = (([]:List TypR)++(comeL (comeF s.defs (need s.defs t [] + 1)) ([t].drop 0) []).1,(comeL (comeF s.defs (need s.defs t [] + 1)) ([t].drop 0) []).2):=by
  show comeF s.defs (need s.defs t [] + 1) t [] = (((comeF s.defs (need s.defs t [] + 1) t []).1++[]),_)
  rw [List.append_nil]
  rfl
 have hN:wkN s.defs ([t].drop 0) [] < need s.defs t [] + 1:=by
  show wkN s.defs [t] [] < _
  rw [need_wk]
  exact Nat.lt_succ_self _
 generalize need s.defs t [] = k at hK hN
 generalize comeA s.defs t = R at hK ⊢
 (repeat' (first | (refine And.intro (fun h=>?_) (fun h=>?_)<;>(try simp [-List.getD_eq_getElem?_getD,-Int.pred_toNat] at h)<;>(try (exfalso; first | omega | contradiction))) | (refine And.intro (rng64 (by omega) (by omega)) ?_) | (refine And.intro ⟨by omega,by omega⟩ ?_) | (refine And.intro ⟨by omega,by omega,by omega⟩ ?_) | (intro _)))
 refine Exists.intro [(7,7,.typ)] (Exists.intro [] (Exists.intro [(12,8),(10,6)] (Exists.intro (List TypR × Nat × Met × List TypR) (Exists.intro (fun q=>q.2.1≤q.1.length∧R = (q.2.2.2++(comeL (comeF s.defs (k + 1)) (q.1.drop q.2.1) q.2.2.1).1,(comeL (comeF s.defs (k + 1)) (q.1.drop q.2.1) q.2.2.1).2)∧wkN s.defs (q.1.drop q.2.1) q.2.2.1 < k + 1∧(∀ x ∈ q.1.drop q.2.1,CT s.defs x∧TB x)∧sumN (q.1.drop q.2.1) + q.2.2.2.length + restN s.defs q.2.2.1≤100000∧q.2.2.1.length + Ty.cnt s.defs q.2.2.1≤1000) (Exists.intro (fun ⟨l,j,es,pre⟩=>⟨[(2,.pt 2 0),(6,.ob 6 6 (.mp .str .bool es)),(7,.vec 7 .typ pre),(8,.vs 8 .typ l j)],[(2,encSch s)]⟩) (Exists.intro (fun q=>wkN s.defs (q.1.drop q.2.1) q.2.2.1) (Exists.intro ([t],0,[],[]) (And.intro ⟨Nat.zero_le _,hK,hN,?_,?_,?_⟩ (And.intro ?_ ?_)))))))))
 ·intro x hx
  have hx:x ∈ [t]:=hx
  obtain rfl:=List.mem_singleton.1 hx
  exact ⟨ht,hb⟩
 ·show sumN [t] + 0 + restN s.defs []≤100000
  rw [sumN_cons]
  show tyN t + 0 + 0 + restN s.defs []≤100000
  omega
 ·show 0 + Ty.cnt s.defs []≤1000
  rw [cnt_all]
  omega
 ·rw [etaT]
  (repeat' (first | exact trivial | exact Or.inl rfl | exact Or.inr (Or.inl ⟨rfl,_,rfl⟩) | exact Or.inr (Or.inr (Or.inr ⟨_,_,_,rfl,rfl⟩)) | refine And.intro ?_ ?_))
 rintro ⟨l,j,es,pre⟩ ⟨hj,hI,hN,hT,hS,hM⟩
 dsimp only at hj hI hN hT hS hM
 intro _ _
 refine And.intro (fun hz=>?_) (fun hz=>?_)
 rotate_left
 ·have hz:l.drop j = []:=List.drop_eq_nil_of_le (by have:¬ (0:Int) < ((l.length - j:Nat):Int):=of_decide_eq_false hz; omega)
  rw [hz] at hI
  have hI:R = (pre,es):=by rw [hI]; show (pre++[],es) = _; rw [List.append_nil]
  subst hI
  (repeat' (first | (refine And.intro (fun h=>?_) (fun h=>?_)<;>(try simp [-List.getD_eq_getElem?_getD,-Int.pred_toNat] at h)<;>(try (exfalso; first | omega | contradiction))) | (refine And.intro (rng64 (by omega) (by omega)) ?_) | (refine And.intro ⟨by omega,by omega⟩ ?_) | (refine And.intro ⟨by omega,by omega,by omega⟩ ?_) | (intro _)))
  exact Exists.intro [(6,1000),(7,1001)] (And.intro rfl (by (repeat' (first | exact trivial | exact Or.inl rfl | exact Or.inr (Or.inl ⟨rfl,_,rfl⟩) | exact Or.inr (Or.inr (Or.inr ⟨_,_,_,rfl,rfl⟩)) | refine And.intro ?_ ?_))))
 have hj2:j < l.length:=by have:(0:Int) < ((l.length - j:Nat):Int):=of_decide_eq_true hz; omega
 have eD:=List.drop_eq_getElem_cons hj2
 rw [eD] at hI hN hT hS
 obtain ⟨hx,hxb⟩:=hT l[j] (List.mem_cons_self ..)
 have hr:∀ y ∈ l.drop (j + 1),CT s.defs y∧TB y:=fun y hy=>hT y (List.mem_cons_of_mem _ hy)
 have hg:l.getD (j + Int.toNat 0) (dflt .typ) = l[j]:=by
  show l.getD (j + 0) _ = _
  rw [Nat.add_zero,List.getD_eq_getElem?_getD,List.getElem?_eq_getElem hj2]
  rfl
 rw [sumN_cons] at hS
 have hpos:=tyN_pos l[j]
 have hlen:=len_sumN (l.drop (j + 1))
 rw [List.length_drop] at hlen
 refine And.intro ⟨by decide,by omega⟩ ?_
 (conv=>whnf)
 rw [hg]
 by_cases c1:l[j].kind = 11
 ·rw [wk_union (fun d h=>(hd d h).1) hx hN c1] at hI
  have hsp:=sumN_part l[j]
  have hsa:=sumN_append l[j].t (l.drop (j + 1))
  have hlt:=len_sumN l[j].t
  (repeat' (first | (refine And.intro (fun h=>?_) (fun h=>?_)<;>(try simp [-List.getD_eq_getElem?_getD,-Int.pred_toNat] at h)<;>(try (exfalso; first | omega | contradiction))) | (refine And.intro (rng64 (by omega) (by omega)) ?_) | (refine And.intro ⟨by omega,by omega⟩ ?_) | (refine And.intro ⟨by omega,by omega,by omega⟩ ?_) | (intro _)))
  (refine And.intro (Go.Ty.szB (by (try simp only [List.length_append,List.length_cons,List.length_nil,List.length_map,List.length_take,List.length_drop]); omega) (Nat.le_of_ble_eq_true rfl)) ?_)
  (refine And.intro (Go.Ty.szB (by (try simp only [List.length_append,List.length_cons,List.length_nil,List.length_map,List.length_take,List.length_drop]); omega) (Nat.le_of_ble_eq_true rfl)) ?_)
  (repeat' (first | (refine And.intro (fun h=>?_) (fun h=>?_)<;>(try simp [-List.getD_eq_getElem?_getD,-Int.pred_toNat] at h)<;>(try (exfalso; first | omega | contradiction))) | (refine And.intro (rng64 (by omega) (by omega)) ?_) | (refine And.intro ⟨by omega,by omega⟩ ?_) | (refine And.intro ⟨by omega,by omega,by omega⟩ ?_) | (intro _)))
  refine Exists.intro [(33,8)] (Exists.intro (l[j].t++l.drop (j + 1),0,es,pre) (And.intro ⟨Nat.zero_le _,hI,Nat.lt_of_lt_of_le wkN_union (Nat.le_of_lt hN),fun y hy=>?_,?_,hM⟩ (And.intro ?_ ?_)))
  ·rcases List.mem_append.1 hy with hy | hy
   ·exact ⟨hx.part y hy,hxb.inside y (List.mem_append_left _ hy)⟩
   ·exact hr y hy
  ·show sumN (l[j].t++l.drop (j + 1)) + pre.length + restN s.defs es≤100000
   omega
  ·(repeat' (first | exact trivial | exact Or.inl rfl | exact Or.inr (Or.inl ⟨rfl,_,rfl⟩) | exact Or.inr (Or.inr (Or.inr ⟨_,_,_,rfl,rfl⟩)) | refine And.intro ?_ ?_))
  ·show wkN s.defs (l[j].t++l.drop (j + 1)) es < wkN s.defs (l.drop j) es
   rw [eD]
   exact wkN_union
 by_cases c2:l[j].kind = 12
 rotate_left
 ·rw [wk_part c2 c1] at hI
  (repeat' (first | (refine And.intro (fun h=>?_) (fun h=>?_)<;>(try simp [-List.getD_eq_getElem?_getD,-Int.pred_toNat] at h)<;>(try (exfalso; first | omega | contradiction))) | (refine And.intro (rng64 (by omega) (by omega)) ?_) | (refine And.intro ⟨by omega,by omega⟩ ?_) | (refine And.intro ⟨by omega,by omega,by omega⟩ ?_) | (intro _)))
  (refine And.intro (Go.Ty.szB (by (try simp only [List.length_append,List.length_cons,List.length_nil,List.length_map,List.length_take,List.length_drop]); omega) (Nat.le_of_ble_eq_true rfl)) ?_)
  (repeat' (first | (refine And.intro (fun h=>?_) (fun h=>?_)<;>(try simp [-List.getD_eq_getElem?_getD,-Int.pred_toNat] at h)<;>(try (exfalso; first | omega | contradiction))) | (refine And.intro (rng64 (by omega) (by omega)) ?_) | (refine And.intro ⟨by omega,by omega⟩ ?_) | (refine And.intro ⟨by omega,by omega,by omega⟩ ?_) | (intro _)))
  refine Exists.intro [(26,7)] (Exists.intro (l,j + 1,es,pre++[l[j]]) (And.intro ⟨hj2,?_,Nat.lt_of_lt_of_le wkN_tail (Nat.le_of_lt hN),hr,?_,hM⟩ (And.intro ?_ ?_)))
  ·rw [hI]
   show (_,_) = (_,_)
   rw [List.append_assoc]
   rfl
  ·show sumN (l.drop (j + 1)) + (pre++[l[j]]).length + restN s.defs es≤100000
   rw [List.length_append,List.length_cons,List.length_nil]
   omega
  ·dsimp only
   rw [etaT]
   (repeat' (first | exact trivial | exact Or.inl rfl | exact Or.inr (Or.inl ⟨rfl,_,rfl⟩) | exact Or.inr (Or.inr (Or.inr ⟨_,_,_,rfl,rfl⟩)) | refine And.intro ?_ ?_))
  ·show wkN s.defs (l.drop (j + 1)) es < wkN s.defs (l.drop j) es
   rw [eD]
   exact wkN_tail
 by_cases c3:met es l[j].name = true
 ·rw [wk_met c2 c3] at hI
  have c3:(mpGet (κ:=.str) (τ:=.bool) es l[j].name).getD false = true:=c3
  (repeat' (first | (refine And.intro (fun h=>?_) (fun h=>?_)<;>(try simp [-List.getD_eq_getElem?_getD,-Int.pred_toNat] at h)<;>(try (exfalso; first | omega | contradiction))) | (refine And.intro (rng64 (by omega) (by omega)) ?_) | (refine And.intro ⟨by omega,by omega⟩ ?_) | (refine And.intro ⟨by omega,by omega,by omega⟩ ?_) | (intro _)))
  ·exact absurd (show (mpGet (κ:=.str) (τ:=.bool) es l[j].name).getD false = false by assumption) (by rw [c3]; decide)
  (repeat' (first | (refine And.intro (fun h=>?_) (fun h=>?_)<;>(try simp [-List.getD_eq_getElem?_getD,-Int.pred_toNat] at h)<;>(try (exfalso; first | omega | contradiction))) | (refine And.intro (rng64 (by omega) (by omega)) ?_) | (refine And.intro ⟨by omega,by omega⟩ ?_) | (refine And.intro ⟨by omega,by omega,by omega⟩ ?_) | (intro _)))
  refine Exists.intro [] (Exists.intro (l,j + 1,es,pre) (And.intro ⟨hj2,hI,Nat.lt_of_lt_of_le wkN_tail (Nat.le_of_lt hN),hr,?_,hM⟩ (And.intro ?_ ?_)))
  ·show sumN (l.drop (j + 1)) + pre.length + restN s.defs es≤100000
   omega
  ·(repeat' (first | exact trivial | exact Or.inl rfl | exact Or.inr (Or.inl ⟨rfl,_,rfl⟩) | exact Or.inr (Or.inr (Or.inr ⟨_,_,_,rfl,rfl⟩)) | refine And.intro ?_ ?_))
  ·show wkN s.defs (l.drop (j + 1)) es < wkN s.defs (l.drop j) es
   rw [eD]
   exact wkN_tail
 ·have c3:met es l[j].name = false:=by simpa using c3
  rw [wk_name (fun d h=>(hd d h).1) hx hN c2 c3] at hI
  have h0:0≤defI s.defs l[j].name:=by cases hx with | mk _ _ h _=>exact h c2
  have hD:=s_defOf s l[j].name (by omega)
  have c4:(mpGet (κ:=.str) (τ:=.bool) es l[j].name).getD false = false:=c3
  have hrf:=restN_ref h0 (es:=es) c3
  have hcr:=cnt_ref h0 (es:=es) c3
  (repeat' (first | (refine And.intro (fun h=>?_) (fun h=>?_)<;>(try simp [-List.getD_eq_getElem?_getD,-Int.pred_toNat] at h)<;>(try (exfalso; first | omega | contradiction))) | (refine And.intro (rng64 (by omega) (by omega)) ?_) | (refine And.intro ⟨by omega,by omega⟩ ?_) | (refine And.intro ⟨by omega,by omega,by omega⟩ ?_) | (intro _)))
  refine And.intro (show es.length < 9223372036854775807 by omega) ?_
  (repeat' (first | (refine And.intro (fun h=>?_) (fun h=>?_)<;>(try simp [-List.getD_eq_getElem?_getD,-Int.pred_toNat] at h)<;>(try (exfalso; first | omega | contradiction))) | (refine And.intro (rng64 (by omega) (by omega)) ?_) | (refine And.intro ⟨by omega,by omega⟩ ?_) | (refine And.intro ⟨by omega,by omega,by omega⟩ ?_) | (intro _)))
  refine Exists.intro [.take 0,.take 3,.take 10,.blk [1,2,4,5,6,7,8],.one 9,.one 11,.take 12] (And.intro (by kernel_rfl) ?_)
  refine Exists.intro _ (And.intro (hD) ?_)
  obtain ⟨g1,g2⟩:=defI_get h0
  have gg:s.defs.getD (defI s.defs l[j].name).toNat (dflt .dfn) = s.defs[(defI s.defs l[j].name).toNat]:=by rw [List.getD_eq_getElem?_getD,List.getElem?_eq_getElem g1]; rfl
  refine And.intro ⟨h0,by omega⟩ ?_
  (repeat' (first | (refine And.intro (fun h=>?_) (fun h=>?_)<;>(try simp [-List.getD_eq_getElem?_getD,-Int.pred_toNat] at h)<;>(try (exfalso; first | omega | contradiction))) | (refine And.intro (rng64 (by omega) (by omega)) ?_) | (refine And.intro ⟨by omega,by omega⟩ ?_) | (refine And.intro ⟨by omega,by omega,by omega⟩ ?_) | (intro _)))
  (refine And.intro (Go.Ty.szB (by (try simp only [List.length_append,List.length_cons,List.length_nil,List.length_map,List.length_take,List.length_drop]); omega) (Nat.le_of_ble_eq_true rfl)) ?_)
  (repeat' (first | (refine And.intro (fun h=>?_) (fun h=>?_)<;>(try simp [-List.getD_eq_getElem?_getD,-Int.pred_toNat] at h)<;>(try (exfalso; first | omega | contradiction))) | (refine And.intro (rng64 (by omega) (by omega)) ?_) | (refine And.intro ⟨by omega,by omega⟩ ?_) | (refine And.intro ⟨by omega,by omega,by omega⟩ ?_) | (intro _)))
  refine Exists.intro [(55,8)] (Exists.intro (defT s.defs l[j].name::l.drop (j + 1),0,meet es l[j].name,pre) (And.intro ⟨Nat.zero_le _,hI,Nat.lt_trans (wkN_name hx c2 c3) hN,fun y hy=>?_,?_,?_⟩ (And.intro ?_ ?_)))
  ·rcases List.mem_cons.1 hy with rfl | hy
   ·refine ⟨CT.defT (fun d h=>(hd d h).1) h0,?_⟩
    obtain ⟨d,h1,_,e⟩:=defT_mem h0
    rw [← e]
    exact (hd d h1).2
   ·exact hr y hy
  ·show sumN (defT s.defs l[j].name::l.drop (j + 1)) + pre.length + restN s.defs (meet es l[j].name)≤100000
   rw [sumN_cons]
   omega
  ·show (meet es l[j].name).length + Ty.cnt s.defs (meet es l[j].name)≤1000
   omega
  ·dsimp only
   rw [etaT]
   (repeat' (first | exact trivial | exact Or.inl rfl | exact Or.inr (Or.inl ⟨rfl,_,rfl⟩) | exact Or.inr (Or.inr (Or.inr ⟨_,_,_,rfl,rfl⟩)) | refine And.intro ?_ ?_))
  ·show wkN s.defs (defT s.defs l[j].name::l.drop (j + 1)) (meet es l[j].name) < wkN s.defs (l.drop j) es
   rw [eD]
   exact wkN_name hx c2 c3
theorem s_reached (s:SchemaR) (hd:∀ d ∈ s.defs,CT s.defs d.t∧TB d.t) (hm:s.defs.length≤1000) (t:TypR) (ht:CT s.defs t) (hb:TB t) (hw:tyN t + restN s.defs []≤100000):CSpec Tryd.prog 90 [.agg (encSch s),.agg (encTyp t)] [] (.tup [.ob 1000 1000 (.mp .str .bool (comeA s.defs t).2),.vec 1001 .typ (comeA s.defs t).1]) [] :=
 cspec_of_vc Γ_good Tryd.func90 rfl Tryd.call90 Tryd.results90 Tryd.ntmps90 (Nat.le_of_ble_eq_true rfl) (Nat.le_of_ble_eq_true rfl) (by rfl) (w_reached s hd hm t ht hb hw)
theorem w_partsOf (s:SchemaR) (hd:∀ d ∈ s.defs,CT s.defs d.t∧TB d.t) (hm:s.defs.length≤1000) (t:TypR) (ht:CT s.defs t) (hb:TB t) (hw:tyN t + restN s.defs []≤100000):vc Tryd.prog Γ 14 [2,3,4,6] (Tryd.f39.body.getD .skip) (postK Γ [.tmp 4] (fun v=>v = .rd .typ (comeA s.defs t).1)) ⟨argSlots 0 [.agg (encSch s),.agg (encTyp t)],[]⟩:=by
 have hR:=s_reached s hd hm t ht hb hw
 (repeat' (first | (refine And.intro (fun h=>?_) (fun h=>?_)<;>(try simp [-List.getD_eq_getElem?_getD,-Int.pred_toNat] at h)<;>(try (exfalso; first | omega | contradiction))) | (refine And.intro (rng64 (by omega) (by omega)) ?_) | (refine And.intro ⟨by omega,by omega⟩ ?_) | (refine And.intro ⟨by omega,by omega,by omega⟩ ?_) | (intro _)))
 refine Or.inr (Or.inl (Exists.intro [] (Exists.intro _ (Exists.intro _ (Exists.intro _ (Exists.intro _ (Exists.intro _ (Exists.intro [(1000,11),(1001,12)] (And.intro (hR) ?_)))))))))
 refine (And.intro rfl (And.intro rfl (And.intro rfl (And.intro rfl ?_))))
 (repeat' (first | (refine And.intro (fun h=>?_) (fun h=>?_)<;>(try simp [-List.getD_eq_getElem?_getD,-Int.pred_toNat] at h)<;>(try (exfalso; first | omega | contradiction))) | (refine And.intro (rng64 (by omega) (by omega)) ?_) | (refine And.intro ⟨by omega,by omega⟩ ?_) | (refine And.intro ⟨by omega,by omega,by omega⟩ ?_) | (intro _)))
 rfl
theorem s_partsOf (s:SchemaR) (hd:∀ d ∈ s.defs,CT s.defs d.t∧TB d.t) (hm:s.defs.length≤1000) (t:TypR) (ht:CT s.defs t) (hb:TB t) (hw:tyN t + restN s.defs []≤100000):PSpec Tryd.prog 39 [.agg (encSch s),.agg (encTyp t)] (.rd .typ (comeA s.defs t).1) :=
 pspec_of_vc Γ_good Tryd.func39 rfl Tryd.call39 Tryd.results39 Tryd.ntmps39 (Nat.le_of_ble_eq_true rfl) (w_partsOf s hd hm t ht hb hw)
end
end Go.Proofs.YtdcdmojbkmedpaaDoor
end
section
namespace Go.Proofs.YtdcdmojbkmedpaaDoor
open Go Go.SX Go.Ck Go.Vl Go.Ut Go.Ty
set_option maxRecDepth 100000
set_option maxHeartbeats 20000000
theorem pre_prop {Q:TypR→Prop} (hQ:∀ t,Q t→∀ x ∈ Ty.inside t,Q x):∀ (k:Nat) (t:TypR),SizeOf.sizeOf t < k→Q t→∀ a,∀ p ∈ preT t a,Q p.t:=by
 intro k
 induction k with
 | zero=>intro t h; exact absurd h (Nat.not_lt_zero _)
 | succ k ih =>
  intro t h ht a p hp
  rw [preT_eq] at hp
  rcases List.mem_cons.1 hp with rfl | hp
  ·exact ht
  ·obtain ⟨x,hx,hp⟩:=List.mem_flatMap.1 hp
   exact ih x (by have:=size_inside hx; omega) (hQ t ht x hx) _ p hp
theorem all_prop {Q:TypR→Prop} (hQ:∀ t,Q t→∀ x ∈ Ty.inside t,Q x) {s:SchemaR} (hd:∀ d ∈ s.defs,Q d.t) (hr:Q s.root):∀ p ∈ allP s,Q p.t:=by
 intro p hp
 unfold allP at hp
 rcases List.mem_append.1 hp with hp | hp
 ·obtain ⟨d,h1,hp⟩:=List.mem_flatMap.1 hp
  exact pre_prop hQ _ d.t (Nat.lt_succ_self _) (hd d h1) _ p hp
 ·exact pre_prop hQ _ s.root (Nat.lt_succ_self _) hr _ p hp
theorem sumN_mem {l:List TypR} {x:TypR} (h:x ∈ l):tyN x≤sumN l:=by
 induction l with
 | nil=>exact nomatch h
 | cons y r ih =>
  rw [sumN_cons]
  rcases List.mem_cons.1 h with rfl | h
  ·omega
  ·have:=ih h
   omega
theorem tyN_in {t x:TypR} (h:x ∈ Ty.inside t):tyN x < tyN t:=by
 rw [tyN_eq t]
 have:=sumN_mem h
 omega
theorem tyN_def {l:List DefR} {d:DefR} (h:d ∈ l):tyN d.t≤restN l []:=by
 unfold restN
 rw [rest_all]
 induction l with
 | nil=>exact nomatch h
 | cons y r ih =>
  rw [List.map_cons,List.sum_cons]
  rcases List.mem_cons.1 h with rfl | h
  ·omega
  ·have:=ih h
   omega
theorem tyN_all {s:SchemaR}:∀ p ∈ allP s,tyN p.t≤restN s.defs [] + tyN s.root:=all_prop (Q:=fun t=>tyN t≤restN s.defs [] + tyN s.root) (fun t ht x hx=>by have:=tyN_in hx; omega) (fun d hd=>by have:=tyN_def hd; omega) (by omega)
theorem scan_at {l:List DefR} {A:List TPlace} {i:Nat} (h:i < A.length):(scan l (A.drop i) (i:Int)).1 = if lookF l A[i] (i:Int)≠0 then lookF l A[i] (i:Int) else (scan l (A.drop (i + 1)) ((i + 1:Nat):Int)).1:=by
 rw [List.drop_eq_getElem_cons h,scan]
 by_cases c:lookF l A[i] (i:Int)≠0
 ·rw [if_pos c,if_pos c]
 ·rw [if_neg c,if_neg c]
  rfl
section
variable [G:Globs]
theorem w_schemaFault (hu:HasU8) (s:SchemaR) (hd:∀ d ∈ s.defs,TB d.t) (hr:TB s.root) (hn:s.defs.length≤2000000):vc Tryd.prog Γ 139 [1,2,3,4,5,6,7,8,9,10,11,13,14,17,18,19,21,23,24,26,30,32,33,34,35,46,56,57,58,59,64,69,74,78,79,80,81,94,96,97,98,99,104,105,106,109,110,111,112,121,122,123,124,129,136] (Tryd.f33.body.getD .skip) (postK Γ [.tmp 2] (fun v=>v = .i .i64 (checkS s))) ⟨argSlots 0 [.agg (encSch s)],[]⟩:=by
 by_cases c1:50 < s.defs.length
 ·have hR:checkS s = 2:=if_pos c1
  rw [hR]
  (repeat' (first | (refine And.intro (fun h=>?_) (fun h=>?_)<;>(try simp [-List.getD_eq_getElem?_getD,-Int.pred_toNat] at h)<;>(try (exfalso; first | omega | contradiction))) | (refine And.intro (rng64 (by omega) (by omega)) ?_) | (refine And.intro ⟨by omega,by omega⟩ ?_) | (refine And.intro ⟨by omega,by omega,by omega⟩ ?_) | (intro _)))
  rfl
 have hR:checkS s = orI (nmsF none (s.defs.map (·.name))) (orI (scan s.defs (allP s) 0).1 (if s.defs.any (cirF s.defs) = true then 11 else clsF s.defs (allP s))):=if_neg c1
 generalize checkS s = R at hR ⊢
 have hnl:(s.defs.map (·.name)).length = s.defs.length:=List.length_map ..
 (repeat' (first | (refine And.intro (fun h=>?_) (fun h=>?_)<;>(try simp [-List.getD_eq_getElem?_getD,-Int.pred_toNat] at h)<;>(try (exfalso; first | omega | contradiction))) | (refine And.intro (rng64 (by omega) (by omega)) ?_) | (refine And.intro ⟨by omega,by omega⟩ ?_) | (refine And.intro ⟨by omega,by omega,by omega⟩ ?_) | (intro _)))
 refine Exists.intro [] (Exists.intro [] (Exists.intro [] (Exists.intro Nat (Exists.intro (fun i=>i≤(s.defs).length∧(nmsF none (s.defs.map (·.name)) = nmsF (nmAt (s.defs.map (·.name)) i) ((s.defs.map (·.name)).drop i))) (Exists.intro (fun i=>⟨[(1,.pt 1 0),(3,.s (if 0 < i then (s.defs.map (·.name)).getD (i - 1) [] else [])),(32,.rd .dfn s.defs),(33,.i .i64 s.defs.length),(34,.i .i64 i)],[(1,encSch s)]⟩) (Exists.intro (fun i=>(s.defs).length - i) (Exists.intro 0 (And.intro ⟨Nat.zero_le _,rfl⟩ (And.intro ?_ ?_)))))))))
 ·(repeat' (first | exact trivial | exact Or.inl rfl | exact Or.inr (Or.inl ⟨rfl,_,rfl⟩) | exact Or.inr (Or.inr (Or.inr ⟨_,_,_,rfl,rfl⟩)) | refine And.intro ?_ ?_))
 rintro i ⟨hi,hI⟩
 refine And.intro (fun hz=>?_) (fun hz=>?_)
 ·have hi:=ltD hz
  have hg:=getI (τ:=.dfn) hi
  refine And.intro ⟨by omega,by omega⟩ ?_
  rw [hg]
  have hi2:i < (s.defs.map (·.name)).length:=by omega
  have hni:(s.defs.map (·.name))[i] = s.defs[i].name:=by rw [List.getElem_map]
  have hN:=s_nameFault s.defs[i].name (if 0 < i then (s.defs.map (·.name)).getD (i - 1) [] else []) ((i:Int) == 0)
  have hN2:(if ((i:Int) == 0) = true then none else some (if 0 < i then (s.defs.map (·.name)).getD (i - 1) [] else [])) = nmAt (s.defs.map (·.name)) i:=by
   unfold nmAt
   by_cases h0:0 < i
   ·rw [if_neg (by rw [beq_iff_eq]; omega),if_pos h0,if_pos h0]
   ·rw [if_pos (by rw [beq_iff_eq]; omega),if_neg h0]
  rw [hN2] at hN
  have hpv:(if 0 < i + 1 then (s.defs.map (·.name)).getD (i + 1 - 1) [] else []) = s.defs[i].name:=by
   rw [if_pos (by omega),Nat.add_sub_cancel,List.getD_eq_getElem?_getD,List.getElem?_eq_getElem hi2,← hni]
   rfl
  (repeat' (first | (refine And.intro (fun h=>?_) (fun h=>?_)<;>(try simp [-List.getD_eq_getElem?_getD,-Int.pred_toNat] at h)<;>(try (exfalso; first | omega | contradiction))) | (refine And.intro (rng64 (by omega) (by omega)) ?_) | (refine And.intro ⟨by omega,by omega⟩ ?_) | (refine And.intro ⟨by omega,by omega,by omega⟩ ?_) | (intro _)))
  refine Or.inl (Exists.intro _ (And.intro (hN) ?_))
  by_cases k1:keyF (nmAt (s.defs.map (·.name)) i) s.defs[i].name = 0
  rotate_left
  ·rw [nms_stop hi2 (by rw [hni]; exact k1),hni] at hI
   rw [hI,orI_ne k1] at hR
   rw [hR]
   (repeat' (first | (refine And.intro (fun h=>?_) (fun h=>?_)<;>(try simp [-List.getD_eq_getElem?_getD,-Int.pred_toNat] at h)<;>(try (exfalso; first | omega | contradiction))) | (refine And.intro (rng64 (by omega) (by omega)) ?_) | (refine And.intro ⟨by omega,by omega⟩ ?_) | (refine And.intro ⟨by omega,by omega,by omega⟩ ?_) | (intro _)))
   rfl
  rw [nms_go hi2 (by rw [hni]; exact k1)] at hI
  rw [k1]
  (repeat' (first | (refine And.intro (fun h=>?_) (fun h=>?_)<;>(try simp [-List.getD_eq_getElem?_getD,-Int.pred_toNat] at h)<;>(try (exfalso; first | omega | contradiction))) | (refine And.intro (rng64 (by omega) (by omega)) ?_) | (refine And.intro ⟨by omega,by omega⟩ ?_) | (refine And.intro ⟨by omega,by omega,by omega⟩ ?_) | (intro _)))
  refine Exists.intro [] (Exists.intro (i + 1) (And.intro ⟨hi,hI⟩ (And.intro ?_ ?_)))
  ·dsimp only
   rw [hpv]
   (repeat' (first | exact trivial | exact Or.inl rfl | exact Or.inr (Or.inl ⟨rfl,_,rfl⟩) | exact Or.inr (Or.inr (Or.inr ⟨_,_,_,rfl,rfl⟩)) | refine And.intro ?_ ?_))
  ·(exact Nat.sub_lt_sub_left (by omega) (by omega))
 (have hi:=geD hi hz)
 rw [nms_end (by omega)] at hI
 rw [hI,orI_zero] at hR
 clear hI
 have hG:=s_gone s hd hr hn
 have hsc:(scan s.defs ((allP s).take 201) 0).1 = (scan s.defs (allP s) 0).1:=congrArg Prod.fst (scan_take s.defs (allP s) 0 (by decide))
 have hsz:=fun h=>scan_zero (l:=s.defs) (allP s) 0 (by decide) h
 have hmem:∀ p ∈ (allP s).take 201,TB p.t:=fun p hp=>all_prop (Q:=TB) (fun t ht x hx=>ht.inside x hx) hd hr p (List.mem_of_mem_take hp)
 have hAl:((allP s).take 201).length≤201:=List.length_take_le ..
 generalize hA:(allP s).take 201 = A at hsc hG hmem hAl
 rw [← hsc] at hR
 have hml:(A.map (·.t)).length = A.length:=List.length_map ..
 have hml2:(A.map (·.around)).length = A.length:=List.length_map ..
 (repeat' (first | (refine And.intro (fun h=>?_) (fun h=>?_)<;>(try simp [-List.getD_eq_getElem?_getD,-Int.pred_toNat] at h)<;>(try (exfalso; first | omega | contradiction))) | (refine And.intro (rng64 (by omega) (by omega)) ?_) | (refine And.intro ⟨by omega,by omega⟩ ?_) | (refine And.intro ⟨by omega,by omega,by omega⟩ ?_) | (intro _)))
 refine Or.inl (Exists.intro _ (And.intro (hG) ?_))
 (repeat' (first | (refine And.intro (fun h=>?_) (fun h=>?_)<;>(try simp [-List.getD_eq_getElem?_getD,-Int.pred_toNat] at h)<;>(try (exfalso; first | omega | contradiction))) | (refine And.intro (rng64 (by omega) (by omega)) ?_) | (refine And.intro ⟨by omega,by omega⟩ ?_) | (refine And.intro ⟨by omega,by omega,by omega⟩ ?_) | (intro _)))
 refine Exists.intro [] (Exists.intro [] (Exists.intro [] (Exists.intro Nat (Exists.intro (fun i=>i≤((A.map (·.t))).length∧((scan s.defs A 0).1 = (scan s.defs (A.drop i) (i:Int)).1)) (Exists.intro (fun i=>⟨[(1,.pt 1 0),(7,.rd .typ (A.map (·.t))),(8,.rd .int (A.map (·.around))),(56,.rd .typ (A.map (·.t))),(57,.i .i64 (A.map (·.t)).length),(58,.i .i64 i)],[(1,encSch s)]⟩) (Exists.intro (fun i=>((A.map (·.t))).length - i) (Exists.intro 0 (And.intro ⟨Nat.zero_le _,rfl⟩ (And.intro ?_ ?_)))))))))
 ·(repeat' (first | exact trivial | exact Or.inl rfl | exact Or.inr (Or.inl ⟨rfl,_,rfl⟩) | exact Or.inr (Or.inr (Or.inr ⟨_,_,_,rfl,rfl⟩)) | refine And.intro ?_ ?_))
 rintro i ⟨hi,hI⟩
 refine And.intro (fun hz=>?_) (fun hz=>?_)
 ·have hi:=ltD hz
  have hg:=getI (τ:=.typ) hi
  refine And.intro ⟨by omega,by omega⟩ ?_
  rw [hg]
  have hiA:i < A.length:=by omega
  have eT:(A.map (·.t))[i] = A[i].t:=by rw [List.getElem_map]
  have hg2:(A.map (·.around)).getD (i:Int).toNat (dflt .int) = A[i].around:=by
   show (A.map (·.around)).getD i 0 = _
   rw [List.getD_eq_getElem?_getD,List.getElem?_eq_getElem (by omega),List.getElem_map]
   rfl
  have hg3:@Eq Int ((A.map (·.around)).getD i (dflt .int)) A[i].around:=hg2
  rw [eT]
  have hTF:=s_typeFault hu s A[i].t (hmem _ (List.getElem_mem hiA)) hn
  rw [scan_at hiA] at hI
  have hL:lookF s.defs A[i] (i:Int) = if 200 < (i:Int) + 1 then 2 else if 20≤A[i].around then 5 else typeF s.defs A[i].t:=rfl
  by_cases b1:200 < (i:Int) + 1
  ·rw [if_pos b1] at hL
   rw [hL,if_pos (by decide)] at hI
   rw [hI,orI_ne (by decide)] at hR
   rw [hR]
   (repeat' (first | (refine And.intro (fun h=>?_) (fun h=>?_)<;>(try simp [-List.getD_eq_getElem?_getD,-Int.pred_toNat] at h)<;>(try (exfalso; first | omega | contradiction))) | (refine And.intro (rng64 (by omega) (by omega)) ?_) | (refine And.intro ⟨by omega,by omega⟩ ?_) | (refine And.intro ⟨by omega,by omega,by omega⟩ ?_) | (intro _)))
   rfl
  rw [if_neg b1] at hL
  by_cases b2:20≤A[i].around
  ·rw [if_pos b2] at hL
   rw [hL,if_pos (by decide)] at hI
   rw [hI,orI_ne (by decide)] at hR
   rw [hR]
   (repeat' (first | (refine And.intro (fun h=>?_) (fun h=>?_)<;>(try simp [-List.getD_eq_getElem?_getD,-Int.pred_toNat] at h)<;>(try (exfalso; first | omega | contradiction))) | (refine And.intro (rng64 (by omega) (by omega)) ?_) | (refine And.intro ⟨by omega,by omega⟩ ?_) | (refine And.intro ⟨by omega,by omega,by omega⟩ ?_) | (intro _)))
   rfl
  rw [if_neg b2] at hL
  by_cases b3:typeF s.defs A[i].t = 0
  rotate_left
  ·rw [hL,if_pos b3] at hI
   rw [hI,orI_ne b3] at hR
   rw [hR]
   (repeat' (first | (refine And.intro (fun h=>?_) (fun h=>?_)<;>(try simp [-List.getD_eq_getElem?_getD,-Int.pred_toNat] at h)<;>(try (exfalso; first | omega | contradiction))) | (refine And.intro (rng64 (by omega) (by omega)) ?_) | (refine And.intro ⟨by omega,by omega⟩ ?_) | (refine And.intro ⟨by omega,by omega,by omega⟩ ?_) | (intro _)))
   refine Or.inl (Exists.intro _ (And.intro (hTF) ?_))
   (repeat' (first | (refine And.intro (fun h=>?_) (fun h=>?_)<;>(try simp [-List.getD_eq_getElem?_getD,-Int.pred_toNat] at h)<;>(try (exfalso; first | omega | contradiction))) | (refine And.intro (rng64 (by omega) (by omega)) ?_) | (refine And.intro ⟨by omega,by omega⟩ ?_) | (refine And.intro ⟨by omega,by omega,by omega⟩ ?_) | (intro _)))
   rfl
  ·rw [hL,if_neg (fun h=>h b3)] at hI
   rw [b3] at hTF
   (repeat' (first | (refine And.intro (fun h=>?_) (fun h=>?_)<;>(try simp [-List.getD_eq_getElem?_getD,-Int.pred_toNat] at h)<;>(try (exfalso; first | omega | contradiction))) | (refine And.intro (rng64 (by omega) (by omega)) ?_) | (refine And.intro ⟨by omega,by omega⟩ ?_) | (refine And.intro ⟨by omega,by omega,by omega⟩ ?_) | (intro _)))
   refine Or.inl (Exists.intro _ (And.intro (hTF) ?_))
   (repeat' (first | (refine And.intro (fun h=>?_) (fun h=>?_)<;>(try simp [-List.getD_eq_getElem?_getD,-Int.pred_toNat] at h)<;>(try (exfalso; first | omega | contradiction))) | (refine And.intro (rng64 (by omega) (by omega)) ?_) | (refine And.intro ⟨by omega,by omega⟩ ?_) | (refine And.intro ⟨by omega,by omega,by omega⟩ ?_) | (intro _)))
   refine Exists.intro [] (Exists.intro (i + 1) (And.intro ⟨by omega,hI⟩ (And.intro ?_ ?_)))
   ·(repeat' (first | exact trivial | exact Or.inl rfl | exact Or.inr (Or.inl ⟨rfl,_,rfl⟩) | exact Or.inr (Or.inr (Or.inr ⟨_,_,_,rfl,rfl⟩)) | refine And.intro ?_ ?_))
   ·(exact Nat.sub_lt_sub_left (by omega) (by omega))
 (have hi:=geD hi hz)
 rw [List.drop_eq_nil_of_le (by omega)] at hI
 have hI:(scan s.defs A 0).1 = 0:=hI
 rw [hI,orI_zero] at hR
 have hz0:(scan s.defs (allP s) 0).1 = 0:=hsc ▸ hI
 obtain ⟨hB,hL⟩:=sb_of hd hr (by omega) hz0
 obtain rfl:A = allP s:=by rw [← hA,List.take_of_length_le (by have:=(hsz hz0).2; omega)]
 (repeat' (first | (refine And.intro (fun h=>?_) (fun h=>?_)<;>(try simp [-List.getD_eq_getElem?_getD,-Int.pred_toNat] at h)<;>(try (exfalso; first | omega | contradiction))) | (refine And.intro (rng64 (by omega) (by omega)) ?_) | (refine And.intro ⟨by omega,by omega⟩ ?_) | (refine And.intro ⟨by omega,by omega,by omega⟩ ?_) | (intro _)))
 refine Exists.intro [] (Exists.intro [] (Exists.intro [] (Exists.intro Nat (Exists.intro (fun i=>i≤(s.defs).length∧(s.defs.any (cirF s.defs) = (s.defs.drop i).any (cirF s.defs))) (Exists.intro (fun i=>⟨[(1,.pt 1 0),(7,.rd .typ ((allP s).map (·.t))),(78,.rd .dfn s.defs),(79,.i .i64 s.defs.length),(80,.i .i64 i)],[(1,encSch s)]⟩) (Exists.intro (fun i=>(s.defs).length - i) (Exists.intro 0 (And.intro ⟨Nat.zero_le _,rfl⟩ (And.intro ?_ ?_)))))))))
 ·(repeat' (first | exact trivial | exact Or.inl rfl | exact Or.inr (Or.inl ⟨rfl,_,rfl⟩) | exact Or.inr (Or.inr (Or.inr ⟨_,_,_,rfl,rfl⟩)) | refine And.intro ?_ ?_))
 rintro i ⟨hi,hI⟩
 refine And.intro (fun hz=>?_) (fun hz=>?_)
 ·have hi:=ltD hz
  have hg:=getI (τ:=.dfn) hi
  refine And.intro ⟨by omega,by omega⟩ ?_
  rw [hg]
  have hx:=List.getElem_mem hi
  have hRe:=s_reached s hB.defs hB.many s.defs[i].t (hB.defs _ hx).1 (hB.defs _ hx).2 (by have:=tyN_def hx; have:=hB.types; omega)
  have hC:cirF s.defs s.defs[i] = (mpGet (κ:=.str) (τ:=.bool) (comeA s.defs s.defs[i].t).2 s.defs[i].name).getD false:=rfl
  rw [List.drop_eq_getElem_cons hi,List.any_cons,hC] at hI
  (repeat' (first | (refine And.intro (fun h=>?_) (fun h=>?_)<;>(try simp [-List.getD_eq_getElem?_getD,-Int.pred_toNat] at h)<;>(try (exfalso; first | omega | contradiction))) | (refine And.intro (rng64 (by omega) (by omega)) ?_) | (refine And.intro ⟨by omega,by omega⟩ ?_) | (refine And.intro ⟨by omega,by omega,by omega⟩ ?_) | (intro _)))
  refine Or.inr (Or.inl (Exists.intro [] (Exists.intro _ (Exists.intro _ (Exists.intro _ (Exists.intro _ (Exists.intro _ (Exists.intro [(1000,89),(1001,90)] (And.intro (hRe) ?_)))))))))
  refine (And.intro rfl (And.intro rfl (And.intro rfl (And.intro rfl ?_))))
  (repeat' (first | (refine And.intro (fun h=>?_) (fun h=>?_)<;>(try simp [-List.getD_eq_getElem?_getD,-Int.pred_toNat] at h)<;>(try (exfalso; first | omega | contradiction))) | (refine And.intro (rng64 (by omega) (by omega)) ?_) | (refine And.intro ⟨by omega,by omega⟩ ?_) | (refine And.intro ⟨by omega,by omega,by omega⟩ ?_) | (intro _)))
  ·have hq:(mpGet (κ:=.str) (τ:=.bool) (comeA s.defs s.defs[i].t).2 s.defs[i].name).getD false = true:=by assumption
   rw [hq,Bool.true_or] at hI
   rw [hI,if_pos rfl] at hR
   rw [hR]
   (repeat' (first | (refine And.intro (fun h=>?_) (fun h=>?_)<;>(try simp [-List.getD_eq_getElem?_getD,-Int.pred_toNat] at h)<;>(try (exfalso; first | omega | contradiction))) | (refine And.intro (rng64 (by omega) (by omega)) ?_) | (refine And.intro ⟨by omega,by omega⟩ ?_) | (refine And.intro ⟨by omega,by omega,by omega⟩ ?_) | (intro _)))
   rfl
  ·have hq:(mpGet (κ:=.str) (τ:=.bool) (comeA s.defs s.defs[i].t).2 s.defs[i].name).getD false = false:=by assumption
   rw [hq,Bool.false_or] at hI
   (repeat' (first | (refine And.intro (fun h=>?_) (fun h=>?_)<;>(try simp [-List.getD_eq_getElem?_getD,-Int.pred_toNat] at h)<;>(try (exfalso; first | omega | contradiction))) | (refine And.intro (rng64 (by omega) (by omega)) ?_) | (refine And.intro ⟨by omega,by omega⟩ ?_) | (refine And.intro ⟨by omega,by omega,by omega⟩ ?_) | (intro _)))
   refine Exists.intro [] (Exists.intro (i + 1) (And.intro ⟨hi,hI⟩ (And.intro ?_ ?_)))
   ·(repeat' (first | exact trivial | exact Or.inl rfl | exact Or.inr (Or.inl ⟨rfl,_,rfl⟩) | exact Or.inr (Or.inr (Or.inr ⟨_,_,_,rfl,rfl⟩)) | refine And.intro ?_ ?_))
   ·(exact Nat.sub_lt_sub_left (by omega) (by omega))
 (have hi:=geD hi hz)
 rw [List.drop_eq_nil_of_le (by omega)] at hI
 rw [hI,if_neg (by intro h; cases h),clsF_doc (fun d h=>(hB.defs d h).1) (allP s) (ct_all hB)] at hR
 have hR:R = if ((allP s).drop 0).any (fun p=>dcl s.defs p.t) = true then 13 else 0:=hR
 clear hI
 (repeat' (first | (refine And.intro (fun h=>?_) (fun h=>?_)<;>(try simp [-List.getD_eq_getElem?_getD,-Int.pred_toNat] at h)<;>(try (exfalso; first | omega | contradiction))) | (refine And.intro (rng64 (by omega) (by omega)) ?_) | (refine And.intro ⟨by omega,by omega⟩ ?_) | (refine And.intro ⟨by omega,by omega,by omega⟩ ?_) | (intro _)))
 refine Exists.intro [] (Exists.intro [] (Exists.intro [] (Exists.intro Nat (Exists.intro (fun i=>i≤(((allP s).map (·.t))).length∧(R = if ((allP s).drop i).any (fun p=>dcl s.defs p.t) = true then 13 else 0)) (Exists.intro (fun i=>⟨[(1,.pt 1 0),(96,.rd .typ ((allP s).map (·.t))),(97,.i .i64 ((allP s).map (·.t)).length),(98,.i .i64 i)],[(1,encSch s)]⟩) (Exists.intro (fun i=>(((allP s).map (·.t))).length - i) (Exists.intro 0 (And.intro ⟨Nat.zero_le _,hR⟩ (And.intro ?_ ?_)))))))))
 ·(repeat' (first | exact trivial | exact Or.inl rfl | exact Or.inr (Or.inl ⟨rfl,_,rfl⟩) | exact Or.inr (Or.inr (Or.inr ⟨_,_,_,rfl,rfl⟩)) | refine And.intro ?_ ?_))
 rintro i ⟨hi,hI⟩
 refine And.intro (fun hz=>?_) (fun hz=>?_)
 ·have hi:=ltD hz
  have hg:=getI (τ:=.typ) hi
  refine And.intro ⟨by omega,by omega⟩ ?_
  rw [hg]
  have hiA:i < (allP s).length:=by omega
  have eT:((allP s).map (·.t))[i] = (allP s)[i].t:=by rw [List.getElem_map]
  rw [eT]
  have hx:=List.getElem_mem hiA
  have hxc:=ct_all hB _ hx
  have hxt:=hmem _ hx
  have hxn:=tyN_all _ hx
  rw [List.drop_eq_getElem_cons hiA,List.any_cons] at hI
  generalize (allP s)[i].t = t at hI hxc hxt hxn
  have hdc:dcl s.defs t = (decide (t.kind = 11) && (List.range 7).any fun j=>decide (1 < t.t.countP fun x=>tl s.defs x j)):=rfl
  by_cases k1:t.kind = 11
  rotate_left
  ·rw [hdc,decide_eq_false k1,Bool.false_and,Bool.false_or] at hI
   (repeat' (first | (refine And.intro (fun h=>?_) (fun h=>?_)<;>(try simp [-List.getD_eq_getElem?_getD,-Int.pred_toNat] at h)<;>(try (exfalso; first | omega | contradiction))) | (refine And.intro (rng64 (by omega) (by omega)) ?_) | (refine And.intro ⟨by omega,by omega⟩ ?_) | (refine And.intro ⟨by omega,by omega,by omega⟩ ?_) | (intro _)))
   refine Exists.intro [] (Exists.intro (i + 1) (And.intro ⟨by omega,hI⟩ (And.intro ?_ ?_)))
   ·(repeat' (first | exact trivial | exact Or.inl rfl | exact Or.inr (Or.inl ⟨rfl,_,rfl⟩) | exact Or.inr (Or.inr (Or.inr ⟨_,_,_,rfl,rfl⟩)) | refine And.intro ?_ ?_))
   ·(exact Nat.sub_lt_sub_left (by omega) (by omega))
  rw [decide_eq_true k1,Bool.true_and] at hdc
  (repeat' (first | (refine And.intro (fun h=>?_) (fun h=>?_)<;>(try simp [-List.getD_eq_getElem?_getD,-Int.pred_toNat] at h)<;>(try (exfalso; first | omega | contradiction))) | (refine And.intro (rng64 (by omega) (by omega)) ?_) | (refine And.intro ⟨by omega,by omega⟩ ?_) | (refine And.intro ⟨by omega,by omega,by omega⟩ ?_) | (intro _)))
  refine Exists.intro [] (Exists.intro [] (Exists.intro [] (Exists.intro Nat (Exists.intro (fun k=>k≤7∧∀ j,j < k→¬ 1 < t.t.countP fun x=>tl s.defs x j) (Exists.intro (fun k=>⟨[(1,.pt 1 0),(17,.pt 17 0),(96,.rd .typ ((allP s).map (·.t))),(97,.i .i64 ((allP s).map (·.t)).length),(98,.i .i64 i),(105,.i .i64 k)],[(1,encSch s),(17,encTyp t)]⟩) (Exists.intro (fun k=>7 - k) (Exists.intro 0 (And.intro ⟨by decide,fun j h=>absurd h (Nat.not_lt_zero _)⟩ (And.intro ?_ ?_)))))))))
  ·(repeat' (first | exact trivial | exact Or.inl rfl | exact Or.inr (Or.inl ⟨rfl,_,rfl⟩) | exact Or.inr (Or.inr (Or.inr ⟨_,_,_,rfl,rfl⟩)) | refine And.intro ?_ ?_))
  rintro k ⟨hk,hK⟩
  refine And.intro (fun hz=>?_) (fun hz=>?_)
  ·have hk7:k < 7:=by have:(k:Int) < 7:=of_decide_eq_true hz; omega
   have htl:=(by cases hxt; omega:t.t.length≤2000000)
   (repeat' (first | (refine And.intro (fun h=>?_) (fun h=>?_)<;>(try simp [-List.getD_eq_getElem?_getD,-Int.pred_toNat] at h)<;>(try (exfalso; first | omega | contradiction))) | (refine And.intro (rng64 (by omega) (by omega)) ?_) | (refine And.intro ⟨by omega,by omega⟩ ?_) | (refine And.intro ⟨by omega,by omega,by omega⟩ ?_) | (intro _)))
   refine Exists.intro [] (Exists.intro [] (Exists.intro [] (Exists.intro (Nat × Nat) (Exists.intro (fun q=>q.1≤t.t.length∧q.2 + (t.t.drop q.1).countP (fun x=>tl s.defs x k) = t.t.countP (fun x=>tl s.defs x k)) (Exists.intro (fun ⟨u,m⟩=>⟨[(1,.pt 1 0),(17,.pt 17 0),(18,.i .i64 k),(19,.i .i64 (m:Int)),(96,.rd .typ ((allP s).map (·.t))),(97,.i .i64 ((allP s).map (·.t)).length),(98,.i .i64 i),(105,.i .i64 k),(109,.rd .typ t.t),(110,.i .i64 t.t.length),(111,.i .i64 u)],[(1,encSch s),(17,encTyp t)]⟩) (Exists.intro (fun q=>t.t.length - q.1) (Exists.intro (0,0) (And.intro ⟨Nat.zero_le _,Nat.zero_add _⟩ (And.intro ?_ ?_)))))))))
   ·(repeat' (first | exact trivial | exact Or.inl rfl | exact Or.inr (Or.inl ⟨rfl,_,rfl⟩) | exact Or.inr (Or.inr (Or.inr ⟨_,_,_,rfl,rfl⟩)) | refine And.intro ?_ ?_))
   rintro ⟨u,m⟩ ⟨hu,hM⟩
   dsimp only at hu hM
   have hmb:m≤2000000:=by have:=List.countP_le_length (p:=fun x=>tl s.defs x k) (l:=t.t); omega
   refine And.intro (fun hz2=>?_) (fun hz2=>?_)
   ·have hu:=ltD hz2
    have hg:=getI (τ:=.typ) hu
    have hxm:=List.getElem_mem hu
    have hin:t.t[u] ∈ Ty.inside t:=List.mem_append_left _ hxm
    have hyc:=hxc.part _ hxm
    have hyt:=hxt.inside _ hin
    have hyn:=tyN_in hin
    have hty:=hB.types
    have hRe:=s_reached s hB.defs hB.many t.t[u] hyc hyt (by have:=rest_le (w:=fun d=>tyN d.t) (l:=s.defs) (es:=[]) (fs:=[]) fun _ h=>h; omega)
    have hpart:=come_part (fun d hd=>(hB.defs d hd).1) (need s.defs t.t[u] [] + 1) t.t[u] [] hyc
    rw [List.drop_eq_getElem_cons hu,List.countP_cons] at hM
    have htl9:tl s.defs t.t[u] k = (comeA s.defs t.t[u]).1.any fun y=>tellsK y.kind (k:Int):=rfl
    have hlen:=come_wt (fun d hd=>(hB.defs d hd).1) (need s.defs t.t[u] [] + 1) t.t[u] [] hyc
    have hlen:(comeA s.defs t.t[u]).1.length≤200000:=by
     have:(comeA s.defs t.t[u]).1.length + _≤_:=hlen
     omega
    have hpart:∀ y ∈ (comeA s.defs t.t[u]).1,isPart y:=hpart
    refine And.intro ⟨by omega,by omega⟩ ?_
    rw [hg]
    (repeat' (first | (refine And.intro (fun h=>?_) (fun h=>?_)<;>(try simp [-List.getD_eq_getElem?_getD,-Int.pred_toNat] at h)<;>(try (exfalso; first | omega | contradiction))) | (refine And.intro (rng64 (by omega) (by omega)) ?_) | (refine And.intro ⟨by omega,by omega⟩ ?_) | (refine And.intro ⟨by omega,by omega,by omega⟩ ?_) | (intro _)))
    refine Or.inr (Or.inl (Exists.intro [] (Exists.intro _ (Exists.intro _ (Exists.intro _ (Exists.intro _ (Exists.intro _ (Exists.intro [(1000,119),(1001,120)] (And.intro (hRe) ?_)))))))))
    refine (And.intro rfl (And.intro rfl (And.intro rfl (And.intro rfl ?_))))
    generalize (comeA s.defs t.t[u]).1 = ps at htl9 hlen hpart
    (repeat' (first | (refine And.intro (fun h=>?_) (fun h=>?_)<;>(try simp [-List.getD_eq_getElem?_getD,-Int.pred_toNat] at h)<;>(try (exfalso; first | omega | contradiction))) | (refine And.intro (rng64 (by omega) (by omega)) ?_) | (refine And.intro ⟨by omega,by omega⟩ ?_) | (refine And.intro ⟨by omega,by omega,by omega⟩ ?_) | (intro _)))
    refine Exists.intro [] (Exists.intro [] (Exists.intro [(999,120)] (Exists.intro (Nat × Nat) (Exists.intro (fun q=>q.1≤ps.length∧q.2≤1∧tl s.defs t.t[u] k = (decide (q.2 = 1) || (ps.drop q.1).any fun y=>tellsK y.kind (k:Int))) (Exists.intro (fun ⟨v,b⟩=>⟨[(1,.pt 1 0),(17,.pt 17 0),(18,.i .i64 k),(19,.i .i64 (m:Int)),(24,.i .i64 (b:Int)),(96,.rd .typ ((allP s).map (·.t))),(97,.i .i64 ((allP s).map (·.t)).length),(98,.i .i64 i),(105,.i .i64 k),(109,.rd .typ t.t),(110,.i .i64 t.t.length),(111,.i .i64 u),(121,.rd .typ ps),(122,.i .i64 ps.length),(123,.i .i64 v)],[(1,encSch s),(17,encTyp t)]⟩) (Exists.intro (fun q=>ps.length - q.1) (Exists.intro (0,0) (And.intro ⟨Nat.zero_le _,Nat.zero_le _,htl9⟩ (And.intro ?_ ?_)))))))))
    ·(repeat' (first | exact trivial | exact Or.inl rfl | exact Or.inr (Or.inl ⟨rfl,_,rfl⟩) | exact Or.inr (Or.inr (Or.inr ⟨_,_,_,rfl,rfl⟩)) | refine And.intro ?_ ?_))
    rintro ⟨v,b⟩ ⟨hv,hb1,hV⟩
    dsimp only at hv hV hb1
    refine And.intro (fun hz3=>?_) (fun hz3=>?_)
    ·have hv:=ltD hz3
     have hg:=getI (τ:=.typ) hv
     have hT:=s_tells ps[v] (k:Int) (by omega) (by omega)
     rw [List.drop_eq_getElem_cons hv,List.any_cons] at hV
     generalize tellsK ps[v].kind (k:Int) = q at hV hT
     refine And.intro ⟨by omega,by omega⟩ ?_
     rw [hg]
     (repeat' (first | (refine And.intro (fun h=>?_) (fun h=>?_)<;>(try simp [-List.getD_eq_getElem?_getD,-Int.pred_toNat] at h)<;>(try (exfalso; first | omega | contradiction))) | (refine And.intro (rng64 (by omega) (by omega)) ?_) | (refine And.intro ⟨by omega,by omega⟩ ?_) | (refine And.intro ⟨by omega,by omega,by omega⟩ ?_) | (intro _)))
     refine Or.inl (Exists.intro _ (And.intro (hT) ?_))
     cases q with
     | true =>
      rw [Bool.true_or,Bool.or_true] at hV
      (repeat' (first | (refine And.intro (fun h=>?_) (fun h=>?_)<;>(try simp [-List.getD_eq_getElem?_getD,-Int.pred_toNat] at h)<;>(try (exfalso; first | omega | contradiction))) | (refine And.intro (rng64 (by omega) (by omega)) ?_) | (refine And.intro ⟨by omega,by omega⟩ ?_) | (refine And.intro ⟨by omega,by omega,by omega⟩ ?_) | (intro _)))
      refine Exists.intro [] (Exists.intro (v + 1,1) (And.intro ⟨hv,Nat.le_refl _,hV⟩ (And.intro ?_ ?_)))
      ·(repeat' (first | exact trivial | exact Or.inl rfl | exact Or.inr (Or.inl ⟨rfl,_,rfl⟩) | exact Or.inr (Or.inr (Or.inr ⟨_,_,_,rfl,rfl⟩)) | refine And.intro ?_ ?_))
      ·(exact Nat.sub_lt_sub_left (by omega) (by omega))
     | false =>
      rw [Bool.false_or] at hV
      (repeat' (first | (refine And.intro (fun h=>?_) (fun h=>?_)<;>(try simp [-List.getD_eq_getElem?_getD,-Int.pred_toNat] at h)<;>(try (exfalso; first | omega | contradiction))) | (refine And.intro (rng64 (by omega) (by omega)) ?_) | (refine And.intro ⟨by omega,by omega⟩ ?_) | (refine And.intro ⟨by omega,by omega,by omega⟩ ?_) | (intro _)))
      refine Exists.intro [] (Exists.intro (v + 1,b) (And.intro ⟨hv,hb1,hV⟩ (And.intro ?_ ?_)))
      ·(repeat' (first | exact trivial | exact Or.inl rfl | exact Or.inr (Or.inl ⟨rfl,_,rfl⟩) | exact Or.inr (Or.inr (Or.inr ⟨_,_,_,rfl,rfl⟩)) | refine And.intro ?_ ?_))
      ·(exact Nat.sub_lt_sub_left (by omega) (by omega))
    ·have hv:=geD hv hz3
     rw [List.drop_eq_nil_of_le (by omega),List.any_nil,Bool.or_false] at hV
     rw [hV] at hM
     have hM:m + b + (t.t.drop (u + 1)).countP (fun x=>tl s.defs x k) = t.t.countP (fun x=>tl s.defs x k):=by
      rcases (show b = 0∨b = 1 by omega) with rfl | rfl
      ·rw [if_neg (fun h=>absurd (of_decide_eq_true h) (by omega))] at hM
       omega
      ·rw [if_pos (decide_eq_true rfl)] at hM
       omega
     (repeat' (first | (refine And.intro (fun h=>?_) (fun h=>?_)<;>(try simp [-List.getD_eq_getElem?_getD,-Int.pred_toNat] at h)<;>(try (exfalso; first | omega | contradiction))) | (refine And.intro (rng64 (by omega) (by omega)) ?_) | (refine And.intro ⟨by omega,by omega⟩ ?_) | (refine And.intro ⟨by omega,by omega,by omega⟩ ?_) | (intro _)))
     refine Exists.intro [] (Exists.intro (u + 1,m + b) (And.intro ⟨hu,hM⟩ (And.intro ?_ ?_)))
     ·(repeat' (first | exact trivial | exact Or.inl rfl | exact Or.inr (Or.inl ⟨rfl,_,rfl⟩) | exact Or.inr (Or.inr (Or.inr ⟨_,_,_,rfl,rfl⟩)) | refine And.intro ?_ ?_))
     ·(exact Nat.sub_lt_sub_left (by omega) (by omega))
   ·have hu:=geD hu hz2
    rw [List.drop_eq_nil_of_le (by omega),List.countP_nil,Nat.add_zero] at hM
    by_cases k2:1 < m
    ·have : dcl s.defs t = true := by
      rw [hdc]
      exact List.any_eq_true.2 ⟨k,List.mem_range.2 hk7,decide_eq_true (by rw [← hM]; exact k2)⟩
     rw [this,Bool.true_or,if_pos rfl] at hI
     rw [hI]
     (repeat' (first | (refine And.intro (fun h=>?_) (fun h=>?_)<;>(try simp [-List.getD_eq_getElem?_getD,-Int.pred_toNat] at h)<;>(try (exfalso; first | omega | contradiction))) | (refine And.intro (rng64 (by omega) (by omega)) ?_) | (refine And.intro ⟨by omega,by omega⟩ ?_) | (refine And.intro ⟨by omega,by omega,by omega⟩ ?_) | (intro _)))
     rfl
    ·(repeat' (first | (refine And.intro (fun h=>?_) (fun h=>?_)<;>(try simp [-List.getD_eq_getElem?_getD,-Int.pred_toNat] at h)<;>(try (exfalso; first | omega | contradiction))) | (refine And.intro (rng64 (by omega) (by omega)) ?_) | (refine And.intro ⟨by omega,by omega⟩ ?_) | (refine And.intro ⟨by omega,by omega,by omega⟩ ?_) | (intro _)))
     have hK2:∀ j,j < k + 1→¬ 1 < t.t.countP fun x=>tl s.defs x j:=fun j hj=>by
      rcases Nat.lt_succ_iff_lt_or_eq.1 hj with h1 | rfl
      ·exact hK j h1
      ·rw [← hM]; exact k2
     refine Exists.intro [] (Exists.intro (k + 1) (And.intro ⟨hk7,hK2⟩ (And.intro ?_ ?_)))
     ·(repeat' (first | exact trivial | exact Or.inl rfl | exact Or.inr (Or.inl ⟨rfl,_,rfl⟩) | exact Or.inr (Or.inr (Or.inr ⟨_,_,_,rfl,rfl⟩)) | refine And.intro ?_ ?_))
     ·(exact Nat.sub_lt_sub_left (by omega) (by omega))
  ·have hk7:k = 7:=by have:¬ (k:Int) < 7:=of_decide_eq_false hz; omega
   have:dcl s.defs t = false:=by
    rw [hdc,List.any_eq_false]
    intro j hj
    rw [decide_eq_true_eq]
    exact hK j (by rw [hk7]; exact List.mem_range.1 hj)
   rw [this,Bool.false_or] at hI
   (repeat' (first | (refine And.intro (fun h=>?_) (fun h=>?_)<;>(try simp [-List.getD_eq_getElem?_getD,-Int.pred_toNat] at h)<;>(try (exfalso; first | omega | contradiction))) | (refine And.intro (rng64 (by omega) (by omega)) ?_) | (refine And.intro ⟨by omega,by omega⟩ ?_) | (refine And.intro ⟨by omega,by omega,by omega⟩ ?_) | (intro _)))
   refine Exists.intro [] (Exists.intro (i + 1) (And.intro ⟨by omega,hI⟩ (And.intro ?_ ?_)))
   ·(repeat' (first | exact trivial | exact Or.inl rfl | exact Or.inr (Or.inl ⟨rfl,_,rfl⟩) | exact Or.inr (Or.inr (Or.inr ⟨_,_,_,rfl,rfl⟩)) | refine And.intro ?_ ?_))
   ·(exact Nat.sub_lt_sub_left (by omega) (by omega))
 (have hi:=geD hi hz)
 rw [List.drop_eq_nil_of_le (by omega)] at hI
 have hI:R = 0:=hI
 rw [hI]
 (repeat' (first | (refine And.intro (fun h=>?_) (fun h=>?_)<;>(try simp [-List.getD_eq_getElem?_getD,-Int.pred_toNat] at h)<;>(try (exfalso; first | omega | contradiction))) | (refine And.intro (rng64 (by omega) (by omega)) ?_) | (refine And.intro ⟨by omega,by omega⟩ ?_) | (refine And.intro ⟨by omega,by omega,by omega⟩ ?_) | (intro _)))
 rfl
theorem s_schemaFault (hu:HasU8) (s:SchemaR) (hd:∀ d ∈ s.defs,TB d.t) (hr:TB s.root) (hn:s.defs.length≤2000000):PSpec Tryd.prog 33 [.agg (encSch s)] (.i .i64 (checkS s)) :=
 pspec_of_vc Γ_good Tryd.func33 rfl Tryd.call33 Tryd.results33 Tryd.ntmps33 (Nat.le_of_ble_eq_true rfl) (w_schemaFault hu s hd hr hn)
end
end Go.Proofs.YtdcdmojbkmedpaaDoor
end
section
namespace Go.Proofs.YtdcdmojbkmedpaaDoor
open Go Go.SX Go.Ck Go.Vl Go.Ut Go.Ty
set_option maxRecDepth 100000
set_option maxHeartbeats 8000000
theorem eqL_self {α:Type} {f:α→α→Bool}:∀ l:List α,(∀ x ∈ l,f x x = true)→Ty.eqL f l l = true
 | [],_=>rfl
 | x::r,h=>by rw [Ty.eqL,h x (List.mem_cons_self ..),eqL_self r fun y hy=>h y (List.mem_cons_of_mem _ hy)]; rfl
theorem sameT_self:∀ (k:Nat) (t:TypR),SizeOf.sizeOf t < k→TB t→sameT t t = true:=by
 intro k
 induction k with
 | zero=>intro t h; exact absurd h (Nat.not_lt_zero _)
 | succ k ih =>
  intro t h hb
  have hin:=hb.inside
  rw [sameT_eq,beq_self_eq_true,beq_self_eq_true,beq_self_eq_true,decide_eq_true rfl,eqL_self t.texts fun x _=>decide_eq_true rfl,eqL_self t.t fun x hx=>ih x (by have:=size_inside (t:=t) (x:=x) (List.mem_append_left _ hx); omega) (hin x (List.mem_append_left _ hx)),eqL_self t.f fun x hx=>?_]
  ·rfl
  ·have hm:x.t ∈ Ty.inside t:=List.mem_append_right _ (List.mem_map.2 ⟨x,hx,rfl⟩)
   rw [sameP_eq,decide_eq_true rfl,beq_self_eq_true,beq_self_eq_true,ih x.t (by have:=size_inside hm; omega) (hin _ hm),beq_iff_eq.2 (cmpV_self _)]
   rfl
section
variable [G:Globs]
theorem s_SameR:∀ (k:Nat) (a b:TypR),SizeOf.sizeOf a < k→TB a→TB b→PSpec Tryd.prog 38 [.agg (encTyp a),.agg (encTyp b)] (.b (sameT a b)):=by
 intro k
 induction k with
 | zero=>intro a b h; exact absurd h (Nat.not_lt_zero _)
 | succ k ih =>
  intro a b h ha hb
  exact s_sameR a b ha hb fun x hx y hy=>ih x y (by have:=size_inside hx; omega) (ha.inside x hx) (hb.inside y hy)
theorem w_ixT (l:List TypR) (hl:l.length≤2000000) (g:Nat) (n:Int) (q:TypR→Bool) (hc:∀ x ∈ l,CSpec Tryd.prog g [.agg (encTyp x),.pt 1000 0] [(1000,[.i .i64 n])] (.b (q x)) [(1000,[.i .i64 n])]):vc Tryd.prog Γ 19 [0,1,4,5,7,8,9,16,1000] (Tryd.f105.body.getD .skip) (postBK Γ [.tmp 4] (.i .i64 (if l.any q = true then (l.findIdx q:Nat) else -1)) [(1000,[.i .i64 n])]) ⟨argSlots 0 [.rd .typ l,.fn g [.pt 1000 0]],[(1000,[.i .i64 n])]⟩:=by
 generalize hR:(if l.any q = true then ((l.findIdx q:Nat):Int) else -1) = R
 (repeat' (first | (refine And.intro (fun h=>?_) (fun h=>?_)<;>(try simp [-List.getD_eq_getElem?_getD,-Int.pred_toNat] at h)<;>(try (exfalso; first | omega | contradiction))) | (refine And.intro (rng64 (by omega) (by omega)) ?_) | (refine And.intro ⟨by omega,by omega⟩ ?_) | (refine And.intro ⟨by omega,by omega,by omega⟩ ?_) | (intro _)))
 refine Exists.intro [] (Exists.intro [] (Exists.intro [] (Exists.intro Nat (Exists.intro (fun i=>i≤(l).length∧(∀ j,j < i→∀ h:j < l.length,q l[j] = false)) (Exists.intro (fun i=>⟨[(0,.rd .typ l),(1,.fn g [.pt 1000 0]),(7,.i .i64 l.length),(8,.i .i64 i)],[(1000,[.i .i64 n])]⟩) (Exists.intro (fun i=>(l).length - i) (Exists.intro 0 (And.intro ⟨Nat.zero_le _,(fun j h=>absurd h (Nat.not_lt_zero _))⟩ (And.intro ?_ ?_)))))))))
 ·(repeat' (first | exact trivial | exact Or.inl rfl | exact Or.inr (Or.inl ⟨rfl,_,rfl⟩) | exact Or.inr (Or.inr (Or.inr ⟨_,_,_,rfl,rfl⟩)) | refine And.intro ?_ ?_))
 rintro i ⟨hi,hI⟩
 refine And.intro (fun hz=>?_) (fun hz=>?_)
 ·have hi:=ltD hz
  have hg:=getI (τ:=.typ) hi
  have hC:=hc l[i] (List.getElem_mem hi)
  refine And.intro ⟨by omega,by omega⟩ ?_
  rw [hg]
  (repeat' (first | (refine And.intro (fun h=>?_) (fun h=>?_)<;>(try simp [-List.getD_eq_getElem?_getD,-Int.pred_toNat] at h)<;>(try (exfalso; first | omega | contradiction))) | (refine And.intro (rng64 (by omega) (by omega)) ?_) | (refine And.intro ⟨by omega,by omega⟩ ?_) | (refine And.intro ⟨by omega,by omega,by omega⟩ ?_) | (intro _)))
  refine Or.inr (Or.inl (Exists.intro [] (Exists.intro _ (Exists.intro _ (Exists.intro _ (Exists.intro _ (Exists.intro _ (Exists.intro [(1000,1000)] (And.intro (hC) ?_)))))))))
  refine (And.intro rfl (And.intro rfl (And.intro rfl (And.intro rfl (And.intro rfl ?_)))))
  cases hq:q l[i] with
  | true =>
   have e1:l.any q = true:=List.any_eq_true.2 ⟨_,List.getElem_mem hi,hq⟩
   have e2:l.findIdx q = i:=List.findIdx_eq hi |>.2 ⟨hq,fun j hj=>hI j hj (by omega)⟩
   rw [e1,if_pos rfl,e2] at hR
   rw [← hR]
   (repeat' (first | (refine And.intro (fun h=>?_) (fun h=>?_)<;>(try simp [-List.getD_eq_getElem?_getD,-Int.pred_toNat] at h)<;>(try (exfalso; first | omega | contradiction))) | (refine And.intro (rng64 (by omega) (by omega)) ?_) | (refine And.intro ⟨by omega,by omega⟩ ?_) | (refine And.intro ⟨by omega,by omega,by omega⟩ ?_) | (intro _)))
   exact Exists.intro [] (And.intro rfl (by (repeat' (first | exact trivial | exact Or.inl rfl | exact Or.inr (Or.inl ⟨rfl,_,rfl⟩) | exact Or.inr (Or.inr (Or.inr ⟨_,_,_,rfl,rfl⟩)) | refine And.intro ?_ ?_))))
  | false =>
   have hI2:∀ j,j < i + 1→∀ h:j < l.length,q l[j] = false:=fun j hj h=>by
    rcases Nat.lt_succ_iff_lt_or_eq.1 hj with h1 | rfl
    ·exact hI j h1 h
    ·exact hq
   (repeat' (first | (refine And.intro (fun h=>?_) (fun h=>?_)<;>(try simp [-List.getD_eq_getElem?_getD,-Int.pred_toNat] at h)<;>(try (exfalso; first | omega | contradiction))) | (refine And.intro (rng64 (by omega) (by omega)) ?_) | (refine And.intro ⟨by omega,by omega⟩ ?_) | (refine And.intro ⟨by omega,by omega,by omega⟩ ?_) | (intro _)))
   refine Exists.intro [] (Exists.intro (i + 1) (And.intro ⟨hi,hI2⟩ (And.intro ?_ ?_)))
   ·(repeat' (first | exact trivial | exact Or.inl rfl | exact Or.inr (Or.inl ⟨rfl,_,rfl⟩) | exact Or.inr (Or.inr (Or.inr ⟨_,_,_,rfl,rfl⟩)) | refine And.intro ?_ ?_))
   ·(exact Nat.sub_lt_sub_left (by omega) (by omega))
 ·(have hi:=geD hi hz)
  have e1:l.any q = false:=by
   rw [List.any_eq_false]
   intro x hx
   obtain ⟨j,hj,rfl⟩:=List.getElem_of_mem hx
   rw [hI j (by omega) hj]
   decide
  rw [e1,if_neg (by decide)] at hR
  rw [← hR]
  exact Exists.intro [] (And.intro rfl (by (repeat' (first | exact trivial | exact Or.inl rfl | exact Or.inr (Or.inl ⟨rfl,_,rfl⟩) | exact Or.inr (Or.inr (Or.inr ⟨_,_,_,rfl,rfl⟩)) | refine And.intro ?_ ?_))))
theorem s_ixT (l:List TypR) (hl:l.length≤2000000) (g:Nat) (n:Int) (q:TypR→Bool) (hc:∀ x ∈ l,CSpec Tryd.prog g [.agg (encTyp x),.pt 1000 0] [(1000,[.i .i64 n])] (.b (q x)) [(1000,[.i .i64 n])]):CSpec Tryd.prog 105 [.rd .typ l,.fn g [.pt 1000 0]] [(1000,[.i .i64 n])] (.i .i64 (if l.any q = true then (l.findIdx q:Nat) else -1)) [(1000,[.i .i64 n])] :=
 cspec_of_vc Γ_good Tryd.func105 rfl Tryd.call105 Tryd.results105 Tryd.ntmps105 (Nat.le_of_ble_eq_true rfl) (Nat.le_of_ble_eq_true rfl) (by rfl) (w_ixT l hl g n q hc)
theorem w_cfT (l:List TypR) (hl:l.length≤2000000) (g:Nat) (n:Int) (q:TypR→Bool) (hc:∀ x ∈ l,CSpec Tryd.prog g [.agg (encTyp x),.pt 1000 0] [(1000,[.i .i64 n])] (.b (q x)) [(1000,[.i .i64 n])]):vc Tryd.prog Γ 9 [0,1,4,1000] (Tryd.f40.body.getD .skip) (postBK Γ [.tmp 4] (.b (l.any q)) [(1000,[.i .i64 n])]) ⟨argSlots 0 [.rd .typ l,.fn g [.pt 1000 0]],[(1000,[.i .i64 n])]⟩:=by
 have hC:=s_ixT l hl g n q hc
 have hR:(decide (0≤(if l.any q = true then ((l.findIdx q:Nat):Int) else -1))) = l.any q:=by
  cases l.any q with
  | true=>rw [if_pos rfl]; exact decide_eq_true (Int.natCast_nonneg _)
  | false=>rw [if_neg (by decide)]; rfl
 generalize (if l.any q = true then ((l.findIdx q:Nat):Int) else -1) = r at hC hR
 generalize l.any q = b at hR ⊢
 (repeat' (first | (refine And.intro (fun h=>?_) (fun h=>?_)<;>(try simp [-List.getD_eq_getElem?_getD,-Int.pred_toNat] at h)<;>(try (exfalso; first | omega | contradiction))) | (refine And.intro (rng64 (by omega) (by omega)) ?_) | (refine And.intro ⟨by omega,by omega⟩ ?_) | (refine And.intro ⟨by omega,by omega,by omega⟩ ?_) | (intro _)))
 refine Or.inr (Or.inl (Exists.intro [] (Exists.intro _ (Exists.intro _ (Exists.intro _ (Exists.intro _ (Exists.intro _ (Exists.intro [(1000,1000)] (And.intro (hC) ?_)))))))))
 refine (And.intro rfl (And.intro rfl (And.intro rfl (And.intro rfl (And.intro rfl ?_)))))
 rw [← hR]
 (repeat' (first | (refine And.intro (fun h=>?_) (fun h=>?_)<;>(try simp [-List.getD_eq_getElem?_getD,-Int.pred_toNat] at h)<;>(try (exfalso; first | omega | contradiction))) | (refine And.intro (rng64 (by omega) (by omega)) ?_) | (refine And.intro ⟨by omega,by omega⟩ ?_) | (refine And.intro ⟨by omega,by omega,by omega⟩ ?_) | (intro _)))
 exact Exists.intro [] (And.intro rfl (by (repeat' (first | exact trivial | exact Or.inl rfl | exact Or.inr (Or.inl ⟨rfl,_,rfl⟩) | exact Or.inr (Or.inr (Or.inr ⟨_,_,_,rfl,rfl⟩)) | refine And.intro ?_ ?_))))
theorem s_cfT (l:List TypR) (hl:l.length≤2000000) (g:Nat) (n:Int) (q:TypR→Bool) (hc:∀ x ∈ l,CSpec Tryd.prog g [.agg (encTyp x),.pt 1000 0] [(1000,[.i .i64 n])] (.b (q x)) [(1000,[.i .i64 n])]):CSpec Tryd.prog 40 [.rd .typ l,.fn g [.pt 1000 0]] [(1000,[.i .i64 n])] (.b (l.any q)) [(1000,[.i .i64 n])] :=
 cspec_of_vc Γ_good Tryd.func40 rfl Tryd.call40 Tryd.results40 Tryd.ntmps40 (Nat.le_of_ble_eq_true rfl) (Nat.le_of_ble_eq_true rfl) (by rfl) (w_cfT l hl g n q hc)
theorem w_lawK (t:TypR) (n:Int) (h0:0≤n) (h1:n≤6):vc Tryd.prog Γ 7 [1,2,3,1000] (Tryd.f41.body.getD .skip) (postBK Γ [.tmp 3] (.b (tellsK t.kind n)) [(1000,[.i .i64 n])]) ⟨argSlots 0 [.agg (encTyp t),.pt 1000 0],[(1000,[.i .i64 n])]⟩:=by
 have hC:=s_tells t n h0 h1
 (repeat' (first | (refine And.intro (fun h=>?_) (fun h=>?_)<;>(try simp [-List.getD_eq_getElem?_getD,-Int.pred_toNat] at h)<;>(try (exfalso; first | omega | contradiction))) | (refine And.intro (rng64 (by omega) (by omega)) ?_) | (refine And.intro ⟨by omega,by omega⟩ ?_) | (refine And.intro ⟨by omega,by omega,by omega⟩ ?_) | (intro _)))
 refine Or.inl (Exists.intro _ (And.intro (hC) ?_))
 (repeat' (first | (refine And.intro (fun h=>?_) (fun h=>?_)<;>(try simp [-List.getD_eq_getElem?_getD,-Int.pred_toNat] at h)<;>(try (exfalso; first | omega | contradiction))) | (refine And.intro (rng64 (by omega) (by omega)) ?_) | (refine And.intro ⟨by omega,by omega⟩ ?_) | (refine And.intro ⟨by omega,by omega,by omega⟩ ?_) | (intro _)))
 exact Exists.intro [] (And.intro rfl (by (repeat' (first | exact trivial | exact Or.inl rfl | exact Or.inr (Or.inl ⟨rfl,_,rfl⟩) | exact Or.inr (Or.inr (Or.inr ⟨_,_,_,rfl,rfl⟩)) | refine And.intro ?_ ?_))))
theorem s_lawK (t:TypR) (n:Int) (h0:0≤n) (h1:n≤6):CSpec Tryd.prog 41 [.agg (encTyp t),.pt 1000 0] [(1000,[.i .i64 n])] (.b (tellsK t.kind n)) [(1000,[.i .i64 n])] :=
 cspec_of_vc Γ_good Tryd.func41 rfl Tryd.call41 Tryd.results41 Tryd.ntmps41 (Nat.le_of_ble_eq_true rfl) (Nat.le_of_ble_eq_true rfl) (by rfl) (w_lawK t n h0 h1)
theorem w_sameTs (l:List TypR) (hl:l.length≤2000000) (hb:∀ x ∈ l,TB x):vc Tryd.prog Γ 8 [0,1,4] (Tryd.f43.body.getD .skip) (postK Γ [.tmp 4] (fun v=>v = .b true)) ⟨argSlots 0 [.rd .typ l,.rd .typ l],[]⟩:=by
 have hC:=s_eqTyp l l hl sameT 38 fun x hx y hy=>s_SameR _ x y (Nat.lt_succ_self _) (hb x hx) (hb y hy)
 rw [eqL_self l fun x hx=>sameT_self _ x (Nat.lt_succ_self _) (hb x hx)] at hC
 (repeat' (first | (refine And.intro (fun h=>?_) (fun h=>?_)<;>(try simp [-List.getD_eq_getElem?_getD,-Int.pred_toNat] at h)<;>(try (exfalso; first | omega | contradiction))) | (refine And.intro (rng64 (by omega) (by omega)) ?_) | (refine And.intro ⟨by omega,by omega⟩ ?_) | (refine And.intro ⟨by omega,by omega,by omega⟩ ?_) | (intro _)))
 refine Or.inl (Exists.intro _ (And.intro (hC) ?_))
 (repeat' (first | (refine And.intro (fun h=>?_) (fun h=>?_)<;>(try simp [-List.getD_eq_getElem?_getD,-Int.pred_toNat] at h)<;>(try (exfalso; first | omega | contradiction))) | (refine And.intro (rng64 (by omega) (by omega)) ?_) | (refine And.intro ⟨by omega,by omega⟩ ?_) | (refine And.intro ⟨by omega,by omega,by omega⟩ ?_) | (intro _)))
 rfl
theorem s_sameTs (l:List TypR) (hl:l.length≤2000000) (hb:∀ x ∈ l,TB x):PSpec Tryd.prog 43 [.rd .typ l,.rd .typ l] (.b true) :=
 pspec_of_vc Γ_good Tryd.func43 rfl Tryd.call43 Tryd.results43 Tryd.ntmps43 (Nat.le_of_ble_eq_true rfl) (w_sameTs l hl hb)
theorem w_eqInt (l:List Int) (hl:l.length≤1000000):vc Tryd.prog Γ 26 [0,1,4,5,10,12,13,14,24] (Tryd.f44.body.getD .skip) (postK Γ [.tmp 4] (fun v=>v = .b true)) ⟨argSlots 0 [.rd .int l,.rd .int l],[]⟩:=by
 (repeat' (first | (refine And.intro (fun h=>?_) (fun h=>?_)<;>(try simp [-List.getD_eq_getElem?_getD,-Int.pred_toNat] at h)<;>(try (exfalso; first | omega | contradiction))) | (refine And.intro (rng64 (by omega) (by omega)) ?_) | (refine And.intro ⟨by omega,by omega⟩ ?_) | (refine And.intro ⟨by omega,by omega,by omega⟩ ?_) | (intro _)))
 refine Exists.intro [] (Exists.intro [] (Exists.intro [] (Exists.intro Nat (Exists.intro (fun i=>i≤(l).length) (Exists.intro (fun i=>⟨[(0,.rd .int l),(1,.rd .int l),(12,.i .i64 l.length),(13,.i .i64 i)],[]⟩) (Exists.intro (fun i=>(l).length - i) (Exists.intro 0 (And.intro (Nat.zero_le _) (And.intro ?_ ?_)))))))))
 ·(repeat' (first | exact trivial | exact Or.inl rfl | exact Or.inr (Or.inl ⟨rfl,_,rfl⟩) | exact Or.inr (Or.inr (Or.inr ⟨_,_,_,rfl,rfl⟩)) | refine And.intro ?_ ?_))
 rintro i hi
 refine And.intro (fun hz=>?_) (fun hz=>?_)
 ·have hi:=ltD hz
  have hg:=getI (τ:=.int) hi
  (repeat' (first | (refine And.intro (fun h=>?_) (fun h=>?_)<;>(try simp [-List.getD_eq_getElem?_getD,-Int.pred_toNat] at h)<;>(try (exfalso; first | omega | contradiction))) | (refine And.intro (rng64 (by omega) (by omega)) ?_) | (refine And.intro ⟨by omega,by omega⟩ ?_) | (refine And.intro ⟨by omega,by omega,by omega⟩ ?_) | (intro _)))
  refine Exists.intro [.blk [0,1,2,3,4,5,6,7,8]] (And.intro (by kernel_rfl) ?_)
  refine And.intro ⟨by omega,by omega⟩ ?_
  rw [hg]
  (refine And.intro ⟨by omega,by omega⟩ ?_)
  rw [hg]
  (repeat' (first | (refine And.intro (fun h=>?_) (fun h=>?_)<;>(try simp [-List.getD_eq_getElem?_getD,-Int.pred_toNat] at h)<;>(try (exfalso; first | omega | contradiction))) | (refine And.intro (rng64 (by omega) (by omega)) ?_) | (refine And.intro ⟨by omega,by omega⟩ ?_) | (refine And.intro ⟨by omega,by omega,by omega⟩ ?_) | (intro _)))
  refine Exists.intro [] (Exists.intro (i + 1) (And.intro hi (And.intro ?_ ?_)))
  ·(repeat' (first | exact trivial | exact Or.inl rfl | exact Or.inr (Or.inl ⟨rfl,_,rfl⟩) | exact Or.inr (Or.inr (Or.inr ⟨_,_,_,rfl,rfl⟩)) | refine And.intro ?_ ?_))
  ·(exact Nat.sub_lt_sub_left (by omega) (by omega))
 ·(have hi:=geD hi hz)
  (repeat' (first | (refine And.intro (fun h=>?_) (fun h=>?_)<;>(try simp [-List.getD_eq_getElem?_getD,-Int.pred_toNat] at h)<;>(try (exfalso; first | omega | contradiction))) | (refine And.intro (rng64 (by omega) (by omega)) ?_) | (refine And.intro ⟨by omega,by omega⟩ ?_) | (refine And.intro ⟨by omega,by omega,by omega⟩ ?_) | (intro _)))
  rfl
theorem s_eqInt (l:List Int) (hl:l.length≤1000000):PSpec Tryd.prog 44 [.rd .int l,.rd .int l] (.b true) :=
 pspec_of_vc Γ_good Tryd.func44 rfl Tryd.call44 Tryd.results44 Tryd.ntmps44 (Nat.le_of_ble_eq_true rfl) (w_eqInt l hl)
end
end Go.Proofs.YtdcdmojbkmedpaaDoor
end
section
namespace Go.Proofs.YtdcdmojbkmedpaaDoor
open Go Go.SX Go.Ck Go.Vl Go.Ut Go.Ty
set_option maxRecDepth 100000
set_option maxHeartbeats 8000000
theorem kindsP_len (L:List TypR):∀ k,(kindsP L k).length≤k
 | 0=>Nat.le_refl _
 | k + 1=>by
  rw [kindsP]
  have:=kindsP_len L k
  split
  ·rw [List.length_append,List.length_cons,List.length_nil]; omega
  ·omega
section
variable [G:Globs]
theorem w_tlaw (hu:HasU8) (s:SchemaR) (t:TypR) (hd:∀ d ∈ s.defs,TB d.t) (hr:TB s.root) (hn:s.defs.length≤2000000) (hd2:∀ d ∈ s.defs,DN d.t) (hr2:DN s.root) (ht:TB t):vc Tryd.prog Γ 83 [2,3,4,5,6,7,8,9,10,11,12,49,51,64,65,69] (Tryd.f8.body.getD .skip) (postK Γ [.tmp 4] (fun v=>v = .b true)) ⟨argSlots 0 [.agg (encSch s),.agg (encTyp t)],[]⟩:=by
 have hF:=s_schemaFault hu s hd hr hn
 have hP:=s_pparts hu s hd hr hd2 hr2
 have hK:=s_tkinds hu s hd hr
 have hC:=s_tcheck hu s hd hr
 have hS:=s_Tsame hr ht
 have hR:=s_SameR _ s.root t (Nat.lt_succ_self _) hr ht
 have hB:=check_sb hd hr
 generalize checkS s = e at hF hP hK hC hB
 generalize sameT s.root t = q at hS hR
 by_cases k1:e = 0
 rotate_left
 ·rw [if_neg k1] at hP hK
  cases q
  all_goals
   (repeat' (first | (refine And.intro (fun h=>?_) (fun h=>?_)<;>(try simp [-List.getD_eq_getElem?_getD,-Int.pred_toNat] at h)<;>(try (exfalso; first | omega | contradiction))) | (refine And.intro (rng64 (by omega) (by omega)) ?_) | (refine And.intro ⟨by omega,by omega⟩ ?_) | (refine And.intro ⟨by omega,by omega,by omega⟩ ?_) | (intro _)))
   refine Or.inl (Exists.intro _ (And.intro hF ?_))
   (repeat' (first | (refine And.intro (fun h=>?_) (fun h=>?_)<;>(try simp [-List.getD_eq_getElem?_getD,-Int.pred_toNat] at h)<;>(try (exfalso; first | omega | contradiction))) | (refine And.intro (rng64 (by omega) (by omega)) ?_) | (refine And.intro ⟨by omega,by omega⟩ ?_) | (refine And.intro ⟨by omega,by omega,by omega⟩ ?_) | (intro _)))
   refine Or.inl (Exists.intro _ (And.intro hP ?_))
   (repeat' (first | (refine And.intro (fun h=>?_) (fun h=>?_)<;>(try simp [-List.getD_eq_getElem?_getD,-Int.pred_toNat] at h)<;>(try (exfalso; first | omega | contradiction))) | (refine And.intro (rng64 (by omega) (by omega)) ?_) | (refine And.intro ⟨by omega,by omega⟩ ?_) | (refine And.intro ⟨by omega,by omega,by omega⟩ ?_) | (intro _)))
   refine Or.inl (Exists.intro _ (And.intro hK ?_))
   (repeat' (first | (refine And.intro (fun h=>?_) (fun h=>?_)<;>(try simp [-List.getD_eq_getElem?_getD,-Int.pred_toNat] at h)<;>(try (exfalso; first | omega | contradiction))) | (refine And.intro (rng64 (by omega) (by omega)) ?_) | (refine And.intro ⟨by omega,by omega⟩ ?_) | (refine And.intro ⟨by omega,by omega,by omega⟩ ?_) | (intro _)))
   refine Exists.intro [.blk [0,1,2,3,4,5,6,7,8,9,10,11,12,13,14,15,16,17,18,19,20,21,22,23,24]] (And.intro (by kernel_rfl) ?_)
   refine Exists.intro _ (And.intro hC ?_)
   (repeat' (first | (refine And.intro (fun h=>?_) (fun h=>?_)<;>(try simp [-List.getD_eq_getElem?_getD,-Int.pred_toNat] at h)<;>(try (exfalso; first | omega | contradiction))) | (refine And.intro (rng64 (by omega) (by omega)) ?_) | (refine And.intro ⟨by omega,by omega⟩ ?_) | (refine And.intro ⟨by omega,by omega,by omega⟩ ?_) | (intro _)))
   refine Exists.intro _ (And.intro hS ?_)
   (repeat' (first | (refine And.intro (fun h=>?_) (fun h=>?_)<;>(try simp [-List.getD_eq_getElem?_getD,-Int.pred_toNat] at h)<;>(try (exfalso; first | omega | contradiction))) | (refine And.intro (rng64 (by omega) (by omega)) ?_) | (refine And.intro ⟨by omega,by omega⟩ ?_) | (refine And.intro ⟨by omega,by omega,by omega⟩ ?_) | (intro _)))
   refine Exists.intro _ (And.intro hR ?_)
   (repeat' (first | (refine And.intro (fun h=>?_) (fun h=>?_)<;>(try simp [-List.getD_eq_getElem?_getD,-Int.pred_toNat] at h)<;>(try (exfalso; first | omega | contradiction))) | (refine And.intro (rng64 (by omega) (by omega)) ?_) | (refine And.intro ⟨by omega,by omega⟩ ?_) | (refine And.intro ⟨by omega,by omega,by omega⟩ ?_) | (intro _)))
   rfl
 obtain ⟨hSB,hL⟩:=hB k1
 subst k1
 rw [if_pos rfl] at hP hK
 have hty:=hSB.types
 have hPO:=s_partsOf s hSB.defs hSB.many s.root hSB.root.1 hSB.root.2 (by omega)
 have hp:=come_part (fun d hd=>(hSB.defs d hd).1) (need s.defs s.root [] + 1) s.root [] hSB.root.1
 have hp2:=come_prop (Q:=TB) (fun d h=>⟨(hSB.defs d h).1,hd d h⟩) (fun t ht x hx=>ht.inside x (List.mem_append_left _ hx)) (need s.defs s.root [] + 1) s.root [] hSB.root.1 hr
 have hlen:=come_wt (fun d hd=>(hSB.defs d hd).1) (need s.defs s.root [] + 1) s.root [] hSB.root.1
 have hlen:(comeA s.defs s.root).1.length≤200000:=by
  have:(comeA s.defs s.root).1.length + _≤_:=hlen
  omega
 have hp:∀ y ∈ (comeA s.defs s.root).1,isPart y:=hp
 have hp2:∀ y ∈ (comeA s.defs s.root).1,TB y:=hp2
 generalize (comeA s.defs s.root).1 = ps at hPO hp hp2 hlen hP hK
 rw [kinds_doc hp 7 (Nat.le_refl _)] at hK
 have hKL:=kindsP_len ps 7
 have hST:=s_sameTs ps (by omega) hp2
 have hEI:=s_eqInt (kindsP ps 7) (by omega)
 cases q
 all_goals
  (repeat' (first | (refine And.intro (fun h=>?_) (fun h=>?_)<;>(try simp [-List.getD_eq_getElem?_getD,-Int.pred_toNat] at h)<;>(try (exfalso; first | omega | contradiction))) | (refine And.intro (rng64 (by omega) (by omega)) ?_) | (refine And.intro ⟨by omega,by omega⟩ ?_) | (refine And.intro ⟨by omega,by omega,by omega⟩ ?_) | (intro _)))
  refine Or.inl (Exists.intro _ (And.intro hF ?_))
  (repeat' (first | (refine And.intro (fun h=>?_) (fun h=>?_)<;>(try simp [-List.getD_eq_getElem?_getD,-Int.pred_toNat] at h)<;>(try (exfalso; first | omega | contradiction))) | (refine And.intro (rng64 (by omega) (by omega)) ?_) | (refine And.intro ⟨by omega,by omega⟩ ?_) | (refine And.intro ⟨by omega,by omega,by omega⟩ ?_) | (intro _)))
  refine Or.inl (Exists.intro _ (And.intro hP ?_))
  (repeat' (first | (refine And.intro (fun h=>?_) (fun h=>?_)<;>(try simp [-List.getD_eq_getElem?_getD,-Int.pred_toNat] at h)<;>(try (exfalso; first | omega | contradiction))) | (refine And.intro (rng64 (by omega) (by omega)) ?_) | (refine And.intro ⟨by omega,by omega⟩ ?_) | (refine And.intro ⟨by omega,by omega,by omega⟩ ?_) | (intro _)))
  refine Or.inl (Exists.intro _ (And.intro hK ?_))
  (repeat' (first | (refine And.intro (fun h=>?_) (fun h=>?_)<;>(try simp [-List.getD_eq_getElem?_getD,-Int.pred_toNat] at h)<;>(try (exfalso; first | omega | contradiction))) | (refine And.intro (rng64 (by omega) (by omega)) ?_) | (refine And.intro ⟨by omega,by omega⟩ ?_) | (refine And.intro ⟨by omega,by omega,by omega⟩ ?_) | (intro _)))
  refine Exists.intro [.blk [0,1,2,3,4,5,6,7,8,9,10,11,12,13,14,15,16,17,18,19,20,21,22,23,24]] (And.intro (by kernel_rfl) ?_)
  refine Exists.intro _ (And.intro hC ?_)
  (repeat' (first | (refine And.intro (fun h=>?_) (fun h=>?_)<;>(try simp [-List.getD_eq_getElem?_getD,-Int.pred_toNat] at h)<;>(try (exfalso; first | omega | contradiction))) | (refine And.intro (rng64 (by omega) (by omega)) ?_) | (refine And.intro ⟨by omega,by omega⟩ ?_) | (refine And.intro ⟨by omega,by omega,by omega⟩ ?_) | (intro _)))
  refine Exists.intro _ (And.intro hS ?_)
  (repeat' (first | (refine And.intro (fun h=>?_) (fun h=>?_)<;>(try simp [-List.getD_eq_getElem?_getD,-Int.pred_toNat] at h)<;>(try (exfalso; first | omega | contradiction))) | (refine And.intro (rng64 (by omega) (by omega)) ?_) | (refine And.intro ⟨by omega,by omega⟩ ?_) | (refine And.intro ⟨by omega,by omega,by omega⟩ ?_) | (intro _)))
  refine Exists.intro _ (And.intro hR ?_)
  (repeat' (first | (refine And.intro (fun h=>?_) (fun h=>?_)<;>(try simp [-List.getD_eq_getElem?_getD,-Int.pred_toNat] at h)<;>(try (exfalso; first | omega | contradiction))) | (refine And.intro (rng64 (by omega) (by omega)) ?_) | (refine And.intro ⟨by omega,by omega⟩ ?_) | (refine And.intro ⟨by omega,by omega,by omega⟩ ?_) | (intro _)))
  refine Or.inl (Exists.intro _ (And.intro hPO ?_))
  (repeat' (first | (refine And.intro (fun h=>?_) (fun h=>?_)<;>(try simp [-List.getD_eq_getElem?_getD,-Int.pred_toNat] at h)<;>(try (exfalso; first | omega | contradiction))) | (refine And.intro (rng64 (by omega) (by omega)) ?_) | (refine And.intro ⟨by omega,by omega⟩ ?_) | (refine And.intro ⟨by omega,by omega,by omega⟩ ?_) | (intro _)))
  refine Exists.intro [(11,11,.int)] (Exists.intro [] (Exists.intro [] (Exists.intro Nat (Exists.intro (fun k=>k≤7) (Exists.intro (fun k=>⟨[(6,.rd .typ ps),(8,.rd .int (kindsP ps 7)),(10,.rd .typ ps),(11,.vec 11 .int (kindsP ps k)),(64,.i .i64 k)],[]⟩) (Exists.intro (fun k=>7 - k) (Exists.intro 0 (And.intro (by decide) (And.intro ?_ ?_)))))))))
 all_goals first
  | (repeat' (first | exact trivial | exact Or.inl rfl | exact Or.inr (Or.inl ⟨rfl,_,rfl⟩) | exact Or.inr (Or.inr (Or.inr ⟨_,_,_,rfl,rfl⟩)) | refine And.intro ?_ ?_)); done
  | skip
 all_goals
  rintro k hk
  refine And.intro (fun hz=>?_) (fun hz=>?_)
  ·have hk7:k < 7:=by have:(k:Int) < 7:=of_decide_eq_true hz; omega
   have hCF:=s_cfT ps (by omega) 41 (k:Int) (fun y=>tellsK y.kind (k:Int)) fun x hx=>s_lawK x (k:Int) (by omega) (by omega)
   have hs:kindsP ps (k + 1) = if (ps.any fun y=>tellsK y.kind (k:Int)) = true then kindsP ps k++[(k:Int)] else kindsP ps k:=rfl
   have hkl:=kindsP_len ps k
   generalize (ps.any fun y=>tellsK y.kind (k:Int)) = b at hCF hs
   (repeat' (first | (refine And.intro (fun h=>?_) (fun h=>?_)<;>(try simp [-List.getD_eq_getElem?_getD,-Int.pred_toNat] at h)<;>(try (exfalso; first | omega | contradiction))) | (refine And.intro (rng64 (by omega) (by omega)) ?_) | (refine And.intro ⟨by omega,by omega⟩ ?_) | (refine And.intro ⟨by omega,by omega,by omega⟩ ?_) | (intro _)))
   refine Or.inr (Or.inl (Exists.intro [] (Exists.intro _ (Exists.intro _ (Exists.intro _ (Exists.intro _ (Exists.intro _ (Exists.intro [(1000,12)] (And.intro (hCF) ?_)))))))))
   refine (And.intro rfl (And.intro rfl (And.intro rfl (And.intro rfl (And.intro rfl ?_)))))
   cases b with
   | true =>
    rw [if_pos rfl] at hs
    (repeat' (first | (refine And.intro (fun h=>?_) (fun h=>?_)<;>(try simp [-List.getD_eq_getElem?_getD,-Int.pred_toNat] at h)<;>(try (exfalso; first | omega | contradiction))) | (refine And.intro (rng64 (by omega) (by omega)) ?_) | (refine And.intro ⟨by omega,by omega⟩ ?_) | (refine And.intro ⟨by omega,by omega,by omega⟩ ?_) | (intro _)))
    (refine And.intro (Go.Ty.szB (by (try simp only [List.length_append,List.length_cons,List.length_nil,List.length_map,List.length_take,List.length_drop]); omega) (Nat.le_of_ble_eq_true rfl)) ?_)
    (repeat' (first | (refine And.intro (fun h=>?_) (fun h=>?_)<;>(try simp [-List.getD_eq_getElem?_getD,-Int.pred_toNat] at h)<;>(try (exfalso; first | omega | contradiction))) | (refine And.intro (rng64 (by omega) (by omega)) ?_) | (refine And.intro ⟨by omega,by omega⟩ ?_) | (refine And.intro ⟨by omega,by omega,by omega⟩ ?_) | (intro _)))
    refine Exists.intro [(73,11)] (Exists.intro (k + 1) (And.intro hk7 (And.intro ?_ ?_)))
    ·dsimp only
     rw [hs]
     (repeat' (first | exact trivial | exact Or.inl rfl | exact Or.inr (Or.inl ⟨rfl,_,rfl⟩) | exact Or.inr (Or.inr (Or.inr ⟨_,_,_,rfl,rfl⟩)) | refine And.intro ?_ ?_))
    ·(exact Nat.sub_lt_sub_left (by omega) (by omega))
   | false =>
    rw [if_neg (by decide)] at hs
    (repeat' (first | (refine And.intro (fun h=>?_) (fun h=>?_)<;>(try simp [-List.getD_eq_getElem?_getD,-Int.pred_toNat] at h)<;>(try (exfalso; first | omega | contradiction))) | (refine And.intro (rng64 (by omega) (by omega)) ?_) | (refine And.intro ⟨by omega,by omega⟩ ?_) | (refine And.intro ⟨by omega,by omega,by omega⟩ ?_) | (intro _)))
    refine Exists.intro [] (Exists.intro (k + 1) (And.intro hk7 (And.intro ?_ ?_)))
    ·dsimp only
     rw [hs]
     (repeat' (first | exact trivial | exact Or.inl rfl | exact Or.inr (Or.inl ⟨rfl,_,rfl⟩) | exact Or.inr (Or.inr (Or.inr ⟨_,_,_,rfl,rfl⟩)) | refine And.intro ?_ ?_))
    ·(exact Nat.sub_lt_sub_left (by omega) (by omega))
  ·have hk7:k = 7:=by have:¬ (k:Int) < 7:=of_decide_eq_false hz; omega
   subst hk7
   (repeat' (first | (refine And.intro (fun h=>?_) (fun h=>?_)<;>(try simp [-List.getD_eq_getElem?_getD,-Int.pred_toNat] at h)<;>(try (exfalso; first | omega | contradiction))) | (refine And.intro (rng64 (by omega) (by omega)) ?_) | (refine And.intro ⟨by omega,by omega⟩ ?_) | (refine And.intro ⟨by omega,by omega,by omega⟩ ?_) | (intro _)))
   refine Or.inl (Exists.intro _ (And.intro (hST) ?_))
   (repeat' (first | (refine And.intro (fun h=>?_) (fun h=>?_)<;>(try simp [-List.getD_eq_getElem?_getD,-Int.pred_toNat] at h)<;>(try (exfalso; first | omega | contradiction))) | (refine And.intro (rng64 (by omega) (by omega)) ?_) | (refine And.intro ⟨by omega,by omega⟩ ?_) | (refine And.intro ⟨by omega,by omega,by omega⟩ ?_) | (intro _)))
   refine Or.inr (Or.inr (Or.inl (Exists.intro _ (And.intro hEI ?_))))
   (repeat' (first | (refine And.intro (fun h=>?_) (fun h=>?_)<;>(try simp [-List.getD_eq_getElem?_getD,-Int.pred_toNat] at h)<;>(try (exfalso; first | omega | contradiction))) | (refine And.intro (rng64 (by omega) (by omega)) ?_) | (refine And.intro ⟨by omega,by omega⟩ ?_) | (refine And.intro ⟨by omega,by omega,by omega⟩ ?_) | (intro _)))
   rfl
theorem s_tlaw (hu:HasU8) (s:SchemaR) (t:TypR) (hd:∀ d ∈ s.defs,TB d.t) (hr:TB s.root) (hn:s.defs.length≤2000000) (hd2:∀ d ∈ s.defs,DN d.t) (hr2:DN s.root) (ht:TB t):PSpec Tryd.prog 8 [.agg (encSch s),.agg (encTyp t)] (.b true) :=
 pspec_of_vc Γ_good Tryd.func8 rfl Tryd.call8 Tryd.results8 Tryd.ntmps8 (Nat.le_of_ble_eq_true rfl) (w_tlaw hu s t hd hr hn hd2 hr2 ht)
end
end Go.Proofs.YtdcdmojbkmedpaaDoor
end
section
namespace Go.SX
open Go.RowKit Go.WideShapes Go.ChangeShapes Go.Deep
structure BulkS {H:Type} (bk:DataW H→Nat):Prop where
 sl:∀ els rest,(els.map bk).sum + 1≤bk (.slice els rest)
 ag:∀ ds,(ds.map bk).sum + 1≤bk (.agg ds)
 st:∀ b,b.length + 1≤bk (.lit (.string b))
 pos:∀ d,1≤bk d
/-! the bulk of a value -/
mutual
def bkV:Val→Nat
 | ⟨_,_,_,s,l,e⟩=>s.length + bkL l + bkE e + 7
def bkL:List Val→Nat
 | []=>0
 | x::xs=>bkV x + bkL xs
def bkE:List (Str × Val)→Nat
 | []=>0
 | x::xs=>bkP x + bkE xs
def bkP:Str × Val→Nat
 | (k,x)=>k.length + bkV x + 2
end
theorem bkL_sum (l:List Val):bkL l = (l.map bkV).sum:=by
 induction l with
 | nil=>rfl
 | cons x r ih=>rw [bkL,List.map_cons,List.sum_cons,ih]
theorem bkE_sum (l:List (Str × Val)):bkE l = (l.map bkP).sum:=by
 induction l with
 | nil=>rfl
 | cons x r ih=>rw [bkE,List.map_cons,List.sum_cons,ih]
theorem bkV_eq (v:Val):bkV v = v.s.length + (v.l.map bkV).sum + (v.e.map bkP).sum + 7:=by
 cases v
 rw [bkV,bkL_sum,bkE_sum]
theorem bkP_eq (p:Str × Val):bkP p = p.1.length + bkV p.2 + 2:=by
 cases p
 rw [bkP]
theorem sum_mem {α:Type} {m:α→Nat}:∀ {l:List α} {x:α},x ∈ l→m x≤(l.map m).sum
 | y::r,x,h=>by
  rw [List.map_cons,List.sum_cons]
  rcases List.mem_cons.1 h with rfl | h
  ·omega
  ·have:=sum_mem (m:=m) h
   omega
theorem sum_len {α:Type} {m:α→Nat} (h1:∀ x,1≤m x):∀ l:List α,l.length≤(l.map m).sum
 | []=>Nat.zero_le _
 | x::r=>by
  have:=sum_len h1 r
  have:=h1 x
  rw [List.map_cons,List.sum_cons,List.length_cons]
  omega
theorem sum_le2 {α β:Type} {m:α→Nat} {k:β→Nat}:∀ {l:List α} {r:List β},l.length = r.length→(∀ (i:Nat) x y,l[i]? = some x→r[i]? = some y→m x≤k y)→(l.map m).sum≤(r.map k).sum
 | [],_,_,_=>Nat.zero_le _
 | x::l,[],h,_=>nomatch h
 | x::l,y::r,h,hh=>by
  have h1:=hh 0 x y rfl rfl
  have h2:=sum_le2 (m:=m) (k:=k) (l:=l) (r:=r) (by simpa using h) (fun i a b ha hb=>hh (i + 1) a b (by simpa using ha) (by simpa using hb))
  rw [List.map_cons,List.sum_cons,List.map_cons,List.sum_cons]
  omega
theorem bkV_pos (v:Val):1≤bkV v:=by rw [bkV_eq]; omega
theorem bkP_pos (p:Str × Val):1≤bkP p:=by rw [bkP_eq]; omega
theorem bkV_mem {v x:Val} (h:x ∈ v.l):bkV x < bkV v:=by
 have:=sum_mem (m:=bkV) h
 rw [bkV_eq v]
 omega
theorem bkV_ent {v:Val} {p:Str × Val} (h:p ∈ v.e):bkV p.2 + p.1.length < bkV v:=by
 have:=sum_mem (m:=bkP) h
 rw [bkP_eq] at this
 rw [bkV_eq v]
 omega
theorem bkV_len (v:Val):v.s.length + v.l.length + v.e.length < bkV v:=by
 have h1:=sum_len (m:=bkV) bkV_pos v.l
 have h2:=sum_len (m:=bkP) bkP_pos v.e
 rw [bkV_eq v]
 omega
section
variable [Globs]
variable {H:Type} {encH:TypeId × Value→H} {P:Program} {W:World} {sp:Nat→Bool} {hd:Bool} {O:Nat→Prop} {bk:DataW H→Nat}
theorem arg_sliceS {t e : TypeId} {τ : Ty} {m : den τ → Nat} {R : den τ → Prop} (hbk : BulkS bk) (hO : ∀ k, ¬ O k) (ht : P.underlying t = some (.slice e)) (hc : P.cellsOf e = esz τ) {fuel : Nat}
  (hel:∀ n,n < fuel→∀ (cs:List Value) (x:DataW H × List MemPlace),DataW.trod encH P W 0 sp hd n e cs = some x→∃ y:den τ,All2 (Im O W) (enc τ y) cs∧m y≤bk x.1∧R y)
  {cs:List Value} {x:DataW H × List MemPlace} (h:DataW.trod encH P W 0 sp hd fuel t cs = some x):∃ (l:List (den τ)) (v:Value),cs = [v]∧Im O W (.rd τ l) v∧(l.map m).sum + 1≤bk x.1∧∀ y ∈ l,R y:=by
 rcases DataW.trod_slice ht h with ⟨rfl,rfl⟩ | ⟨a,len,cap,elems,rest,n,rfl,rfl,rfl,hb,hlc,hcm,hlen,hall,_,_⟩
 ·exact ⟨[],_,rfl,.rd0 τ none 0 (Nat.zero_le _),by simpa using hbk.pos _,fun y hy=>nomatch hy⟩
 by_cases h0:len = 0
 ·subst h0; exact ⟨[],_,rfl,.rd0 τ _ _ hcm,by simpa using hbk.pos _,fun y hy=>nomatch hy⟩
 have hall:∀ i,i < len→∃ (us:List Value) (y:DataW H × List MemPlace),W.cells? 0 (a.add (i * P.cellsOf e)) (P.cellsOf e) = some us∧DataW.trod encH P W 0 sp hd n e us = some y∧elems[i]? = some y:=fun i hi=>by
  have:=hall i hi
  rw [List.getElem?_eq_getElem (by omega)] at this
  obtain ⟨us,h1,h2⟩:=Option.bind_eq_some_iff.1 this
  exact ⟨us,_,h1,h2,List.getElem?_eq_getElem _⟩
 have hch:∀ i,i < len→∃ (y:den τ) (us:List Value),(All2 (Im O W) (enc τ y) us∧(∀ d,elems[i]? = some d→m y≤bk d.1)∧R y)∧us.length = esz τ∧∀ (j:Nat) v,us[j]? = some v→W.cell? ⟨a.block,a.off + (i * esz τ + j),none⟩ = some v:=by
  intro i hi
  obtain ⟨us,yy,h1,h2,hm⟩:=hall i hi
  obtain ⟨y,hy⟩:=hel n (Nat.lt_succ_self n) _ _ h2
  rw [hc] at h1
  obtain ⟨h3,h4⟩:=cells_get h1
  refine ⟨y,us,⟨hy.1,fun d hd=>?_,hy.2.2⟩,h3,fun j v hv=>?_⟩
  ·rw [hm] at hd
   injection hd with hd
   subst hd
   exact hy.2.1
  have h5:=h4 j v hv
  have hs:∀ j v,us[j]? = some v→((a.add (i * esz τ)).add j).spot = none:=fun j v hv=>World.cell?_spot (h4 j v hv)
  have hpos:=esz_pos τ
  have h00:(a.add (i * esz τ)).spot = none:=by
   have:=hs 0 (us[0]'(by omega)) (List.getElem?_eq_getElem _)
   simpa [Addr.add] using this
  have e1:=add_of h00
  rw [e1] at h5
  rw [add_none] at h5
  rw [← h5,Nat.add_assoc]
 have ys:∃ l:List (den τ),l.length = len∧∀ (i:Nat) y,l[i]? = some y→∃ us:List Value,(All2 (Im O W) (enc τ y) us∧(∀ d,elems[i]? = some d→m y≤bk d.1)∧R y)∧∀ (j:Nat) v,us[j]? = some v→W.cell? ⟨a.block,a.off + (i * esz τ + j),none⟩ = some v:=by
  have hch':=fun (i:Fin len)=>hch i.1 i.2
  refine ⟨List.ofFn fun i:Fin len=>Classical.choose (hch' i),by simp,fun i y hy=>?_⟩
  have hi:i < len:=by have:=(List.getElem?_eq_some_iff.1 hy).1; simpa using this
  rw [List.getElem?_ofFn,dif_pos hi] at hy
  injection hy with hy
  subst hy
  obtain ⟨us,h1,_,h2⟩:=Classical.choose_spec (hch' ⟨i,hi⟩)
  exact ⟨us,h1,h2⟩
 obtain ⟨l,hll,hl⟩:=ys
 refine ⟨l,_,rfl,?_,?_,fun y hy=>?_⟩
 rotate_left
 ·have h1:=hbk.sl (elems.map (·.1)) (rest.map (·.1))
  have h2:(l.map m).sum≤((elems.map (·.1)).map bk).sum:=sum_le2 (by rw [List.length_map]; omega) fun i y d hy hd=>by
   obtain ⟨us,h3,_⟩:=hl i y hy
   rw [List.getElem?_map,Option.map_eq_some_iff] at hd
   obtain ⟨d',hd',rfl⟩:=hd
   exact h3.2.1 d' hd'
  exact Nat.le_trans (Nat.succ_le_succ h2) h1
 ·obtain ⟨i,hi,rfl⟩:=List.getElem_of_mem hy
  obtain ⟨us,h1,_⟩:=hl i _ (List.getElem?_eq_getElem hi)
  exact h1.2.2
 have hane:a = ⟨a.block,a.off,none⟩:=by
  obtain ⟨us',yy,h1,h2,_⟩:=hall 0 (by omega)
  have hpos:=esz_pos τ
  rw [hc] at h1
  obtain ⟨h5,h6⟩:=cells_get h1
  have:=World.cell?_spot (h6 0 (us'[0]'(by omega)) (List.getElem?_eq_getElem _))
  simp [Addr.add] at this
  obtain ⟨b,o,s⟩:=a
  simp only at this
  subst this
  rfl
 rw [hane,← hll]
 refine .rd τ l a.block a.off cap (fun i j=>(W.cell? ⟨a.block,a.off + (i * esz τ + j),none⟩).getD undef) (hO _) (by omega) hcm (fun e=>h0 (by rw [← hll,e]; rfl)) (fun i y j av hy hav=>?_) (fun i y j av hy hav=>?_)
 ·obtain ⟨us,h1,h2⟩:=hl i y hy
  have hj:j < us.length:=by rw [← h1.1.1]; exact (List.getElem?_eq_some_iff.1 hav).1
  rw [h2 j _ (List.getElem?_eq_getElem hj)]; rfl
 ·obtain ⟨us,h1,h2⟩:=hl i y hy
  have hj:j < us.length:=by rw [← h1.1.1]; exact (List.getElem?_eq_some_iff.1 hav).1
  rw [h2 j _ (List.getElem?_eq_getElem hj)]
  exact h1.1.2 j av _ hav (List.getElem?_eq_getElem hj)
theorem one_fieldS {t : TypeId} {fs : Array Field} {fuel : Nat} {cs : List Value} {x : DataW H × List MemPlace} (ht : P.underlying t = some (.struct fs)) (h : DataW.trod encH P W 0 sp hd fuel t cs = some x) :
  ∃ (n:Nat) (ds:List (DataW H)),fuel = n + 1∧cs.length = P.cellsOf t∧x.1 = .agg ds∧ds.length = fs.size∧∀ (i off:Nat) (t':TypeId),HasF fs i off t'→∃ y,DataW.trod encH P W 0 sp hd n t' ((cs.drop off).take (P.cellsOf t')) = some y∧ds[i]? = some y.1:=by
 obtain ⟨xs,n,hn,rfl,h1,h2,h3⟩:=DataW.trod_struct ht h
 refine ⟨n,xs.map (·.1),hn,h1,rfl,by rw [List.length_map]; exact h2,fun i off t' hf=>?_⟩
 obtain ⟨f,hf,rfl,rfl⟩:=hf
 have hi:i < xs.length:=by rw [h2]; exact (Array.getElem?_eq_some_iff.1 hf).1
 rw [h3 i f hf,List.getElem?_eq_getElem hi]
 exact ⟨_,rfl,by rw [List.getElem?_map,List.getElem?_eq_getElem hi]; rfl⟩
theorem arg_strS (hbk:BulkS bk) {t:TypeId} {fuel:Nat} {cs:List Value} {x:DataW H × List MemPlace} (ht:P.underlying t = some .string) (h:DataW.trod encH P W 0 sp hd fuel t cs = some x):∃ (l:Str) (v:Value),cs = [v]∧Im O W (.s l) v∧l.length + 1≤bk x.1:=by
 obtain ⟨s,h1,h3,h2⟩:=DataW.trod_string ht h
 refine ⟨s.data.toList,.string s,h1,?_,?_⟩
 ·have:=Im.s (O:=O) (w:=W) s.data.toList (by rw [Array.length_toList]; exact h2)
  simpa using this
 ·rw [h3]; exact hbk.st _
theorem arg_valS {V:TypeId} (hbk:BulkS bk) (T:VTy P V) (hs:T.fs.size = 6) (hs2:T.gs.size = 2) (hO:∀ k,¬ O k):∀ (fuel:Nat) (cs:List Value) (x:DataW H × List MemPlace),DataW.trod encH P W 0 sp hd fuel V cs = some x→∃ y:Val,All2 (Im O W) (encVal y) cs∧bkV y≤bk x.1∧VB y:=by
 intro fuel
 induction fuel using Nat.strongRecOn with
 | _ fuel ih =>
 intro cs x h
 obtain ⟨n,ds,rfl,hl,hag,hds,hf⟩:=one_fieldS T.hV h
 rw [T.cV] at hl
 rw [hs] at hds
 obtain ⟨c0,c1,c2,c3,c4,c5⟩:=T.c
 match cs,hl,ds,hds with
 | [u0,u1,u2,u3,u4,u5],_,[d0,d1,d2,d3,d4,d5],_ =>
  obtain ⟨y0,q0,k0⟩:=hf 0 0 _ T.h0
  obtain ⟨y1,q1,k1⟩:=hf 1 1 _ T.h1
  obtain ⟨y2,q2,k2⟩:=hf 2 2 _ T.h2
  obtain ⟨y3,q3,k3⟩:=hf 3 3 _ T.h3
  obtain ⟨y4,q4,k4⟩:=hf 4 4 _ T.h4
  obtain ⟨y5,q5,k5⟩:=hf 5 5 _ T.h5
  simp only [List.getElem?_cons_zero,List.getElem?_cons_succ,Option.some.injEq] at k0 k1 k2 k3 k4 k5
  subst k0 k1 k2 k3 k4 k5
  rw [c0] at q0
  rw [c1] at q1
  rw [c2] at q2
  rw [c3] at q3
  rw [c4] at q4
  rw [c5] at q5
  obtain ⟨k,e0,i0,w0⟩:=arg_int (O:=O) T.uK q0
  obtain ⟨m,e1,i1,w1⟩:=arg_int (O:=O) T.uN q1
  obtain ⟨f,e2,i2,w2⟩:=arg_int (O:=O) T.uU q2
  obtain ⟨s,vs,e3,i3,z3⟩:=arg_strS (O:=O) hbk T.uS q3
  obtain ⟨l,vl,e4,i4,z4,r4⟩:=arg_sliceS (O:=O) (τ:=.val) (m:=bkV) (R:=VB) hbk hO T.uL T.cV (fun n' hn cs' x' hx=>ih n' (by omega) cs' x' hx) q4
  obtain ⟨es,ve,e5,i5,z5,r5⟩:=arg_sliceS (O:=O) (τ:=.ent) (m:=bkP) (R:=fun p=>VB p.2) hbk hO T.uE T.cE (fun n' hn cs' x' hx=>by
   obtain ⟨n2,ds2,rfl,hl2,hag2,hds2,hf2⟩:=one_fieldS T.hE hx
   rw [T.cE] at hl2
   rw [hs2] at hds2
   match cs',hl2,ds2,hds2 with
   | [z0,z1,z2,z3,z4,z5,z6],_,[g0,g1],_ =>
    obtain ⟨_,p0,m0⟩:=hf2 0 0 _ T.g0
    obtain ⟨_,p1,m1⟩:=hf2 1 1 _ T.g1
    simp only [List.getElem?_cons_zero,List.getElem?_cons_succ,Option.some.injEq] at m0 m1
    subst m0 m1
    rw [c3] at p0
    rw [T.cV] at p1
    obtain ⟨ks,kv,d0,j0,lk⟩:=arg_strS (O:=O) hbk T.uS p0
    obtain ⟨y,j1,hyb,hy⟩:=ih n2 (by omega) _ _ p1
    simp at d0
    subst d0
    refine ⟨(ks,y),All2.cons j0 (by simpa using j1),?_,hy⟩
    rw [hag2]
    refine Nat.le_trans ?_ (hbk.ag _)
    rw [bkP_eq]
    simp only [List.map_cons,List.map_nil,List.sum_cons,List.sum_nil]
    omega) q5
  simp at e0 e1 e2 e3 e4 e5
  subst e0 e1 e2 e3 e4 e5
  refine ⟨⟨k,m,f,s,l,es⟩,All2.cons i0 (All2.cons i1 (All2.cons i2 (All2.cons i3 (All2.cons i4 (All2.cons i5 (All2.nil _)))))),?_,.mk _ (wf_i64 w0) (wf_i64 w1) (wf_u64 w2) r4 r5⟩
  have h9:=hbk.ag [y0.1,y1.1,y2.1,y3.1,y4.1,y5.1]
  have p0:=hbk.pos y0.1
  have p1:=hbk.pos y1.1
  have p2:=hbk.pos y2.1
  rw [hag]
  refine Nat.le_trans ?_ h9
  rw [bkV_eq]
  simp only [List.map_cons,List.map_nil,List.sum_cons,List.sum_nil]
  omega
end
end Go.SX
end
section
namespace Go.Ck
open Go.SX Go.Vl
theorem sum_bulk:∀ l:List Val,(∀ x ∈ l,(sizV x).2≤(bkV x:Int))→sumT (l.map fun v=>(⟨v,0⟩:VPlace))≤((l.map bkV).sum:Nat)
 | [],_=>by simp [sumT]
 | x::r,h=>by
  have h1:=h x (.head _)
  have h2:=sum_bulk r fun y hy=>h y (.tail _ hy)
  rw [List.map_cons,sumT,List.map_cons,List.sum_cons]
  show (sizV x).2 + _≤_
  omega
theorem siz_bulk_n:∀ (n:Nat) (v:Val),SizeOf.sizeOf v < n→(sizV v).2≤(bkV v:Int):=by
 intro n
 induction n with
 | zero=>intro v h; exact absurd h (Nat.not_lt_zero _)
 | succ n ih =>
  intro v h
  have h1:=sum_bulk (partsOf v) fun x hx=>ih x (by have:=parts_sz hx; omega)
  have h2:=fold_sum (partsOf v) (0,1) 0
  have h3:((partsOf v).map bkV).sum≤(v.l.map bkV).sum + (v.e.map bkP).sum:=by
   unfold partsOf
   rw [List.map_append,List.sum_append,List.map_map]
   have:(v.e.map (bkV ∘ (·.2))).sum≤(v.e.map bkP).sum:=by
    generalize v.e = e
    induction e with
    | nil=>exact Nat.le_refl _
    | cons p r ih =>
     rw [List.map_cons,List.sum_cons,List.map_cons,List.sum_cons,bkP_eq]
     simp only [Function.comp]
     omega
   omega
  rw [sizV_eq,bkV_eq]
  simp only at h2 ⊢
  omega
theorem siz_bulk (v:Val):(sizV v).2≤(bkV v:Int):=siz_bulk_n _ v (Nat.lt_succ_self _)
end Go.Ck
end
section
namespace Go.SX
open Go.RowKit Go.WideShapes Go.ChangeShapes Go.Deep
def I64 (n:Int):Prop:=-9223372036854775808≤n∧n≤9223372036854775807
structure STy (P:Program) (T:TypeId) where
 (fs:Array Field) (K S:TypeId)
 hT:P.underlying T = some (.struct fs)
 sz:fs.size = 2
 cT:P.cellsOf T = 2
 h0:HasF fs 0 0 S
 h1:HasF fs 1 1 K
 uK:P.underlying K = some (.int .i64)
 uS:P.underlying S = some .string
 c:P.cellsOf K = 1∧P.cellsOf S = 1
structure OTy (P:Program) (T:TypeId) where
 (fs:Array Field) (K S Q V St:TypeId) (Tv:VTy P V) (S':STy P St)
 hT:P.underlying T = some (.struct fs)
 sz:fs.size = 4
 cT:P.cellsOf T = 9
 h0:HasF fs 0 0 K
 h1:HasF fs 1 1 Q
 h2:HasF fs 2 2 V
 h3:HasF fs 3 8 S
 uK:P.underlying K = some (.int .i64)
 uS:P.underlying S = some .string
 uQ:P.underlying Q = some (.slice St)
 c:P.cellsOf K = 1∧P.cellsOf S = 1∧P.cellsOf Q = 1
section
variable [Globs]
variable {H:Type} {encH:TypeId × Value→H} {P:Program} {W:World} {sp:Nat→Bool} {hd:Bool} {O:Nat→Prop} {bk:DataW H→Nat}
end
end Go.SX
end
section
namespace Go.SX
open Go.RowKit Go.WideShapes Go.ChangeShapes Go.Deep
def bkT (s:Str):Nat:=s.length + 1
section
variable [Globs]
variable {H:Type} {encH:TypeId × Value→H} {P:Program} {W:World} {sp:Nat→Bool} {hd:Bool} {O:Nat→Prop} {bk:DataW H→Nat}
end
end Go.SX
end
section
namespace Go.SX
open Go.RowKit Go.WideShapes Go.ChangeShapes Go.Deep
/-! the bulk of a type -/
mutual
def bkY:TypR→Nat
 | ⟨_,_,_,tx,t,f,n⟩=>(tx.map bkT).sum + bkYL t + bkYF f + n.length + 1
def bkYL:List TypR→Nat
 | []=>0
 | x::r=>bkY x + bkYL r
def bkYF:List (FldP TypR)→Nat
 | []=>0
 | x::r=>bkYP x + bkYF r
def bkYP:FldP TypR→Nat
 | ⟨n,_,_,t,d⟩=>n.length + bkY t + bkV d + 1
end
theorem bkYL_sum (l:List TypR):bkYL l = (l.map bkY).sum:=by
 induction l with
 | nil=>rfl
 | cons x r ih=>rw [bkYL,List.map_cons,List.sum_cons,ih]
theorem bkYF_sum (l:List (FldP TypR)):bkYF l = (l.map bkYP).sum:=by
 induction l with
 | nil=>rfl
 | cons x r ih=>rw [bkYF,List.map_cons,List.sum_cons,ih]
theorem bkY_eq (t:TypR):bkY t = (t.texts.map bkT).sum + (t.t.map bkY).sum + (t.f.map bkYP).sum + t.name.length + 1:=by
 cases t
 rw [bkY,bkYL_sum,bkYF_sum]
theorem bkYP_eq (f:FldP TypR):bkYP f = f.name.length + bkY f.t + bkV f.dflt + 1:=by
 cases f
 rw [bkYP]
def bkD (d:DefR):Nat:=d.name.length + bkY d.t + 1
def bkC (s:SchemaR):Nat:=(s.defs.map bkD).sum + bkY s.root + 1
inductive YB:TypR→Prop
 | mk (t:TypR):(I64 t.kind∧I64 t.lo∧I64 t.hi)→(∀ f ∈ t.f,VB f.dflt)→(∀ x ∈ t.t,YB x)→(∀ f ∈ t.f,YB f.t)→YB t
structure TTy (P:Program) (T:TypeId) where
 (fs gs:Array Field) (K N S B Q L F Fd V:TypeId) (Tv:VTy P V)
 hT:P.underlying T = some (.struct fs)
 cT:P.cellsOf T = 7
 h0:HasF fs 0 0 K
 h1:HasF fs 1 1 N
 h2:HasF fs 2 2 N
 h3:HasF fs 3 3 Q
 h4:HasF fs 4 4 L
 h5:HasF fs 5 5 F
 h6:HasF fs 6 6 S
 uK:P.underlying K = some (.int .i64)
 uN:P.underlying N = some (.int .i64)
 uS:P.underlying S = some .string
 uB:P.underlying B = some .bool
 uQ:P.underlying Q = some (.slice S)
 uL:P.underlying L = some (.slice T)
 uF:P.underlying F = some (.slice Fd)
 c:P.cellsOf K = 1∧P.cellsOf N = 1∧P.cellsOf S = 1∧P.cellsOf B = 1∧P.cellsOf Q = 1∧P.cellsOf L = 1∧P.cellsOf F = 1
 hF:P.underlying Fd = some (.struct gs)
 cF:P.cellsOf Fd = 16
 g0:HasF gs 0 0 S
 g1:HasF gs 1 1 B
 g2:HasF gs 2 2 B
 g3:HasF gs 3 3 T
 g4:HasF gs 4 10 V
structure CTy (P:Program) (C:TypeId) where
 (fs gs:Array Field) (T D De S:TypeId) (Y:TTy P T)
 hC:P.underlying C = some (.struct fs)
 cC:P.cellsOf C = 8
 h0:HasF fs 0 0 D
 h1:HasF fs 1 1 T
 uD:P.underlying D = some (.slice De)
 uS:P.underlying S = some .string
 c:P.cellsOf D = 1∧P.cellsOf S = 1
 hD:P.underlying De = some (.struct gs)
 cD:P.cellsOf De = 8
 g0:HasF gs 0 0 S
 g1:HasF gs 1 1 T
section
variable [Globs]
variable {H:Type} {encH:TypeId × Value→H} {P:Program} {W:World} {sp:Nat→Bool} {hd:Bool} {O:Nat→Prop} {bk:DataW H→Nat}
theorem arg_typS {T:TypeId} (hbk:BulkS bk) (Y:TTy P T) (hs:Y.fs.size = 7) (hs2:Y.gs.size = 5) (hv:Y.Tv.fs.size = 6) (hv2:Y.Tv.gs.size = 2) (hO:∀ k,¬ O k):∀ (fuel:Nat) (cs:List Value) (x:DataW H × List MemPlace),DataW.trod encH P W 0 sp hd fuel T cs = some x→∃ y:TypR,All2 (Im O W) (encTyp y) cs∧bkY y≤bk x.1∧YB y:=by
 intro fuel
 induction fuel using Nat.strongRecOn with
 | _ fuel ih =>
 intro cs x h
 obtain ⟨n,ds,rfl,hl,hag,hds,hf⟩:=one_fieldS Y.hT h
 rw [Y.cT] at hl
 rw [hs] at hds
 obtain ⟨c0,c1,c2,c3,c4,c5,c6⟩:=Y.c
 match cs,hl,ds,hds with
 | [u0,u1,u2,u3,u4,u5,u6],_,[d0,d1,d2,d3,d4,d5,d6],_ =>
  obtain ⟨y0,q0,k0⟩:=hf 0 0 _ Y.h0
  obtain ⟨y1,q1,k1⟩:=hf 1 1 _ Y.h1
  obtain ⟨y2,q2,k2⟩:=hf 2 2 _ Y.h2
  obtain ⟨y3,q3,k3⟩:=hf 3 3 _ Y.h3
  obtain ⟨y4,q4,k4⟩:=hf 4 4 _ Y.h4
  obtain ⟨y5,q5,k5⟩:=hf 5 5 _ Y.h5
  obtain ⟨y6,q6,k6⟩:=hf 6 6 _ Y.h6
  simp only [List.getElem?_cons_zero,List.getElem?_cons_succ,Option.some.injEq] at k0 k1 k2 k3 k4 k5 k6
  subst k0 k1 k2 k3 k4 k5 k6
  rw [c0] at q0
  rw [c1] at q1 q2
  rw [c4] at q3
  rw [c5] at q4
  rw [c6] at q5
  rw [c2] at q6
  obtain ⟨k,e0,i0,w0⟩:=arg_int (O:=O) Y.uK q0
  obtain ⟨lo,e1,i1,w1⟩:=arg_int (O:=O) Y.uN q1
  obtain ⟨hi,e2,i2,w2⟩:=arg_int (O:=O) Y.uN q2
  obtain ⟨tx,vx,e3,i3,z3,_⟩:=arg_sliceS (O:=O) (τ:=.str) (m:=bkT) (R:=fun _=>True) hbk hO Y.uQ c2 (fun n' hn cs' x' hx=>by
   obtain ⟨ks,kv,d0,j0,zz⟩:=arg_strS (O:=O) hbk Y.uS hx
   subst d0
   exact ⟨ks,All2.cons j0 (All2.nil _),zz,trivial⟩) q3
  obtain ⟨l,vl,e4,i4,z4,r4⟩:=arg_sliceS (O:=O) (τ:=.typ) (m:=bkY) (R:=YB) hbk hO Y.uL Y.cT (fun n' hn cs' x' hx=>ih n' (by omega) cs' x' hx) q4
  obtain ⟨fl,vf,e5,i5,z5,r5⟩:=arg_sliceS (O:=O) (τ:=.fld) (m:=bkYP) (R:=fun f=>VB f.dflt∧YB f.t) hbk hO Y.uF Y.cF (fun n' hn cs' x' hx=>by
   obtain ⟨n2,ds2,rfl,hl2,hag2,hds2,hf2⟩:=one_fieldS Y.hF hx
   rw [Y.cF] at hl2
   rw [hs2] at hds2
   match cs',hl2,ds2,hds2 with
   | [z0,z1,z2,z3,z4,z5,z6,z7,z8,z9,z10,z11,z12,z13,z14,z15],_,[g0,g1,g2,g3,g4],_ =>
    obtain ⟨_,p0,m0⟩:=hf2 0 0 _ Y.g0
    obtain ⟨_,p1,m1⟩:=hf2 1 1 _ Y.g1
    obtain ⟨_,p2,m2⟩:=hf2 2 2 _ Y.g2
    obtain ⟨_,p3,m3⟩:=hf2 3 3 _ Y.g3
    obtain ⟨_,p4,m4⟩:=hf2 4 10 _ Y.g4
    simp only [List.getElem?_cons_zero,List.getElem?_cons_succ,Option.some.injEq] at m0 m1 m2 m3 m4
    subst m0 m1 m2 m3 m4
    rw [c2] at p0
    rw [c3] at p1 p2
    rw [Y.cT] at p3
    rw [Y.Tv.cV] at p4
    obtain ⟨ks,kv,d0,j0,lk⟩:=arg_strS (O:=O) hbk Y.uS p0
    obtain ⟨b1,d1,j1⟩:=arg_bool (O:=O) Y.uB p1
    obtain ⟨b2,d2,j2⟩:=arg_bool (O:=O) Y.uB p2
    obtain ⟨y,j3,hyb,hy⟩:=ih n2 (by omega) _ _ p3
    obtain ⟨v,j4,hvb,hv⟩:=arg_valS (O:=O) hbk Y.Tv hv hv2 hO _ _ _ p4
    simp at d0 d1 d2
    subst d0 d1 d2
    have j3:All2 (Im O W) (encTyp y) [z3,z4,z5,z6,z7,z8,z9]:=by simpa using j3
    have j4:All2 (Im O W) (encVal v) [z10,z11,z12,z13,z14,z15]:=by simpa using j4
    refine ⟨⟨ks,b1,b2,y,v⟩,All2.cons j0 (All2.cons j1 (All2.cons j2 (j3.append j4))),?_,hv,hy⟩
    rw [hag2]
    refine Nat.le_trans ?_ (hbk.ag _)
    rw [bkYP_eq]
    simp only [List.map_cons,List.map_nil,List.sum_cons,List.sum_nil]
    omega) q5
  obtain ⟨nm,vn,e6,i6,z6⟩:=arg_strS (O:=O) hbk Y.uS q6
  simp at e0 e1 e2 e3 e4 e5 e6
  subst e0 e1 e2 e3 e4 e5 e6
  refine ⟨⟨k,lo,hi,tx,l,fl,nm⟩,All2.cons i0 (All2.cons i1 (All2.cons i2 (All2.cons i3 (All2.cons i4 (All2.cons i5 (All2.cons i6 (All2.nil _))))))),?_,.mk _ ⟨wf_i64 w0,wf_i64 w1,wf_i64 w2⟩ (fun f hf=>(r5 f hf).1) r4 fun f hf=>(r5 f hf).2⟩
  have h9:=hbk.ag [y0.1,y1.1,y2.1,y3.1,y4.1,y5.1,y6.1]
  have p0:=hbk.pos y0.1
  rw [hag]
  refine Nat.le_trans ?_ h9
  rw [bkY_eq]
  simp only [List.map_cons,List.map_nil,List.sum_cons,List.sum_nil]
  omega
theorem arg_schS {C : TypeId} (hbk : BulkS bk) (S : CTy P C) (h1 : S.fs.size = 2) (h2 : S.gs.size = 2) (hs : S.Y.fs.size = 7) (hs2 : S.Y.gs.size = 5) (hv : S.Y.Tv.fs.size = 6) (hv2 : S.Y.Tv.gs.size = 2) (hO : ∀ k, ¬ O k) {fuel : Nat} {cs : List Value} {x : DataW H × List MemPlace} (h : DataW.trod encH P W 0 sp hd fuel C cs = some x) :
  ∃ y:SchemaR,All2 (Im O W) (.rd .dfn y.defs::encTyp y.root) cs∧bkC y≤bk x.1∧(∀ d ∈ y.defs,YB d.t)∧YB y.root:=by
 obtain ⟨n,ds,rfl,hl,hag,hds,hf⟩:=one_fieldS S.hC h
 rw [S.cC] at hl
 rw [h1] at hds
 obtain ⟨c0,c1⟩:=S.c
 match cs,hl,ds,hds with
 | [u0,u1,u2,u3,u4,u5,u6,u7],_,[d0,d1],_ =>
  obtain ⟨y0,q0,k0⟩:=hf 0 0 _ S.h0
  obtain ⟨y1,q1,k1⟩:=hf 1 1 _ S.h1
  simp only [List.getElem?_cons_zero,List.getElem?_cons_succ,Option.some.injEq] at k0 k1
  subst k0 k1
  rw [c0] at q0
  rw [S.Y.cT] at q1
  obtain ⟨l,vl,e0,i0,z0,r0⟩:=arg_sliceS (O:=O) (τ:=.dfn) (m:=bkD) (R:=fun d=>YB d.t) hbk hO S.uD S.cD (fun n' hn cs' x' hx=>by
   obtain ⟨n2,ds2,rfl,hl2,hag2,hds2,hf2⟩:=one_fieldS S.hD hx
   rw [S.cD] at hl2
   rw [h2] at hds2
   match cs',hl2,ds2,hds2 with
   | [z0,z1,z2,z3,z4,z5,z6,z7],_,[g0,g1],_ =>
    obtain ⟨_,p0,m0⟩:=hf2 0 0 _ S.g0
    obtain ⟨_,p1,m1⟩:=hf2 1 1 _ S.g1
    simp only [List.getElem?_cons_zero,List.getElem?_cons_succ,Option.some.injEq] at m0 m1
    subst m0 m1
    rw [c1] at p0
    rw [S.Y.cT] at p1
    obtain ⟨ks,kv,d0,j0,lk⟩:=arg_strS (O:=O) hbk S.uS p0
    obtain ⟨y,j1,hyb,hy⟩:=arg_typS (O:=O) hbk S.Y hs hs2 hv hv2 hO _ _ _ p1
    simp at d0
    subst d0
    have j1:All2 (Im O W) (encTyp y) [z1,z2,z3,z4,z5,z6,z7]:=by simpa using j1
    refine ⟨⟨ks,y⟩,All2.cons j0 j1,?_,hy⟩
    rw [hag2]
    refine Nat.le_trans ?_ (hbk.ag _)
    simp only [bkD,List.map_cons,List.map_nil,List.sum_cons,List.sum_nil]
    omega) q0
  obtain ⟨y,j1,hyb,hy⟩:=arg_typS (O:=O) hbk S.Y hs hs2 hv hv2 hO _ _ _ q1
  simp at e0
  subst e0
  have j1:All2 (Im O W) (encTyp y) [u1,u2,u3,u4,u5,u6,u7]:=by simpa using j1
  refine ⟨⟨l,y⟩,All2.cons i0 j1,?_,r0,hy⟩
  have h9:=hbk.ag [y0.1,y1.1]
  rw [hag]
  refine Nat.le_trans ?_ h9
  simp only [bkC,List.map_cons,List.map_nil,List.sum_cons,List.sum_nil]
  omega
end
/-! what bulk bounds -/
theorem bkT_pos (s:Str):1≤bkT s:=Nat.le_add_left ..
theorem bkY_pos (t:TypR):1≤bkY t:=by rw [bkY_eq]; omega
theorem bkYP_pos (f:FldP TypR):1≤bkYP f:=by rw [bkYP_eq]; omega
theorem bkD_pos (d:DefR):1≤bkD d:=Nat.le_add_left ..
theorem bkY_len (t:TypR):t.texts.length + t.t.length + t.f.length + t.name.length < bkY t:=by
 have h1:=sum_len (m:=bkT) bkT_pos t.texts
 have h2:=sum_len (m:=bkY) bkY_pos t.t
 have h3:=sum_len (m:=bkYP) bkYP_pos t.f
 rw [bkY_eq]
 omega
theorem bkY_t {t x:TypR} (h:x ∈ t.t):bkY x < bkY t:=by
 have:=sum_mem (m:=bkY) h
 rw [bkY_eq t]
 omega
theorem bkY_f {t:TypR} {f:FldP TypR} (h:f ∈ t.f):bkY f.t + bkV f.dflt + f.name.length < bkY t:=by
 have:=sum_mem (m:=bkYP) h
 rw [bkYP_eq] at this
 rw [bkY_eq t]
 omega
theorem bkC_len (s:SchemaR):s.defs.length < bkC s:=by
 have:=sum_len (m:=bkD) bkD_pos s.defs
 unfold bkC
 omega
theorem bkC_def {s:SchemaR} {d:DefR} (h:d ∈ s.defs):bkY d.t + d.name.length < bkC s:=by
 have:=sum_mem (m:=bkD) h
 have e:bkD d = d.name.length + bkY d.t + 1:=rfl
 rw [e] at this
 unfold bkC
 omega
theorem bkC_root (s:SchemaR):bkY s.root < bkC s:=by
 unfold bkC
 omega
end Go.SX
end
section
namespace Go.Proofs.YtdcdmojbkmedpaaDoor
open Go Go.SX Go.Ck Go.Vl Go.Ut Go.Ty
theorem vn_bulk {n:Nat}:∀ (k:Nat) (v:Val),SizeOf.sizeOf v < k→bkV v≤n→VN n v:=by
 intro k
 induction k with
 | zero=>intro v h; exact absurd h (Nat.not_lt_zero _)
 | succ k ih =>
  intro v h hb
  have hl:=bkV_len v
  refine .mk v (by omega) (by omega) (fun x hx=>ih x ?_ ?_) (fun p hp=>ih p.2 ?_ ?_)
  ·have h1:=List.sizeOf_lt_of_mem hx
   obtain ⟨a,b,c,d,e,f⟩:=v
   simp only at h1
   simp only [Val.mk.sizeOf_spec] at h
   omega
  ·have:=bkV_mem hx
   omega
  ·have h1:=List.sizeOf_lt_of_mem hp
   obtain ⟨a,b,c,d,e,f⟩:=v
   obtain ⟨q,w⟩:=p
   simp only [Prod.mk.sizeOf_spec] at h1
   simp only [Val.mk.sizeOf_spec] at h
   show SizeOf.sizeOf w < k
   omega
  ·have:=bkV_ent hp
   omega
theorem tb_bulk:∀ (k:Nat) (t:TypR),SizeOf.sizeOf t < k→YB t→bkY t≤1048576→TB t∧DN t:=by
 intro k
 induction k with
 | zero=>intro t h; exact absurd h (Nat.not_lt_zero _)
 | succ k ih =>
  intro t h hy hb
  have hl:=bkY_len t
  have hin:∀ x ∈ Ty.inside t,TB x∧DN x:=fun x hx=>by
   refine ih x (by have:=size_inside hx; omega) ?_ ?_
   ·cases hy with
    | mk _ _ _ h1 h2 =>
     rcases List.mem_append.1 hx with hx | hx
     ·exact h1 x hx
     ·obtain ⟨f,hf,rfl⟩:=List.mem_map.1 hx
      exact h2 f hf
   ·rcases List.mem_append.1 hx with hx | hx
    ·have:=bkY_t hx
     omega
    ·obtain ⟨f,hf,rfl⟩:=List.mem_map.1 hx
     have:=bkY_f hf
     omega
  cases hy with
  | mk _ h1 h2 _ _ =>
   refine ⟨.mk t h1.1 h1.2.1 h1.2.2 ⟨by omega,by omega,by omega⟩ (fun f hf=>⟨h2 f hf,?_⟩) (fun x hx=>(hin x (List.mem_append_left _ hx)).1) (fun f hf=>(hin f.t (List.mem_append_right _ (List.mem_map.2 ⟨f,hf,rfl⟩))).1),.mk t (fun f hf=>vn_bulk _ f.dflt (Nat.lt_succ_self _) ?_) fun x hx=>(hin x hx).2⟩
   ·have:=siz_bulk f.dflt
    have:=bkY_f hf
    omega
   ·have:=bkY_f hf
    omega
theorem tb_of {t:TypR} (h:YB t) (hb:bkY t≤1048576):TB t∧DN t:=tb_bulk _ t (Nat.lt_succ_self _) h hb
theorem tb_defs {s:SchemaR} (h:∀ d ∈ s.defs,YB d.t) (hr:YB s.root) (hb:bkC s≤1048576):(∀ d ∈ s.defs,TB d.t∧DN d.t)∧(TB s.root∧DN s.root)∧s.defs.length≤2000000 :=
 ⟨fun d hd=>tb_of (h d hd) (by have:=bkC_def hd; omega),tb_of hr (by have:=bkC_root s; omega),by have:=bkC_len s; omega⟩
end Go.Proofs.YtdcdmojbkmedpaaDoor
end
