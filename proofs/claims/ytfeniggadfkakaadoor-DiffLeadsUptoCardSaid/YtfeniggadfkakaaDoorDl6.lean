/-
 'typecaselaw.DiffLeads' returns true,whatever the input,where what comes in is of bulk at most 1048576,and the input reads as it did. No conditions.
-/
import Derived.Test.YtfeniggadfkakaaDoorDl5
import Derived.Test.YtfeniggadfkakaaDoorRows
import Derived.WalkKit
import Derived.ProofKit
import Derived.OpenShut
import Derived.JoinedCond
import Derived.ChangeMaps5
import Derived.Test.YtfeniggadfkakaaDoorCards
import Derived.Test.YtfeniggadfkakaaDoorTie
import Derived.Deep.DeepHandedRow
import Derived.Lib.LaidU8
import Derived.PinnedBridge
set_option linter.constructorNameAsVariable false
set_option linter.unusedVariables false
set_option linter.unusedSimpArgs false
set_option linter.unusedSectionVars false
section
namespace Go.Proofs.YtfeniggadfkakaaDoor.diffLeads
open Go Go.SX Go.Ck Go.Vl Go.Up Go.Ut Go.Df
open Go.ChangeShapes Go.WideShapes Go.ChangeAt Go.RowKit
set_option maxRecDepth 100000
theorem own:ownKnob Tryd.prog.godebug = none:=by kernel_rfl
theorem laidOut:laidOutB Tryd.prog = true:=by kernel_rfl
theorem cell_block {w:World} {g o:Nat} {k:IntKind} {n:Int} (h:w.cell? ⟨g,o,none⟩ = some (.int k n)):∃ cur e fz,w.heap[g]? = some (.cells cur e fz)∧cur[o]? = some (.int k n):=by
 unfold World.cell? at h
 split at h
 ·rename_i cur e fz hh
  exact ⟨_,_,_,hh,by simpa using h⟩
 ·cases h
noncomputable def vty [G:Globs]:VTy Tryd.prog 26 where
 fs:=_
 gs:=_
 K:=3
 N:=2
 U:=22
 S:=9
 L:=23
 E:=24
 En:=55
 hV:=Tryd.underlying26
 cV:=by kernel_rfl
 h0:=⟨_,rfl,rfl,rfl⟩
 h1:=⟨_,rfl,rfl,rfl⟩
 h2:=⟨_,rfl,rfl,rfl⟩
 h3:=⟨_,rfl,rfl,rfl⟩
 h4:=⟨_,rfl,rfl,rfl⟩
 h5:=⟨_,rfl,rfl,rfl⟩
 uK:=Tryd.underlying3
 uN:=Tryd.underlying2
 uU:=Tryd.underlying22
 uS:=Tryd.underlying9
 uL:=Tryd.underlying23
 uE:=Tryd.underlying24
 c:=⟨by kernel_rfl,by kernel_rfl,by kernel_rfl,by kernel_rfl,by kernel_rfl,by kernel_rfl⟩
 hE:=Tryd.underlying55
 cE:=by kernel_rfl
 g0:=⟨_,rfl,rfl,rfl⟩
 g1:=⟨_,rfl,rfl,rfl⟩
theorem bulk_pos {H:Type} (d:DataW H):1≤Rows.uptoBulk d:=by
 cases d with
 | lit l=>cases l<;>simp [Rows.uptoBulk]
 | _=>simp [Rows.uptoBulk]
theorem bulk_sum {H:Type}:∀ ds:List (DataW H),Rows.uptoBulkAll ds = (ds.map Rows.uptoBulk).sum
 | []=>by simp [Rows.uptoBulkAll]
 | d::ds=>by simp [Rows.uptoBulkAll,bulk_sum ds]
theorem bulk_law {H:Type}:BulkS (H:=H) Rows.uptoBulk where
 sl:=fun els rest=>by
  have:=bulk_sum els
  simp only [Rows.uptoBulk]
  omega
 ag:=fun ds=>by
  have:=bulk_sum ds
  simp only [Rows.uptoBulk]
  omega
 st:=fun b=>by simp [Rows.uptoBulk]
 pos:=bulk_pos
theorem arg_vl {H : Type} {enc : TypeId × Value → H} {W : World} {v : Value} {d : DataW H} {ps : List MemPlace} {r : Reach} {b : Nat} (hval : Value.okWide Tryd.prog W r b 26 v)
  (h:DataW.Trod enc Tryd.prog W 0 (fun _=>true) true 26 v d ps):∃ y:Val,Im (fun _=>False) W (.agg (encVal y)) v∧VB y∧bkV y≤Rows.uptoBulk d:=by
 obtain ⟨cs,rfl,_⟩:=okWide_struct Tryd.underlying26 hval
 obtain ⟨fuel,hf⟩:=h
 letI:Globs:=⟨[]⟩
 obtain ⟨y,h1,h3,h2⟩:=arg_valS (O:=fun _=>False) bulk_law vty rfl rfl (fun _ h=>h) fuel _ _ hf
 have h1:All2 (Im (fun _=>False) W) (encVal y) cs.toList:=h1
 obtain ⟨l⟩:=cs
 refine ⟨y,.agg _ l h1.1 (fun v hv=>?_) h1.2,h2,h3⟩
 obtain ⟨j,hj,rfl⟩:=List.getElem_of_mem hv
 have hj':j < (encVal y).length:=by rw [h1.1]; exact hj
 exact plain_one (h1.2 j _ _ (List.getElem?_eq_getElem hj') (List.getElem?_eq_getElem hj)) (enc_plain .val y _ (List.getElem_mem hj'))
theorem contract (H : Type) (enc : TypeId × Value → H) (W : World) (base : Nat) (args : Array Value) (ds gs : List (DataW H)) (before : List MemPlace)
  (hval:∀ (j:Nat) t v,Tryd.f3.params[j]? = some t→args[j]? = some v→Value.okWide Tryd.prog W .any base t v)
  (hW:DataW.Whole enc Tryd.prog Tryd.f3.params.toList Rows.diffLeadsSpec.vars false W args.toList ds gs before) (hk:Rows.uptoSmall H (ds++gs) = true) (hL:laidMetH Tryd.prog Rows.diffLeadsUptoRow.laid W) :
  Calls Tryd.prog 3 args W fun e W'=>∃ v,e = .returned v∧Rows.diffLeadsSpec.post enc Tryd.prog Tryd.f3 false true false false W args v W':=by
 have hW':=hW
 obtain ⟨p,q,hA0,hV,rfl,hfz,hnd⟩:=hW
 have hA:DataW.TrodAll enc Tryd.prog W 0 (fun _=>true) true Tryd.f3.params.toList args.toList ds p:=hA0
 rw [Tryd.params3] at hA hval
 obtain ⟨v0,vs0,d0,ds0,p0,q0,hargs0,rfl,rfl,h0,r0⟩:=trodAll_cons hA
 obtain ⟨v1,vs1,d1,ds1,p1,q1,hargs1,rfl,rfl,h1,r1⟩:=trodAll_cons r0
 obtain ⟨rfl,rfl,rfl⟩:=trodAll_nil r1
 obtain rfl:args = #[v0,v1]:=by cases args; simp_all
 obtain ⟨rfl,rfl⟩:=trodVars_none hV
 obtain ⟨a0,i0,b0,bn0⟩:=arg_vl (hval 0 26 v0 rfl rfl) h0
 obtain ⟨a1,i1,b1,bn1⟩:=arg_vl (hval 1 26 v1 rfl rfl) h1
 have hW'':=hW'
 have bk:Rows.uptoBulkAll _≤1048576:=of_decide_eq_true hk
 simp only [List.append_nil,List.cons_append,List.nil_append,Rows.uptoBulkAll,Rows.uptoBulk,Array.length_toList] at bk
 have hL':laidMet Tryd.prog Rows.diffLeadsUptoRow.laid W:=hL
 have hU:Lib.Utf8Tabs 0 1 W:=utf8Tabs_of_reads (ρ:=Tryd.lays260_ren) Tryd.lays260 ⟨by kernel_rfl,by kernel_rfl,by kernel_rfl,by kernel_rfl,by kernel_rfl,by kernel_rfl,by kernel_rfl⟩ (by have:=Lib.laidMet.reads hL' (.tail _ (.head _)); rw [show Rows.laid_unicode_utf8_first = Lib.firstData from Pinned.utf8First_eq] at this; exact this) (by have:=Lib.laidMet.reads hL' (.head _); rw [show Rows.laid_unicode_utf8_acceptRanges = Lib.acceptData by kernel_rfl] at this; exact this)
 obtain ⟨cur0,e0,fz0,hh0,_⟩:=cell_block (hU.1 0 (by decide))
 obtain ⟨cur1,e1,fz1,hh1,_⟩:=cell_block (hU.2 0 (by decide)).1
 let G:Globs:=⟨[(0,.cells cur0 e0 fz0),(1,.cells cur1 e1 fz1)]⟩
 have hu:@HasU8 G:=⟨_,_,.head _,.tail _ (.head _),fun w k0 k1=>by
  have c0:∀ o,w.cell? ⟨0,o,none⟩ = W.cell? ⟨0,o,none⟩:=fun o=>World.cell?_of_block (k0.trans hh0.symm)
  have c1:∀ o,w.cell? ⟨1,o,none⟩ = W.cell? ⟨1,o,none⟩:=fun o=>World.cell?_of_block (k1.trans hh1.symm)
  exact ⟨fun c hc=>(c0 c).trans (hU.1 c hc),fun i hi=>⟨(c1 _).trans (hU.2 i hi).1,(c1 _).trans (hU.2 i hi).2⟩⟩⟩
 have hG:@GlobOK G (fun _=>False) W:=fun p hp=>by
  rcases List.mem_cons.1 hp with rfl | hp
  ·exact ⟨fun h=>h,hh0⟩
  ·cases List.mem_singleton.1 hp
   exact ⟨fun h=>h,hh1⟩
 refine ((s_lawL (G:=G) hu a0 a1 ⟨b0,by omega⟩ ⟨b1,by omega⟩).2 (fun _=>False) W [v0,v1] (fun _ h=>h.elim) hG (All2.cons i0 (All2.cons i1 (All2.nil _)))).mono fun e W' ⟨v,he,hst,hv⟩=>?_
 subst he
 cases hv
 have hb:=hst.below
 have hlt:∀ x:MemPlace,x ∈ (p0++(p1++[]))++[]→x.block < W.heap.size:=fun x hx=>hW''.lt x hx
 have hargs':∀ sp:Nat→Bool,(∀ x:MemPlace,x ∈ (p0++(p1++[]))++[]→sp x.block = true)→DataW.TrodAll enc Tryd.prog W' 0 sp true [26,26] [v0,v1] [d0,d1] (p0++(p1++[])):=fun sp hsp =>
  trodAll_cons_mk (WideElems.Trod_stays laidOut (by kernel_rfl) (of_decide_eq_true (by kernel_rfl)) h0 (fun x hx=>hb.same (hlt x (by simp [hx]))) (fun x hx=>hsp x (by simp [hx]))) (trodAll_cons_mk (WideElems.Trod_stays laidOut (by kernel_rfl) (of_decide_eq_true (by kernel_rfl)) h1 (fun x hx=>hb.same (hlt x (by simp [hx]))) (fun x hx=>hsp x (by simp [hx]))) (trodAll_mk0))
 exact ⟨_,rfl,post_of_below (pa:=p0++(p1++[])) (pv:=[]) hW'' (fun _ _ _=>(trodAll_cons_mk (shut_bool Tryd.underlying4 _) trodAll_mk0)) (fun sp hsp=>hargs' sp hsp) (fun _ _=>rfl) rfl
  hb (ok_one (by kernel_rfl) rfl (okWide_bool_mk Tryd.underlying4 _))⟩
def layB (cs:List Value):Obj→Obj
 | .cells _ t frozen=>.cells cs.toArray t frozen
 | o=>o
noncomputable def laidWorld (os:Os):World :=
 { World.holding Tryd.prog os ⟨#[],#[],[]⟩ with
  heap:=((World.holding Tryd.prog os ⟨#[],#[],[]⟩).heap.modify 0 (layB (Pinned.utf8FirstZ.map fun (n:Nat)=>Value.int .u8 (n:Int)))).modify 1
   (layB ([128,191,160,191,128,159,144,191,128,143,0,0,0,0,0,0,0,0,0,0,0,0,0,0,0,0,0,0,0,0,0,0].map fun n=>Value.int .u8 n)) }
theorem laid_met (os:Os):laidMet Tryd.prog Rows.diffLeadsUptoRow.laid ((laidWorld os).forCall (fun _ _=>0) ⟨#[],#[.agg #[.int .i64 0,.int .i64 0,.int .u64 0,.string .empty,.slice none 0 0,.slice none 0 0],.agg #[.int .i64 0,.int .i64 0,.int .u64 0,.string .empty,.slice none 0 0,.slice none 0 0]],[]⟩).memory :=
 laidMet_of_run' 8 (by kernel_rfl) (by kernel_rfl)
theorem reads (os:Os) {H:Type} (enc:TypeId × Value→H):∃ places,DataW.whole enc Tryd.prog ((laidWorld os).forCall (fun _ _=>0) ⟨#[],#[.agg #[.int .i64 0,.int .i64 0,.int .u64 0,.string .empty,.slice none 0 0,.slice none 0 0],.agg #[.int .i64 0,.int .i64 0,.int .u64 0,.string .empty,.slice none 0 0,.slice none 0 0]],[]⟩).memory Tryd.f3.params.toList Rows.diffLeadsSpec.vars false #[.agg #[.int .i64 0,.int .i64 0,.int .u64 0,.string .empty,.slice none 0 0,.slice none 0 0],.agg #[.int .i64 0,.int .i64 0,.int .u64 0,.string .empty,.slice none 0 0,.slice none 0 0]].toList 8 = some ([.agg [.lit (.int .i64 0),.lit (.int .i64 0),.lit (.int .u64 0),.lit (.string []),.nil,.nil],.agg [.lit (.int .i64 0),.lit (.int .i64 0),.lit (.int .u64 0),.lit (.string []),.nil,.nil]],[],places) :=
 ⟨[],by kernel_rfl⟩
set_option maxRecDepth 100000 in
theorem lifted (os : Os) (started : os.Started) (H : Type) (enc : TypeId × Value → H) (F : Stop.Interp) :
  ReturnsInHanded {} Tryd.checked os 3 .any ((Rows.OpenSpec.upto Rows.diffLeadsSpec).preRow enc Tryd.prog Tryd.f3 Rows.diffLeadsUptoRow.domain false Rows.diffLeadsUptoRow.laid) (((Rows.OpenSpec.upto Rows.diffLeadsSpec).at F).post enc Tryd.prog Tryd.f3 false true false false):=by
 obtain ⟨places,hx⟩:=reads os enc
 refine returnsInHanded_of_row (C:=Tryd.checked) (s:=Rows.OpenSpec.upto Rows.diffLeadsSpec) own started (by kernel_rfl) Tryd.func3
  (witness_row_at (enc:=enc) (C:=Tryd.checked) false (laidWorld os) #[.agg #[.int .i64 0,.int .i64 0,.int .u64 0,.string .empty,.slice none 0 0,.slice none 0 0],.agg #[.int .i64 0,.int .i64 0,.int .u64 0,.string .empty,.slice none 0 0,.slice none 0 0]] rfl (by kernel_rfl) (by kernel_rfl) (by kernel_rfl)
   (OpenSpec.preRow_of_cond 8 hx (by kernel_rfl) (fun k hk=>by cases hk; kernel_rfl) (by kernel_rfl) (laid_met os))) ?_
 intro W base args ds gs before hval hW _ hcond _ hL _ _
 exact contract H enc W base args ds gs before hval hW (hcond _ rfl) hL
theorem said:Rows.DiffLeadsUptoSaid :=
 OpenClaim.holds_of_cond 3 Tryd.f3 rfl rfl rfl rfl rfl rfl rfl ⟨rfl,rfl,rfl,rfl,rfl⟩ rfl rfl rfl rfl rfl (by kernel_rfl) Tryd.func3 (by kernel_rfl)
  (of_decide_eq_true (by kernel_rfl)) (by unfold Func.isWrapper; first | (rw [if_pos (by decide +kernel)]; kernel_rfl) | (rw [if_neg (by decide +kernel)]; exact ⟨rfl,rfl⟩))
  (fun os started H enc _ F=>by rw [OpenClaim.pre_eq_preRow]; exact lifted os started H enc F)
theorem plain (f : FuncId) (fn : Func) (hf : Tryd.pinned.checked.prog.funcNamed "typecase/typecaselaw.DiffLeads" = some f) (hfn : Tryd.pinned.checked.prog.funcs[f]? = some fn) :
  false = Tryd.pinned.checked.prog.looks []∧∀ (j:Nat) t,fn.params[j]? = some t→Tryd.pinned.checked.prog.wantsStandIn t = false:=by
 obtain rfl : f = 3 := Option.some.inj ((show Tryd.prog.funcNamed "typecase/typecaselaw.DiffLeads" = some 3 by kernel_rfl).symm.trans hf) |>.symm
 obtain rfl:fn = Tryd.f3:=(Option.some.inj (Tryd.func3.symm.trans hfn)).symm
 refine ⟨by kernel_rfl,fun j t ht=>?_⟩
 rw [Tryd.params3] at ht
 have hm:=Array.mem_of_getElem? ht
 simp only [List.mem_toArray,List.mem_cons,List.not_mem_nil,or_false] at hm
 rcases hm with rfl | rfl
 ·exact (show Tryd.prog.wantsStandIn 26 = false by kernel_rfl)
 ·exact (show Tryd.prog.wantsStandIn 26 = false by kernel_rfl)
theorem proved:Rows.DiffLeadsUptoCardSaid :=
 Claim7.holds_tied_plain_at .later [] _ _ _ _ said (fun _ h=>by cases h) (by kernel_rfl) (fun _ h=>by cases h) diffLeadsUpto_row_tie rfl ⟨rfl,rfl⟩ (by kernel_rfl) rfl plain (by kernel_rfl)

end Go.Proofs.YtfeniggadfkakaaDoor.diffLeads
end
