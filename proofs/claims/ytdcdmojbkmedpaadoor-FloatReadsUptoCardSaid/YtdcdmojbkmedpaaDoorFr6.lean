/-
 'typecaselaw.FloatReads' returns true,whatever the input,where what comes in is of bulk at most 1048576,and the input reads as it did. No conditions.
-/
import Derived.Test.YtdcdmojbkmedpaaDoorFr5
import Derived.Test.YtdcdmojbkmedpaaDoorRows
import Derived.WalkKit
import Derived.ProofKit
import Derived.OpenShut
import Derived.JoinedCond
import Derived.ChangeMaps5
import Derived.Test.YtdcdmojbkmedpaaDoorCards
import Derived.Test.YtdcdmojbkmedpaaDoorTie
import Derived.Deep.DeepHandedRow
import Derived.Lib.LaidU8
import Derived.PinnedBridge
set_option linter.constructorNameAsVariable false
set_option linter.unusedVariables false
set_option linter.unusedSimpArgs false
set_option linter.unusedSectionVars false
section
namespace Go.Proofs.YtdcdmojbkmedpaaDoor.floatReads
open Go Go.SX Go.Bg Go.Nm
open Go.ChangeShapes Go.WideShapes Go.ChangeAt Go.RowKit
set_option maxRecDepth 100000
theorem own:ownKnob Tryd.prog.godebug = none:=by kernel_rfl
theorem laidOut:laidOutB Tryd.prog = true:=by kernel_rfl
theorem cell_block {w:World} {g o:Nat} {k:IntKind} {n:Int} (h:w.cell? ⟨g,o,none⟩ = some (.int k n)):∃ cur e fz,w.heap[g]? = some (.cells cur e fz)∧cur[o]? = some (.int k n):=by
 unfold World.cell? at h
 split at h
 ·rename_i cur e fz hh
  exact ⟨_,_,_,hh,by simpa using h⟩
 ·cases h
theorem contract (H : Type) (enc : TypeId × Value → H) (W : World) (base : Nat) (args : Array Value) (ds gs : List (DataW H)) (before : List MemPlace)
  (hval:∀ (j:Nat) t v,Tryd.f10.params[j]? = some t→args[j]? = some v→Value.okWide Tryd.prog W .any base t v)
  (hW:DataW.Whole enc Tryd.prog Tryd.f10.params.toList Rows.floatReadsSpec.vars false W args.toList ds gs before) (hk:Rows.uptoSmall H (ds++gs) = true) (hL:laidMetH Tryd.prog Rows.floatReadsUptoRow.laid W) :
  Calls Tryd.prog 10 args W fun e W'=>∃ v,e = .returned v∧Rows.floatReadsSpec.post enc Tryd.prog Tryd.f10 false true false false W args v W':=by
 have hW':=hW
 obtain ⟨p,q,hA0,hV,rfl,hfz,hnd⟩:=hW
 have hA:DataW.TrodAll enc Tryd.prog W 0 (fun _=>true) true Tryd.f10.params.toList args.toList ds p:=hA0
 rw [Tryd.params10] at hA hval
 obtain ⟨v0,vs0,d0,ds0,p0,q0,hargs0,rfl,rfl,h0,r0⟩:=trodAll_cons hA
 obtain ⟨rfl,rfl,rfl⟩:=trodAll_nil r0
 obtain rfl:args = #[v0]:=by cases args; simp_all
 obtain ⟨rfl,rfl⟩:=trodVars_none hV
 obtain ⟨s0,rfl,rfl,rfl,hmax0⟩:=Go.ChangeMaps.open_string Tryd.underlying9 (hval 0 9 v0 rfl rfl) h0
 have i0:Im (fun _=>False) W (.s s0.data.toList) (.string s0):=by have:=Im.s (O:=fun _=>False) (w:=W) s0.data.toList (by rw [Array.length_toList]; exact hmax0); simpa using this
 have hW'':=hW'
 have bk:Rows.uptoBulkAll _≤1048576:=of_decide_eq_true hk
 simp only [List.append_nil,List.cons_append,List.nil_append,Rows.uptoBulkAll,Rows.uptoBulk,Array.length_toList] at bk
 have hL':laidMet Tryd.prog Rows.floatReadsUptoRow.laid W:=hL
 have hU:Lib.Utf8Tabs 1 2 W:=utf8Tabs_of_reads (ρ:=Tryd.lays260_ren) Tryd.lays260 ⟨by kernel_rfl,by kernel_rfl,by kernel_rfl,by kernel_rfl,by kernel_rfl,by kernel_rfl,by kernel_rfl⟩ (by have:=Lib.laidMet.reads hL' (.tail _ (.head _)); rw [show Rows.laid_unicode_utf8_first = Lib.firstData from Pinned.utf8First_eq] at this; exact this) (by have:=Lib.laidMet.reads hL' (.head _); rw [show Rows.laid_unicode_utf8_acceptRanges = Lib.acceptData by kernel_rfl] at this; exact this)
 obtain ⟨cur0,e0,fz0,hh0,_⟩:=cell_block (hU.1 0 (by decide))
 obtain ⟨cur1,e1,fz1,hh1,_⟩:=cell_block (hU.2 0 (by decide)).1
 let G:Globs:=⟨[(1,.cells cur0 e0 fz0),(2,.cells cur1 e1 fz1)]⟩
 have hG:@GlobOK G (fun _=>False) W:=fun p hp=>by
  rcases List.mem_cons.1 hp with rfl | hp
  ·exact ⟨fun h=>h,hh0⟩
  ·cases List.mem_singleton.1 hp
   exact ⟨fun h=>h,hh1⟩
 refine ((s_floatReads (G:=G) s0.data.toList (by rw [Array.length_toList]; omega)).2 (fun _=>False) W [.string s0] (fun _ h=>h.elim) hG (All2.cons i0 (All2.nil _))).mono fun e W' ⟨v,he,hst,hv⟩=>?_
 subst he
 cases hv
 have hb:=hst.below
 have hlt:∀ x:MemPlace,x ∈ ([]++[])++[]→x.block < W.heap.size:=fun x hx=>hW''.lt x hx
 have hargs':∀ sp:Nat→Bool,(∀ x:MemPlace,x ∈ ([]++[])++[]→sp x.block = true)→DataW.TrodAll enc Tryd.prog W' 0 sp true [9] [.string s0] [.lit (.string s0.data.toList)] ([]++[]):=fun sp hsp =>
  trodAll_cons_mk (Go.ChangeMaps.shut_string Tryd.underlying9 hmax0) (trodAll_mk0)
 exact ⟨_,rfl,post_of_below (pa:=[]++[]) (pv:=[]) hW'' (fun _ _ _=>(trodAll_cons_mk (shut_bool Tryd.underlying4 _) trodAll_mk0)) (fun sp hsp=>hargs' sp hsp) (fun _ _=>rfl) rfl
  hb (ok_one (by kernel_rfl) rfl (okWide_bool_mk Tryd.underlying4 _))⟩
def layB (cs:List Value):Obj→Obj
 | .cells _ t frozen=>.cells cs.toArray t frozen
 | o=>o
noncomputable def laidWorld (os:Os):World :=
 { World.holding Tryd.prog os ⟨#[],#[],[]⟩ with
  heap:=((World.holding Tryd.prog os ⟨#[],#[],[]⟩).heap.modify 1 (layB (Pinned.utf8FirstZ.map fun (n:Nat)=>Value.int .u8 (n:Int)))).modify 2
   (layB ([128,191,160,191,128,159,144,191,128,143,0,0,0,0,0,0,0,0,0,0,0,0,0,0,0,0,0,0,0,0,0,0].map fun n=>Value.int .u8 n)) }
theorem laid_met (os:Os):laidMet Tryd.prog Rows.floatReadsUptoRow.laid ((laidWorld os).forCall (fun _ _=>0) ⟨#[],#[.string .empty],[]⟩).memory :=
 laidMet_of_run' 8 (by kernel_rfl) (by kernel_rfl)
theorem reads (os:Os) {H:Type} (enc:TypeId × Value→H):∃ places,DataW.whole enc Tryd.prog ((laidWorld os).forCall (fun _ _=>0) ⟨#[],#[.string .empty],[]⟩).memory Tryd.f10.params.toList Rows.floatReadsSpec.vars false #[.string .empty].toList 8 = some ([.lit (.string [])],[],places) :=
 ⟨[],by kernel_rfl⟩
set_option maxRecDepth 100000 in
theorem lifted (os : Os) (started : os.Started) (H : Type) (enc : TypeId × Value → H) (F : Stop.Interp) :
  ReturnsInHanded {} Tryd.checked os 10 .any ((Rows.OpenSpec.upto Rows.floatReadsSpec).preRow enc Tryd.prog Tryd.f10 Rows.floatReadsUptoRow.domain false Rows.floatReadsUptoRow.laid) (((Rows.OpenSpec.upto Rows.floatReadsSpec).at F).post enc Tryd.prog Tryd.f10 false true false false):=by
 obtain ⟨places,hx⟩:=reads os enc
 refine returnsInHanded_of_row (C:=Tryd.checked) (s:=Rows.OpenSpec.upto Rows.floatReadsSpec) own started (by kernel_rfl) Tryd.func10
  (witness_row_at (enc:=enc) (C:=Tryd.checked) false (laidWorld os) #[.string .empty] rfl (by kernel_rfl) (by kernel_rfl) (by kernel_rfl)
   (OpenSpec.preRow_of_cond 8 hx (by kernel_rfl) (fun k hk=>by cases hk; kernel_rfl) (by kernel_rfl) (laid_met os))) ?_
 intro W base args ds gs before hval hW _ hcond _ hL _ _
 exact contract H enc W base args ds gs before hval hW (hcond _ rfl) hL
theorem said:Rows.FloatReadsUptoSaid :=
 OpenClaim.holds_of_cond 10 Tryd.f10 rfl rfl rfl rfl rfl rfl rfl ⟨rfl,rfl,rfl,rfl,rfl⟩ rfl rfl rfl rfl rfl (by kernel_rfl) Tryd.func10 (by kernel_rfl)
  (of_decide_eq_true (by kernel_rfl)) (by unfold Func.isWrapper; first | (rw [if_pos (by decide +kernel)]; kernel_rfl) | (rw [if_neg (by decide +kernel)]; exact ⟨rfl,rfl⟩))
  (fun os started H enc _ F=>by rw [OpenClaim.pre_eq_preRow]; exact lifted os started H enc F)
theorem plain (f : FuncId) (fn : Func) (hf : Tryd.pinned.checked.prog.funcNamed "typecase/typecaselaw.FloatReads" = some f) (hfn : Tryd.pinned.checked.prog.funcs[f]? = some fn) :
  false = Tryd.pinned.checked.prog.looks []∧∀ (j:Nat) t,fn.params[j]? = some t→Tryd.pinned.checked.prog.wantsStandIn t = false:=by
 obtain rfl : f = 10 := Option.some.inj ((show Tryd.prog.funcNamed "typecase/typecaselaw.FloatReads" = some 10 by kernel_rfl).symm.trans hf) |>.symm
 obtain rfl:fn = Tryd.f10:=(Option.some.inj (Tryd.func10.symm.trans hfn)).symm
 refine ⟨by kernel_rfl,fun j t ht=>?_⟩
 rw [Tryd.params10] at ht
 have hm:=Array.mem_of_getElem? ht
 simp only [List.mem_toArray,List.mem_cons,List.not_mem_nil,or_false] at hm
 subst hm
 ·exact (show Tryd.prog.wantsStandIn 9 = false by kernel_rfl)
theorem proved:Rows.FloatReadsUptoCardSaid :=
 Claim7.holds_tied_plain_at .later [] _ _ _ _ said (fun _ h=>by cases h) (by kernel_rfl) (fun _ h=>by cases h) floatReadsUpto_row_tie rfl ⟨rfl,rfl⟩ (by kernel_rfl) rfl plain (by kernel_rfl)

end Go.Proofs.YtdcdmojbkmedpaaDoor.floatReads
end
