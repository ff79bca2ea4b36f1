/-
 'typecaselaw.SeedTells' returns true,whatever the input,where what comes in is of bulk at most 1048576,and the input reads as it did. No conditions.
-/
import Derived.Test.YtiijpgmpnijidaaGreatDoorSe6
import Derived.Test.YtiijpgmpnijidaaGreatDoorRows
import Derived.WalkKit
import Derived.ProofKit
import Derived.OpenShut
import Derived.JoinedCond
import Derived.ChangeMaps5
import Derived.Test.YtiijpgmpnijidaaGreatDoorCards
import Derived.Test.YtiijpgmpnijidaaGreatDoorTie
import Derived.Deep.DeepHandedRow
import Derived.Lib.LaidU8
import Derived.PinnedBridge
set_option linter.constructorNameAsVariable false
set_option linter.unusedVariables false
set_option linter.unusedSimpArgs false
set_option linter.unusedSectionVars false
section
namespace Go.Proofs.YtiijpgmpnijidaaGreatDoor.seedTells
open Go Go.SX Go.Ck Go.Vl Go.Ty
open Go.ChangeShapes Go.WideShapes Go.ChangeAt Go.RowKit
set_option maxRecDepth 100000
theorem own:ownKnob Tryz.prog.godebug = none:=by kernel_rfl
theorem laidOut:laidOutB Tryz.prog = true:=by kernel_rfl
theorem cell_block {w:World} {g o:Nat} {k:IntKind} {n:Int} (h:w.cell? ⟨g,o,none⟩ = some (.int k n)):∃ cur e fz,w.heap[g]? = some (.cells cur e fz)/\cur[o]? = some (.int k n):=by
 unfold World.cell? at h
 split at h
 ·rename_i cur e fz hh
  exact ⟨_,_,_,hh,by simpa using h⟩
 ·cases h
noncomputable def vty [G:Globs]:VTy Tryz.prog 38 where
 fs:=_
 gs:=_
 K:=3
 N:=2
 U:=34
 S:=9
 L:=35
 E:=36
 En:=69
 hV:=Tryz.underlying38
 cV:=by kernel_rfl
 h0:=⟨_,rfl,rfl,rfl⟩
 h1:=⟨_,rfl,rfl,rfl⟩
 h2:=⟨_,rfl,rfl,rfl⟩
 h3:=⟨_,rfl,rfl,rfl⟩
 h4:=⟨_,rfl,rfl,rfl⟩
 h5:=⟨_,rfl,rfl,rfl⟩
 uK:=Tryz.underlying3
 uN:=Tryz.underlying2
 uU:=Tryz.underlying34
 uS:=Tryz.underlying9
 uL:=Tryz.underlying35
 uE:=Tryz.underlying36
 c:=⟨by kernel_rfl,by kernel_rfl,by kernel_rfl,by kernel_rfl,by kernel_rfl,by kernel_rfl⟩
 hE:=Tryz.underlying69
 cE:=by kernel_rfl
 g0:=⟨_,rfl,rfl,rfl⟩
 g1:=⟨_,rfl,rfl,rfl⟩
noncomputable def tty [G:Globs]:TTy Tryz.prog 27 where
 fs:=_
 gs:=_
 K:=3
 N:=2
 S:=9
 B:=4
 Q:=23
 L:=24
 F:=25
 Fd:=60
 V:=38
 Tv:=vty
 hT:=Tryz.underlying27
 cT:=by kernel_rfl
 h0:=⟨_,rfl,rfl,rfl⟩
 h1:=⟨_,rfl,rfl,rfl⟩
 h2:=⟨_,rfl,rfl,rfl⟩
 h3:=⟨_,rfl,rfl,rfl⟩
 h4:=⟨_,rfl,rfl,rfl⟩
 h5:=⟨_,rfl,rfl,rfl⟩
 h6:=⟨_,rfl,rfl,rfl⟩
 uK:=Tryz.underlying3
 uN:=Tryz.underlying2
 uS:=Tryz.underlying9
 uB:=Tryz.underlying4
 uQ:=Tryz.underlying23
 uL:=Tryz.underlying24
 uF:=Tryz.underlying25
 c:=⟨by kernel_rfl,by kernel_rfl,by kernel_rfl,by kernel_rfl,by kernel_rfl,by kernel_rfl,by kernel_rfl⟩
 hF:=Tryz.underlying60
 cF:=by kernel_rfl
 g0:=⟨_,rfl,rfl,rfl⟩
 g1:=⟨_,rfl,rfl,rfl⟩
 g2:=⟨_,rfl,rfl,rfl⟩
 g3:=⟨_,rfl,rfl,rfl⟩
 g4:=⟨_,rfl,rfl,rfl⟩
noncomputable def cty [G:Globs]:CTy Tryz.prog 29 where
 fs:=_
 gs:=_
 T:=27
 D:=22
 De:=75
 S:=9
 Y:=tty
 hC:=Tryz.underlying29
 cC:=by kernel_rfl
 h0:=⟨_,rfl,rfl,rfl⟩
 h1:=⟨_,rfl,rfl,rfl⟩
 uD:=Tryz.underlying22
 uS:=Tryz.underlying9
 c:=⟨by kernel_rfl,by kernel_rfl⟩
 hD:=Tryz.underlying75
 cD:=by kernel_rfl
 g0:=⟨_,rfl,rfl,rfl⟩
 g1:=⟨_,rfl,rfl,rfl⟩
theorem bulk_pos {H:Type} (d:DataW H):1<=Rows.uptoBulk d:=by
 cases d with
 | lit l=>cases l<;>simp [Rows.uptoBulk]
 | _=>simp [Rows.uptoBulk]
theorem bulk_sum {H:Type}:∀ ds:List (DataW H),Rows.uptoBulkAll ds = (ds.map Rows.uptoBulk).sum
 | []=>by simp [Rows.uptoBulkAll]
 | d::ds=>by simp [Rows.uptoBulkAll,bulk_sum ds]
theorem bulk_law {H:Type}:BulkS (H:=H) Rows.uptoBulk where
 sl:=fun els rest=>by
  have:=bulk_sum els
  simp only [Rows.uptoBulk]
  omega
 ag:=fun ds=>by
  have:=bulk_sum ds
  simp only [Rows.uptoBulk]
  omega
 st:=fun b=>by simp [Rows.uptoBulk]
 pos:=bulk_pos
theorem arg_sc {H : Type} {enc : TypeId × Value -> H} {W : World} {v : Value} {d : DataW H} {ps : List MemPlace} {r : Reach} {b : Nat} (hval : Value.okWide Tryz.prog W r b 29 v)
  (h:DataW.Trod enc Tryz.prog W 0 (fun _=>true) true 29 v d ps):∃ y:SchemaR,Im (fun _=>False) W (.agg (.rd .dfn y.defs::encTyp y.root)) v/\bkC y<=Rows.uptoBulk d/\(∀ x ∈ y.defs,YB x.t)/\YB y.root:=by
 obtain ⟨cs,rfl,_⟩:=okWide_struct Tryz.underlying29 hval
 obtain ⟨fuel,hf⟩:=h
 letI:Globs:=⟨[]⟩
 obtain ⟨y,h1,h3,h2⟩:=arg_schS (O:=fun _=>False) bulk_law cty rfl rfl rfl rfl rfl rfl (fun _ h=>h) hf
 have h1:All2 (Im (fun _=>False) W) (.rd .dfn y.defs::encTyp y.root) cs.toList:=h1
 obtain ⟨l⟩:=cs
 refine ⟨y,.agg _ l h1.1 (fun v hv=>?_) h1.2,h3,h2⟩
 obtain ⟨j,hj,rfl⟩:=List.getElem_of_mem hv
 have hj':j < (AV.rd .dfn y.defs::encTyp y.root).length:=by rw [h1.1]; exact hj
 refine plain_one (h1.2 j _ _ (List.getElem?_eq_getElem hj') (List.getElem?_eq_getElem hj)) ?_
 rcases List.mem_cons.1 (List.getElem_mem hj') with e | e
 ·rw [e]; rfl
 ·exact enc_plain .typ y.root _ e
theorem contract (H : Type) (enc : TypeId × Value -> H) (W : World) (base : Nat) (args : Array Value) (ds gs : List (DataW H)) (before : List MemPlace)
  (hval:∀ (j:Nat) t v,Tryz.f3.params[j]? = some t->args[j]? = some v->Value.okWide Tryz.prog W .any base t v)
  (hW:DataW.Whole enc Tryz.prog Tryz.f3.params.toList Rows.seedTellsSpec.vars false W args.toList ds gs before) (hk:Rows.uptoSmall H (ds++gs) = true) (hL:laidMetH Tryz.prog Rows.seedTellsUptoRow.laid W) :
  Calls Tryz.prog 3 args W fun e W'=>∃ v,e = .returned v/\Rows.seedTellsSpec.post enc Tryz.prog Tryz.f3 false true false false W args v W':=by
 have hW':=hW
 obtain ⟨p,q,hA0,hV,rfl,hfz,hnd⟩:=hW
 have hA:DataW.TrodAll enc Tryz.prog W 0 (fun _=>true) true Tryz.f3.params.toList args.toList ds p:=hA0
 rw [Tryz.params3] at hA hval
 obtain ⟨v0,vs0,d0,ds0,p0,q0,hargs0,rfl,rfl,h0,r0⟩:=trodAll_cons hA
 obtain ⟨rfl,rfl,rfl⟩:=trodAll_nil r0
 obtain rfl:args = #[v0]:=by cases args; simp_all
 obtain ⟨rfl,rfl⟩:=trodVars_none hV
 obtain ⟨a0,i0,bn0,bd0,br0⟩:=arg_sc (hval 0 29 v0 rfl rfl) h0
 have hW'':=hW'
 have bk:Rows.uptoBulkAll _<=1048576:=of_decide_eq_true hk
 simp only [List.append_nil,List.cons_append,List.nil_append,Rows.uptoBulkAll,Rows.uptoBulk,Array.length_toList] at bk
 have hL':laidMet Tryz.prog Rows.seedTellsUptoRow.laid W:=hL
 have hU:Lib.Utf8Tabs 1 2 W:=utf8Tabs_of_reads (ρ:=Tryz.lays260_ren) Tryz.lays260 ⟨by kernel_rfl,by kernel_rfl,by kernel_rfl,by kernel_rfl,by kernel_rfl,by kernel_rfl,by kernel_rfl⟩ (by have:=Lib.laidMet.reads hL' (.tail _ (.head _)); rw [show Rows.laid_unicode_utf8_first = Lib.firstData from Pinned.utf8First_eq] at this; exact this) (by have:=Lib.laidMet.reads hL' (.head _); rw [show Rows.laid_unicode_utf8_acceptRanges = Lib.acceptData by kernel_rfl] at this; exact this)
 obtain ⟨cur0,e0,fz0,hh0,_⟩:=cell_block (hU.1 0 (by decide))
 obtain ⟨cur1,e1,fz1,hh1,_⟩:=cell_block (hU.2 0 (by decide)).1
 let G:Globs:=⟨[(1,.cells cur0 e0 fz0),(2,.cells cur1 e1 fz1)]⟩
 have hu:@HasU8 G:=⟨_,_,.head _,.tail _ (.head _),fun w k0 k1=>by
  have c0:∀ o,w.cell? ⟨1,o,none⟩ = W.cell? ⟨1,o,none⟩:=fun o=>World.cell?_of_block (k0.trans hh0.symm)
  have c1:∀ o,w.cell? ⟨2,o,none⟩ = W.cell? ⟨2,o,none⟩:=fun o=>World.cell?_of_block (k1.trans hh1.symm)
  exact ⟨fun c hc=>(c0 c).trans (hU.1 c hc),fun i hi=>⟨(c1 _).trans (hU.2 i hi).1,(c1 _).trans (hU.2 i hi).2⟩⟩⟩
 have hG:@GlobOK G (fun _=>False) W:=fun p hp=>by
  rcases List.mem_cons.1 hp with rfl | hp
  ·exact ⟨fun h=>h,hh0⟩
  ·cases List.mem_singleton.1 hp
   exact ⟨fun h=>h,hh1⟩
 refine ((s_seedlaw (G:=G) hu a0 (fun d h=>((tb_defs bd0 br0 (by omega)).1 d h).1) (tb_defs bd0 br0 (by omega)).2.1.1 (tb_defs bd0 br0 (by omega)).2.2).2 (fun _=>False) W [v0] (fun _ h=>h.elim) hG (All2.cons i0 (All2.nil _))).mono fun e W' ⟨v,he,hst,hv⟩=>?_
 subst he
 cases hv
 have hb:=hst.below
 have hlt:∀ x:MemPlace,x ∈ (p0++[])++[]->x.block < W.heap.size:=fun x hx=>hW''.lt x hx
 have hargs':∀ sp:Nat->Bool,(∀ x:MemPlace,x ∈ (p0++[])++[]->sp x.block = true)->DataW.TrodAll enc Tryz.prog W' 0 sp true [29] [v0] [d0] (p0++[]):=fun sp hsp =>
  trodAll_cons_mk (WideElems.Trod_stays laidOut (by kernel_rfl) (of_decide_eq_true (by kernel_rfl)) h0 (fun x hx=>hb.same (hlt x (by simp [hx]))) (fun x hx=>hsp x (by simp [hx]))) (trodAll_mk0)
 exact ⟨_,rfl,post_of_below (pa:=p0++[]) (pv:=[]) hW'' (fun _ _ _=>(trodAll_cons_mk (shut_bool Tryz.underlying4 _) trodAll_mk0)) (fun sp hsp=>hargs' sp hsp) (fun _ _=>rfl) rfl
  hb (ok_one (by kernel_rfl) rfl (okWide_bool_mk Tryz.underlying4 _))⟩
def layB (cs:List Value):Obj->Obj
 | .cells _ t frozen=>.cells cs.toArray t frozen
 | o=>o
noncomputable def laidWorld (os:Os):World :=
 { World.holding Tryz.prog os ⟨#[],#[],[]⟩ with
  heap:=((World.holding Tryz.prog os ⟨#[],#[],[]⟩).heap.modify 1 (layB (Pinned.utf8FirstZ.map fun (n:Nat)=>Value.int .u8 (n:Int)))).modify 2
   (layB ([128,191,160,191,128,159,144,191,128,143,0,0,0,0,0,0,0,0,0,0,0,0,0,0,0,0,0,0,0,0,0,0].map fun n=>Value.int .u8 n)) }
theorem laid_met (os:Os):laidMet Tryz.prog Rows.seedTellsUptoRow.laid ((laidWorld os).forCall (fun _ _=>0) ⟨#[],#[.agg #[.slice none 0 0,.int .i64 0,.int .i64 0,.int .i64 0,.slice none 0 0,.slice none 0 0,.slice none 0 0,.string .empty]],[]⟩).memory :=
 laidMet_of_run' 8 (by kernel_rfl) (by kernel_rfl)
theorem reads (os:Os) {H:Type} (enc:TypeId × Value->H):∃ places,DataW.whole enc Tryz.prog ((laidWorld os).forCall (fun _ _=>0) ⟨#[],#[.agg #[.slice none 0 0,.int .i64 0,.int .i64 0,.int .i64 0,.slice none 0 0,.slice none 0 0,.slice none 0 0,.string .empty]],[]⟩).memory Tryz.f3.params.toList Rows.seedTellsSpec.vars false #[.agg #[.slice none 0 0,.int .i64 0,.int .i64 0,.int .i64 0,.slice none 0 0,.slice none 0 0,.slice none 0 0,.string .empty]].toList 8 = some ([.agg [.nil,.agg [.lit (.int .i64 0),.lit (.int .i64 0),.lit (.int .i64 0),.nil,.nil,.nil,.lit (.string [])]]],[],places) :=
 ⟨[],by kernel_rfl⟩
set_option maxRecDepth 100000 in
theorem lifted (os : Os) (started : os.Started) (H : Type) (enc : TypeId × Value -> H) (F : Stop.Interp) :
  ReturnsInHanded {} Tryz.checked os 3 .any ((Rows.OpenSpec.upto Rows.seedTellsSpec).preRow enc Tryz.prog Tryz.f3 Rows.seedTellsUptoRow.domain false Rows.seedTellsUptoRow.laid) (((Rows.OpenSpec.upto Rows.seedTellsSpec).at F).post enc Tryz.prog Tryz.f3 false true false false):=by
 obtain ⟨places,hx⟩:=reads os enc
 refine returnsInHanded_of_row (C:=Tryz.checked) (s:=Rows.OpenSpec.upto Rows.seedTellsSpec) own started (by kernel_rfl) Tryz.func3
  (witness_row_at (enc:=enc) (C:=Tryz.checked) false (laidWorld os) #[.agg #[.slice none 0 0,.int .i64 0,.int .i64 0,.int .i64 0,.slice none 0 0,.slice none 0 0,.slice none 0 0,.string .empty]] rfl (by kernel_rfl) (by kernel_rfl) (by kernel_rfl)
   (OpenSpec.preRow_of_cond 8 hx (by kernel_rfl) (fun k hk=>by cases hk; kernel_rfl) (by kernel_rfl) (laid_met os))) ?_
 intro W base args ds gs before hval hW _ hcond _ hL _ _
 exact contract H enc W base args ds gs before hval hW (hcond _ rfl) hL
theorem said:Rows.SeedTellsUptoSaid :=
 OpenClaim.holds_of_cond 3 Tryz.f3 rfl rfl rfl rfl rfl rfl rfl ⟨rfl,rfl,rfl,rfl,rfl⟩ rfl rfl rfl rfl rfl (by kernel_rfl) Tryz.func3 (by kernel_rfl)
  (of_decide_eq_true (by kernel_rfl)) (by unfold Func.isWrapper; first | (rw [if_pos (by decide +kernel)]; kernel_rfl) | (rw [if_neg (by decide +kernel)]; exact ⟨rfl,rfl⟩))
  (fun os started H enc _ F=>by rw [OpenClaim.pre_eq_preRow]; exact lifted os started H enc F)
theorem plain (f : FuncId) (fn : Func) (hf : Tryz.pinned.checked.prog.funcNamed "typecase/typecaselaw.SeedTells" = some f) (hfn : Tryz.pinned.checked.prog.funcs[f]? = some fn) :
  false = Tryz.pinned.checked.prog.looks []/\∀ (j:Nat) t,fn.params[j]? = some t->Tryz.pinned.checked.prog.wantsStandIn t = false:=by
 obtain rfl : f = 3 := Option.some.inj ((show Tryz.prog.funcNamed "typecase/typecaselaw.SeedTells" = some 3 by kernel_rfl).symm.trans hf) |>.symm
 obtain rfl:fn = Tryz.f3:=(Option.some.inj (Tryz.func3.symm.trans hfn)).symm
 refine ⟨by kernel_rfl,fun j t ht=>?_⟩
 rw [Tryz.params3] at ht
 have hm:=Array.mem_of_getElem? ht
 simp only [List.mem_toArray,List.mem_cons,List.not_mem_nil,or_false] at hm
 subst hm
 ·exact (show Tryz.prog.wantsStandIn 29 = false by kernel_rfl)
theorem proved:Rows.SeedTellsUptoCardSaid :=
 Claim7.holds_tied_plain_at .later [] _ _ _ _ said (fun _ h=>by cases h) (by kernel_rfl) (fun _ h=>by cases h) seedTellsUpto_row_tie rfl ⟨rfl,rfl⟩ (by kernel_rfl) rfl plain (by kernel_rfl)

end Go.Proofs.YtiijpgmpnijidaaGreatDoor.seedTells
end
