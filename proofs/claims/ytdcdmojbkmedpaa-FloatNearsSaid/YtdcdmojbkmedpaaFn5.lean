/-
 'typecaselaw.FloatNears' returns true,whatever the input,and the input reads as it did. No conditions.
-/
import Derived.Test.YtdcdmojbkmedpaaFn4
import Derived.Test.YtdcdmojbkmedpaaRows
import Derived.WalkKit
import Derived.ProofKit
import Derived.OpenShut
import Derived.JoinedCond
import Derived.ChangeMaps5
set_option linter.constructorNameAsVariable false
set_option linter.unusedVariables false
set_option linter.unusedSimpArgs false
set_option linter.unusedSectionVars false
section
namespace Go.Proofs.Ytdcdmojbkmedpaa.floatNears
open Go Go.SX Go.Bg
open Go.ChangeShapes Go.WideShapes Go.ChangeAt Go.RowKit
set_option maxRecDepth 100000
theorem own:ownKnob Try.prog.godebug = none:=by kernel_rfl
theorem laidOut:laidOutB Try.prog = true:=by kernel_rfl
theorem arg_words {H : Type} {enc : TypeId × Value → H} {W : World} {v : Value} {d : DataW H} {ps : List MemPlace} {r : Reach} {b : Nat} (hval : Value.okWide Try.prog W r b 22 v)
  (h:DataW.Trod enc Try.prog W 0 (fun _=>true) true 22 v d ps):∃ l:List Int,Im (fun _=>False) W (.rd .u32 l) v∧∀ x ∈ l,0≤x∧x≤4294967295:=by
 obtain ⟨a,n,c,rfl⟩:=okWide_slice Try.underlying22 hval
 obtain ⟨fuel,hf⟩:=h
 letI:Globs:=⟨[]⟩
 obtain ⟨l,v',h1,h2,h3⟩:=arg_sliceR (O:=fun _=>False) (τ:=.u32) (R:=fun x _=>(0:Int)≤x∧x≤4294967295) (fun _ h=>h) Try.underlying22 (by kernel_rfl)
  (fun n cs x hx=>by
   obtain ⟨y,rfl,hy,hw⟩:=arg_int Try.underlying27 hx
   exact ⟨y,.cons hy (.nil _),(letI:Globs:=⟨[]⟩; wf_u32 hw)⟩) hf
 have:[Value.slice a n c] = [v']:=by simpa [Value.cells] using h1
 injection this with h4
 subst h4
 refine ⟨l,h2,?_⟩
 rcases h3 with ⟨hd,rfl⟩ | ⟨els,rest,hd,hl,hr⟩
 ·exact fun x hx=>nomatch hx
 ·intro x hx
  obtain ⟨i,hi,rfl⟩:=List.getElem_of_mem hx
  exact hr i _ _ (List.getElem?_eq_getElem hi) (List.getElem?_eq_getElem (show i < els.length by omega))
theorem contract (H : Type) (enc : TypeId × Value → H) (W : World) (base : Nat) (args : Array Value) (ds gs : List (DataW H)) (before : List MemPlace)
  (hval:∀ (j:Nat) t v,Try.f4.params[j]? = some t→args[j]? = some v→Value.okWide Try.prog W .any base t v)
  (hW:DataW.Whole enc Try.prog Try.f4.params.toList Rows.floatNearsSpec.vars false W args.toList ds gs before) :
  Calls Try.prog 4 args W fun e W'=>∃ v,e = .returned v∧Rows.floatNearsSpec.post enc Try.prog Try.f4 false true false false W args v W':=by
 have hW':=hW
 obtain ⟨p,q,hA0,hV,rfl,hfz,hnd⟩:=hW
 have hA:DataW.TrodAll enc Try.prog W 0 (fun _=>true) true Try.f4.params.toList args.toList ds p:=hA0
 rw [Try.params4] at hA hval
 obtain ⟨v0,vs0,d0,ds0,p0,q0,hargs0,rfl,rfl,h0,r0⟩:=trodAll_cons hA
 obtain ⟨v1,vs1,d1,ds1,p1,q1,hargs1,rfl,rfl,h1,r1⟩:=trodAll_cons r0
 obtain ⟨rfl,rfl,rfl⟩:=trodAll_nil r1
 obtain rfl:args = #[v0,v1]:=by cases args; simp_all
 obtain ⟨rfl,rfl⟩:=trodVars_none hV
 obtain ⟨l0,i0,b0⟩:=arg_words (hval 0 22 v0 rfl rfl) h0
 obtain ⟨n1,rfl,rfl,rfl,hwf1⟩:=open_int Try.underlying3 (hval 1 3 v1 rfl rfl) h1
 have i1:Im (fun _=>False) W (.i .i64 n1) (.int .i64 n1):=.i _ _
 have b1:(-9223372036854775808:Int)≤n1∧n1≤(9223372036854775807:Int):=(letI:Globs:=⟨[]⟩; wf_i64 hwf1)
 have hW'':=hW'
 refine ((floatNears_spec l0 n1 b0).2 (fun _=>False) W [v0,.int .i64 n1] (fun _ h=>h.elim) (fun _ hp=>nomatch hp) (All2.cons i0 (All2.cons i1 (All2.nil _)))).mono fun e W' ⟨v,he,hst,hv⟩=>?_
 subst he
 cases hv
 have hb:=hst.below
 have hlt:∀ x:MemPlace,x ∈ (p0++([]++[]))++[]→x.block < W.heap.size:=fun x hx=>hW''.lt x hx
 have hargs':∀ sp:Nat→Bool,(∀ x:MemPlace,x ∈ (p0++([]++[]))++[]→sp x.block = true)→DataW.TrodAll enc Try.prog W' 0 sp true [22,3] [v0,.int .i64 n1] [d0,.lit (.int .i64 n1)] (p0++([]++[])):=fun sp hsp =>
  trodAll_cons_mk (WideElems.Trod_stays laidOut (by kernel_rfl) (of_decide_eq_true (by kernel_rfl)) h0 (fun x hx=>hb.same (hlt x (by simp [hx]))) (fun x hx=>hsp x (by simp [hx]))) (trodAll_cons_mk (shut_int Try.underlying3 hwf1) (trodAll_mk0))
 exact ⟨_,rfl,post_of_below (pa:=p0++([]++[])) (pv:=[]) hW'' (fun _ _ _=>(trodAll_cons_mk (shut_bool Try.underlying4 _) trodAll_mk0)) (fun sp hsp=>hargs' sp hsp) (fun _ _=>rfl) rfl
  hb (ok_one (by kernel_rfl) rfl (okWide_bool_mk Try.underlying4 _))⟩
theorem lifted (os : Os) (started : os.Started) (H : Type) (enc : TypeId × Value → H) :
  ReturnsInHanded {} Try.checked os 4 .any (Rows.floatNearsSpec.pre6 enc Try.prog Try.f4 Rows.floatNearsRow.domain false) (Rows.floatNearsSpec.post enc Try.prog Try.f4 false true false false):=by
 refine returnsInHanded_of_change (C:=Try.checked) own started (by kernel_rfl) Try.func4
  (ChangeSpec.witness6 (enc:=enc) (C:=Try.checked) false ⟨#[],#[.slice none 0 0,.int .i64 0],[]⟩ 8 (by kernel_rfl) (by kernel_rfl) (by kernel_rfl) (by kernel_rfl)) ?_
 intro W base args ds gs before hval hW _ _
 exact contract H enc W base args ds gs before hval hW

theorem proved:Rows.FloatNearsSaid :=
 OpenClaim.holds_of_wide 4 Try.f4 rfl rfl rfl rfl rfl rfl rfl ⟨rfl,rfl,rfl,rfl,rfl⟩ rfl rfl rfl rfl rfl (by kernel_rfl) Try.func4 (by kernel_rfl)
  (of_decide_eq_true (by kernel_rfl)) (by unfold Func.isWrapper; first | (rw [if_pos (by decide +kernel)]; kernel_rfl) | (rw [if_neg (by decide +kernel)]; exact ⟨rfl,rfl⟩))
  (fun os started H enc _=>lifted os started H enc)

end Go.Proofs.Ytdcdmojbkmedpaa.floatNears
end
