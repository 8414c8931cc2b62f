/-
  Advance returns the specified state, for few valid events and products and few buckets in order; otherwise the law asks only for its example. No condition on the arguments.
-/
import Derived.Test.YtngippiilgdnoaaGreatMibx
import Derived.Test.YtngippiilgdnoaaGreatMiby
set_option maxRecDepth 100000
set_option maxHeartbeats 25600000
namespace Go.Proofs.YtngippiilgdnoaaGreat
open Go.ChangeShapes Go.WideShapes Go.ChangeAt Go.RowKit Go.Deep
theorem uB (os:Os) (started:os.Started) (H:Type) (enc:TypeId×Value->H):
 ReturnsInHanded {} Tryz.checked os 5 .any (Rows.bundleAdvancesSpec.pre6 enc Tryz.prog Tryz.f5 Rows.bundleAdvancesRow.domain false) (Rows.bundleAdvancesSpec.post enc Tryz.prog Tryz.f5 false true false false):=by
 refine returnsInHanded_of_change_sized (C:=Tryz.checked) Tryz.own started (by kernel_rfl) Tryz.func5
  (ChangeSpec.witness6 (enc:=enc) (C:=Tryz.checked) false ⟨#[],#[.agg #[.slice none 0 0,.slice none 0 0,.slice none 0 0,.slice none 0 0,.slice none 0 0,.int .i64 0],.int .i64 0],[]⟩ 8 (by kernel_rfl) (by kernel_rfl) (by kernel_rfl) (by kernel_rfl)) ?_;intro W base args ds gs before hval0 hW hcnd hsz0 _;have hval:∀(j:Nat) t v,Tryz.f5.params[j]?=some t->args[j]?=some v->Value.okWide Tryz.prog W .any base t v:=hval0;have hW':=hW;obtain⟨p,q,hA1,hV,rfl,hfz,hnd⟩:=hW;have hA:DataW.TrodAll enc Tryz.prog W 0 (fun _=>true) true Tryz.f5.params.toList args.toList ds p:=hA1;have hsz:(DataW.weightsEach Tryz.prog (Tryz.f5.params.toList++Rows.bundleAdvancesSpec.plain.varTypes Tryz.prog) (ds++gs)).all (·<=reachBytes)=true:=hsz0;rw[Tryz.params5]at hA hval hsz;obtain⟨v0,v1,d0,d1,p0,p1,rfl,rfl,rfl,h0,h1⟩:=trodAll_two hA;obtain⟨ar0,rfl,har0⟩:=okWide_struct Tryz.underlying47 (hval 0 47 v0 rfl rfl);obtain⟨fuel0,hf0⟩:=h0;rw[Tryz.caseCells35]at har0;obtain⟨cs0⟩:=ar0;obtain⟨ea,pa,ba,wa,ca,en,pn,ec,pc,bc,wc,cc,ac,l,P,X,WL,CL,rfl,he,hp,hs,hk⟩:=US har0 hf0 (Up hsz (j:=0) rfl rfl);obtain⟨n1,rfl,rfl,rfl,wf1⟩:=open_int Tryz.underlying3 (hval 1 3 v1 rfl rfl) h1;have bd1:=bounds_i64 wf1;refine(Q7 l P (plB X) WL CL ea pa ba wa ca en pn ec pc bc wc cc X ac n1 bd1.1 bd1.2 W he hp hs hk).mono fun e W' ⟨he,hb⟩=>?_;subst he;refine⟨_,rfl,Ng (tb:=4) Tryz.laidOut ?_ rfl (by kernel_rfl) Tryz.underlying4 rfl rfl rfl hW' hb⟩;rw[Tryz.params5];intro t ht;simp only[List.mem_cons,List.not_mem_nil,or_false]at ht;rcases ht with rfl|rfl;all_goals exact⟨by kernel_rfl,of_decide_eq_true (by kernel_rfl)⟩
theorem bundleAdvances_holds:Rows.BundleAdvancesSaid:=
 OpenClaim.holds_of_wide 5 Tryz.f5 rfl rfl rfl rfl rfl rfl rfl ⟨rfl,rfl,rfl,rfl,rfl⟩ rfl rfl rfl rfl rfl (by kernel_rfl) Tryz.func5 (by kernel_rfl)
  (of_decide_eq_true (by kernel_rfl)) (by unfold Func.isWrapper;first|(rw[if_pos (by decide +kernel)];kernel_rfl)|(rw[if_neg (by decide +kernel)];exact⟨rfl,rfl⟩))
  (fun os started H enc _=>uB os started H enc)
#print axioms bundleAdvances_holds
end Go.Proofs.YtngippiilgdnoaaGreat
