/-
  The grant of a product in the cycle of any instant is that of the specification, for few valid events and products; otherwise the law asks only for its example. No condition on the arguments.
-/
import Derived.Test.YtngippiilgdnoaaGreatMhbx
import Derived.Test.YtngippiilgdnoaaGreatMhby
set_option maxRecDepth 100000
set_option maxHeartbeats 25600000
namespace Go.Proofs.YtngippiilgdnoaaGreat
open Go.ChangeShapes Go.WideShapes Go.ChangeAt Go.RowKit Go.Deep
theorem Zc (os:Os) (started:os.Started) (H:Type) (enc:TypeId×Value->H):
 ReturnsInHanded {} Tryz.checked os 10 .any (Rows.bundleGrantsSpec.pre6 enc Tryz.prog Tryz.f10 Rows.bundleGrantsRow.domain false) (Rows.bundleGrantsSpec.post enc Tryz.prog Tryz.f10 false true false false):=by
 refine returnsInHanded_of_change_sized (C:=Tryz.checked) Tryz.own started (by kernel_rfl) Tryz.func10
  (ChangeSpec.witness6 (enc:=enc) (C:=Tryz.checked) false ⟨#[],#[.agg #[.slice none 0 0,.slice none 0 0,.slice none 0 0,.slice none 0 0,.slice none 0 0,.int .i64 0],.agg #[.int .i64 0,.string ByteArray.empty],.int .i64 0],[]⟩ 8 (by kernel_rfl) (by kernel_rfl) (by kernel_rfl) (by kernel_rfl)) ?_;intro W base args ds gs before hval0 hW hcnd hsz0 _;have hval:∀(j:Nat) t v,Tryz.f10.params[j]?=some t->args[j]?=some v->Value.okWide Tryz.prog W .any base t v:=hval0;have hW':=hW;obtain⟨p,q,hA1,hV,rfl,hfz,hnd⟩:=hW;have hA:DataW.TrodAll enc Tryz.prog W 0 (fun _=>true) true Tryz.f10.params.toList args.toList ds p:=hA1;have hsz:(DataW.weightsEach Tryz.prog (Tryz.f10.params.toList++Rows.bundleGrantsSpec.plain.varTypes Tryz.prog) (ds++gs)).all (·<=reachBytes)=true:=hsz0;rw[Tryz.params10]at hA hval hsz;obtain⟨v0,v1,v2,d0,d1,d2,p0,p1,p2,rfl,rfl,rfl,h0,h1,h2⟩:=trodAll_three hA;obtain⟨ar0,rfl,har0⟩:=okWide_struct Tryz.underlying47 (hval 0 47 v0 rfl rfl);obtain⟨fuel0,hf0⟩:=h0;rw[Tryz.caseCells35]at har0;obtain⟨cs0⟩:=ar0;obtain⟨ea,pa,ba,wa,ca,en,pn,ec,pc,bc,wc,cc,ac,l,P,X,WL,CL,rfl,he,hp,hs,hk⟩:=K3 har0 hf0 (KK hsz (j:=0) rfl rfl);obtain⟨ar1,rfl,har1⟩:=okWide_struct Tryz.underlying78 (hval 1 78 v1 rfl rfl);obtain⟨fuel1,hf1⟩:=h1;rw[Tryz.askCells35]at har1;obtain⟨cs1⟩:=ar1;obtain⟨sb,nm,rfl,hnm⟩:=Xc har1 hf1;obtain⟨n2,rfl,rfl,rfl,wf2⟩:=open_int Tryz.underlying3 (hval 2 3 v2 rfl rfl) h2;have bd2:=bounds_i64 wf2;refine(Kj l P (plB X) WL CL ea pa ba wa ca en pn ec pc bc wc cc X ac sb nm n2 bd2.1 bd2.2 W he hp hs hk hnm).mono fun e W' ⟨he,hb⟩=>?_;subst he;refine⟨_,rfl,Ed (tb:=4) Tryz.laidOut ?_ rfl (by kernel_rfl) Tryz.underlying4 rfl rfl rfl hW' hb⟩;rw[Tryz.params10];intro t ht;simp only[List.mem_cons,List.not_mem_nil,or_false]at ht;rcases ht with rfl|rfl|rfl;all_goals exact⟨by kernel_rfl,of_decide_eq_true (by kernel_rfl)⟩
theorem bundleGrants_holds:Rows.BundleGrantsSaid:=
 OpenClaim.holds_of_wide 10 Tryz.f10 rfl rfl rfl rfl rfl rfl rfl ⟨rfl,rfl,rfl,rfl,rfl⟩ rfl rfl rfl rfl rfl (by kernel_rfl) Tryz.func10 (by kernel_rfl)
  (of_decide_eq_true (by kernel_rfl)) (by unfold Func.isWrapper;first|(rw[if_pos (by decide +kernel)];kernel_rfl)|(rw[if_neg (by decide +kernel)];exact⟨rfl,rfl⟩))
  (fun os started H enc _=>Zc os started H enc)
#print axioms bundleGrants_holds
end Go.Proofs.YtngippiilgdnoaaGreat
