/-
  The walk of the form of an event, by the fields that its kind uses.
-/
import Derived.Test.YtngippiilgdnoaaGreatMham
set_option maxRecDepth 100000
set_option maxHeartbeats 25600000
namespace Go.Proofs.YtngippiilgdnoaaGreat
open Go.RowKit
theorem Ek {n:Int} (h:idB n=true):1<=n/\n<=9999:=(Wm n).1 h
theorem Wl {n:Int} (h:(!idB n)=false):1<=n/\n<=9999:=(Wm n).1 (by simpa using h)
theorem xo {n:Int} (h:(n != 0)=false):n=0:=by simpa using h
theorem NM (ev:Ev) (last:Int) (w:World) (hk:1<=ev.kd/\ev.kd<=15) (hn:ev.nu.size<=maxLen) (hm:ev.nm.size<=maxLen):Calls Tryz.prog 112 #[yU ev,.int .i64 last] w (XL last ev w):=by
 obtain⟨tm,kd,ac,sb,nu,nm,vl⟩:=ev;dsimp only at hk hn hm;have hk1:1<=kd:=by omega
 have hk2:kd<=15:=by omega
 obtain⟨A,hA⟩:∃A,A=w.alloc (Obj.cells #[.int .i64 tm,.int .i64 kd,.int .i64 ac,.int .i64 sb,.string nu,.string nm,.int .i64 vl] 55):=⟨_,rfl⟩;have hbA:Below w.heap.size w A:=by rw[hA];go_grown
 have rA:A.heap[w.heap.size]?=some (Obj.cells #[.int .i64 tm,.int .i64 kd,.int .i64 ac,.int .i64 sb,.string nu,.string nm,.int .i64 vl] 55):=by rw[hA];exact heap_alloc_new _ _
 have hzA:w.heap.size<A.heap.size:=by rw[hA];simp
 have HU:=zb (VH kd A (by omega) (by omega));have HT:=zb (fun r w' (h:r≠0) (hb:Below w.heap.size w w')=>Wp (last:=last) (ev:=⟨tm,kd,ac,sb,nu,nm,vl⟩) h hb);have HId:=zb El;have HNm:=zb (fun w=>J8 nm w hm);have HNu:=zb (fun w=>Jc nu w hn);have HVl:=zb (fun(ac sb:Int) (nu nm:ByteArray) w=>WH ⟨tm,kd,ac,sb,nu,nm,vl⟩ w);unfold yU at HVl;unfold yU;dsimp only at HVl⊢;have a0:=cell_of_row A _ 0 _ _ _ rA;have a1:=cell_of_row A _ 1 _ _ _ rA;have HA:=zb hA;have HrA:=zb rA;have HbA:=zb hbA;clear hA rA hbA hn hm;by_cases t2:0<=tm/\tm<12622780800/\last<=tm
 · obtain⟨t0,t1,t2⟩:=t2
   rcases(show kd=1\/kd=2\/kd=3\/(kd=5\/kd=6)\/(kd=7\/kd=8\/kd=9)\/(kd=14\/kd=15)\/(kd=4\/(10<=kd/\kd<=13)) by omega)with hk|hk|hk|hk|hk|hk|hk;case' inl=>
    have hkb:(kd==1)=true:=beq_iff_eq.2 hk;have Hk1:=zb hk;have hU:usV kd=#[.bool true,.bool false,.bool false,.bool true,.bool true]:=by unfold usV;(repeat' split)<;>first|rfl|omega
    have HuA:=zb (show vB kd=true by unfold vB;simp;omega);have HuS:=zb (show qv kd=false by unfold qv;simp;omega)
   case' inr.inl=>
    have hkb:(kd==1)=false:=beq_eq_false_iff_ne.2 (by omega);have Hk1:=zb (show ¬kd=1 by omega);have hU:usV kd=#[.bool true,.bool false,.bool false,.bool false,.bool false]:=by unfold usV;(repeat' split)<;>first|rfl|omega
    have HuA:=zb (show vB kd=true by unfold vB;simp;omega);have HuS:=zb (show qv kd=false by unfold qv;simp;omega)
   case' inr.inr.inl=>
    have hkb:(kd==1)=false:=beq_eq_false_iff_ne.2 (by omega);have Hk1:=zb (show ¬kd=1 by omega);have hU:usV kd=#[.bool true,.bool true,.bool false,.bool true,.bool false]:=by unfold usV;(repeat' split)<;>first|rfl|omega
    have HuA:=zb (show vB kd=true by unfold vB;simp;omega);have HuS:=zb (show qv kd=true by unfold qv;simp;omega)
   case' inr.inr.inr.inl=>
    have hkb:(kd==1)=false:=beq_eq_false_iff_ne.2 (by omega);have Hk1:=zb (show ¬kd=1 by omega);have hU:usV kd=#[.bool false,.bool true,.bool true,.bool false,.bool false]:=by unfold usV;(repeat' split)<;>first|rfl|omega
    have HuA:=zb (show vB kd=false by unfold vB;simp;omega);have HuS:=zb (show qv kd=true by unfold qv;simp;omega)
   case' inr.inr.inr.inr.inl=>
    have hkb:(kd==1)=false:=beq_eq_false_iff_ne.2 (by omega);have Hk1:=zb (show ¬kd=1 by omega);have hU:usV kd=#[.bool false,.bool true,.bool false,.bool true,.bool false]:=by unfold usV;(repeat' split)<;>first|rfl|omega
    have HuA:=zb (show vB kd=false by unfold vB;simp;omega);have HuS:=zb (show qv kd=true by unfold qv;simp;omega)
   case' inr.inr.inr.inr.inr.inl=>
    have hkb:(kd==1)=false:=beq_eq_false_iff_ne.2 (by omega);have Hk1:=zb (show ¬kd=1 by omega);have hU:usV kd=#[.bool true,.bool false,.bool false,.bool false,.bool true]:=by unfold usV;(repeat' split)<;>first|rfl|omega
    have HuA:=zb (show vB kd=true by unfold vB;simp;omega);have HuS:=zb (show qv kd=false by unfold qv;simp;omega)
   case' inr.inr.inr.inr.inr.inr=>
    have hkb:(kd==1)=false:=beq_eq_false_iff_ne.2 (by omega);have Hk1:=zb (show ¬kd=1 by omega);have hU:usV kd=#[.bool false,.bool true,.bool false,.bool false,.bool false]:=by unfold usV;(repeat' split)<;>first|rfl|omega
    have HuA:=zb (show vB kd=false by unfold vB;simp;omega);have HuS:=zb (show qv kd=true by unfold qv;simp;omega)
   all_goals
    clear hk;go_enter Tryz.func112,Tryz.ntmps112;go_upto_region 1 with(fail);rw[<-HA.out];rw[hU]at HU;go_wp2_with fail;refine HU.out.mono ?_;rintro e w1 ⟨rfl,hb1⟩;obtain⟨X,hX⟩:∃X,X=w1.alloc (Obj.cells (usV kd) 174):=⟨_,rfl⟩;have hbX:Below w1.heap.size w1 X:=by rw[hX];go_grown
    have rX:X.heap[w1.heap.size]?=some (Obj.cells (usV kd) 174):=by rw[hX];exact heap_alloc_new _ _
    rw[hU]at hX rX;clear hU;have rE:=(hbX.block _ (by have:=hb1.size;omega)).trans ((hb1.block _ hzA).trans HrA.out);have tQ:=fun j=>cell_of_row X _ j _ _ _ rE;have e0:=tQ 0;have e1:=tQ 1;have e2:=tQ 2;have e3:=tQ 3;have e4:=tQ 4;have e5:=tQ 5;have e6:=tQ 6;clear tQ;have tQ:=fun j=>cell_of_row X _ j _ _ _ rX;have u0:=tQ 0;have u1:=tQ 1;have u2:=tQ 2;have u3:=tQ 3;have u4:=tQ 4;clear tQ;have HwX:=zb (HbA.out.trans ((hb1.trans (hbX.mono hb1.size)).mono HbA.out.size));have HX:=zb hX;clear hX hbX rX rE hb1 a0 a1;go_upto_region 8 with(fail);rw[<-HX.out];go_wp2_with (first
     |(go_at_call 150;refine(HId.out _ _).mono ?_;rintro e w2 ⟨rfl,rfl⟩)
     |(go_at_call 119;refine(HNm.out _).mono ?_;rintro e w2 ⟨bn,rfl,rfl⟩)
     |(go_at_call 151;refine(HNu.out _).mono ?_;rintro e w2 ⟨rfl,rfl⟩)
     |(go_at_call 152;refine(HVl.out _ _ _ _ _).mono ?_;rintro e w2 ⟨bv,rfl,hv,hb2⟩))
    all_goals first
     |(go_ret;exact HT.out _ _ (by decide) (by first|exact HwX.out|exact HwX.out.trans (hb2.mono HwX.out.size)))
     |(go_ret;exact⟨0,rfl,fun _=>⟨by omega,by omega,t0,t1,t2,by first|exact fun h=>absurd (HuA.out.symm.trans h) (by decide)|exact(fun _=>by first|exact Ek (by assumption)|exact Wl (by assumption)),by first|exact fun h=>absurd (HuA.out.symm.trans h) (by decide)|exact(fun _=>by first|exact xo (by assumption)|assumption),by first|exact fun h=>absurd (HuS.out.symm.trans h) (by decide)|exact(fun _=>by first|exact Ek (by assumption)|exact Wl (by assumption)),by first|exact fun h=>absurd (HuS.out.symm.trans h) (by decide)|exact(fun _=>by first|exact xo (by assumption)|assumption),fun h=>by first|exact absurd h Hk1.out|exact hv (by first|assumption|(cases bv<;>first|rfl|(exfalso;simp_all))) h⟩,by first|exact HwX.out|exact HwX.out.trans (hb2.mono HwX.out.size)⟩)
 have hc:¬0<=tm\/(0<=tm/\¬tm<12622780800)\/(0<=tm/\tm<12622780800/\¬last<=tm):=by omega
 clear t2;rcases hc with t0|⟨t0,t1⟩|⟨t0,t1,t2⟩;all_goals
  go_enter Tryz.func112,Tryz.ntmps112;go_upto_region 1 with(fail);rw[<-HA.out];go_wp2;go_ret;exact HT.out _ _ (by decide) HbA.out
theorem Xo (ev:Ev) (last:Int) (w:World) (hn:ev.nu.size<=maxLen) (hm:ev.nm.size<=maxLen):Calls Tryz.prog 112 #[yU ev,.int .i64 last] w (XL last ev w):=by
 by_cases hk:1<=ev.kd/\ev.kd<=15;· exact NM ev last w hk hn hm
 have HT:=zb (fun r w' (h:r≠0) (hb:Below w.heap.size w w')=>Wp (last:=last) (ev:=ev) h hb);obtain⟨tm,kd,ac,sb,nu,nm,vl⟩:=ev;have hor:kd<1\/(1<=kd/\15<kd):=by dsimp only at hk;omega
 unfold yU;dsimp only;clear hk hn hm;rcases hor with h|⟨h,h'⟩;all_goals
  go_enter Tryz.func112,Tryz.ntmps112;go_wp2;go_ret;exact HT.out _ _ (by decide) (by go_grown)
end Go.Proofs.YtngippiilgdnoaaGreat
