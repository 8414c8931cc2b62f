/-
  The walks of the reference's At and Names.
-/
import Derived.Test.YtngippiilgdnoaaGreatMhbd
import Derived.Sort.Walk0
set_option maxRecDepth 100000
set_option maxHeartbeats 25600000
namespace Go.Proofs.YtngippiilgdnoaaGreat
open Go.RowKit
theorem ZW (a b:ByteArray):ltS a b=true↔a.data.toList<b.data.toList:=by unfold ltS;rw[Go.Proofs.bytesLess_eq,Lib.toList_data,Lib.toList_data];exact decide_eq_true_iff
theorem NQ (a b:ByteArray):eqS a b=true↔a=b:=by
 unfold eqS;rw[beq_iff_eq,Lib.toList_data,Lib.toList_data];constructor
 · intro h
   cases a with
   | mk a=>cases b with
     |mk b=>exact congrArg ByteArray.mk (Array.toList_inj.1 h)
 rintro rfl;rfl
theorem Zt (a:ByteArray):¬ltS a a=true:=fun h=>List.lt_irrefl _ ((ZW a a).1 h)
theorem jP {a b c:ByteArray} (h:ltS a b=true) (h':ltS b c=true):ltS a c=true:=
 (ZW a c).2 (List.lt_trans ((ZW a b).1 h) ((ZW b c).1 h'))
theorem EA (a:ByteArray):eqS a a=true:=(NQ a a).2 rfl
def WC (a b:Pd):Prop:=ltS a.nm b.nm=true\/(a.nm=b.nm/\a.fm<b.fm)
theorem WC.trans {a b c:Pd} (h:WC a b) (h':WC b c):WC a c:=by
 rcases h with h|⟨h,h1⟩<;>rcases h' with h'|⟨h',h1'⟩;· exact Or.inl (jP h h')
 · exact Or.inl (h'▸h)
 · exact Or.inl (h▸h')
 exact Or.inr ⟨h.trans h',Int.lt_trans h1 h1'⟩
theorem GN {N:List ByteArray} {s:ByteArray} {k:Nat} (h:k<N.length) (h1:(N.take k).any (fun a=>eqS a s)=false) (h2:eqS N[k] s=false):(N.take (k+1)).any (fun a=>eqS a s)=false:=by rw[List.take_succ_eq_append_getElem h,List.any_append,h1];simp[h2]
theorem xr {N:List ByteArray} {s:ByteArray} {k:Nat} (h:k<N.length) (h2:eqS N[k] s=true):N.any (fun a=>eqS a s)=true:=
 List.any_eq_true.2 ⟨N[k],List.getElem_mem h,h2⟩
theorem Ui (v:Value) (N:List ByteArray) (s:ByteArray) (w:World) (h:zR w v N):
 Calls Tryz.prog 110 #[v,.string s] w fun e w'=>e=.returned (.bool (N.any fun a=>eqS a s))/\w=w':=by
 have hh:=h;obtain⟨av,cap,rfl,hlc,hm,-⟩:=h;have hm:=hm.1;unfold maxLen at hm;go_enter Tryz.func110,Tryz.ntmps110;go_wp2_with fail;go_loop [5] (fun i=>∃k:Nat,k<=N.length/\i=.int .i64 k/\(N.take k).any (fun a=>eqS a s)=false) (fun i=>N.length-(intOf i).toNat);case atStart=>exact⟨0,Nat.zero_le _,rfl,rfl⟩
 case round=>
  obtain⟨k,hk,rfl,hf⟩:=hrel;have Hf:=zb hf;clear hf;by_cases hlt:k<N.length
  · obtain⟨av2,cap2,e2,-,-,hx⟩:=hh
    cases e2;obtain⟨b,o,rfl,hB,hx⟩:=hx (by rintro rfl;cases hlt);obtain⟨c0,s0⟩:=hx k hlt;rw[Nat.mul_one]at c0;have hk0:(0:Int)<=(k:Int):=Int.natCast_nonneg _;have hk1:(k:Int)<(N.length:Int):=by omega
    have T:=zb (fun h2=>@xr N s k hlt h2);have F:=zb (fun h2=>@GN N s k hlt Hf.out h2);clear hx;generalize N[k]=x at *;cases hE:eqS x s with
    |true=>
      have e1:(x.toList==s.toList)=true:=hE;have e2:(x.data.toList==s.data.toList)=true:=by have h:=hE;unfold eqS at h;rw[Lib.toList_data,Lib.toList_data]at h;exact h
      have HT:=zb (T.out hE);clear hE;go_wp2;go_ret;exact⟨zo HT.out.symm,rfl⟩
    |false=>
      have e1:(x.toList==s.toList)=false:=hE;have e2:(x.data.toList==s.data.toList)=false:=by have h:=hE;unfold eqS at h;rw[Lib.toList_data,Lib.toList_data]at h;exact h
      have HF:=zb (F.out hE);clear hE;go_wp2;go_round;case rel=>exact⟨k+1,by omega,by go_num,HF.out⟩
      case measure=>simp[intOf];omega
  have e:N.take k=N:=List.take_of_length_le (by omega);go_wp2;go_ret;exact⟨zo (by rw[<-Hf.out,e]),rfl⟩
def PrR (w:World) (b o:Nat) (q:Int×Int×Int):Prop:=w.cell? ⟨b,o,none⟩=some (.int .i64 q.1)/\w.cell? ⟨b,o+1,none⟩=some (.int .i64 q.2.1)/\w.cell? ⟨b,o+2,none⟩=some (.int .i64 q.2.2)
theorem PrR.stays:Yl PrR:=fun w w' b _ _ hb hB ⟨h0,h1,h2⟩=>
 have c:∀j,w'.cell? ⟨b,j,none⟩=w.cell? ⟨b,j,none⟩:=fun j=>hb.cell (p:=⟨b,j,none⟩) hB
 ⟨(c _).trans h0,(c _).trans h1,(c _).trans h2⟩
def Na (w:World) (v:Value) (l:List (Int×Int×Int)):Prop:=zz 3 PrR w v l
theorem Na.below {w w':World} {v:Value} {l:List (Int×Int×Int)} (h:Na w v l) (hb:Below w.heap.size w w'):Na w' v l:=zz.below PrR.stays h hb
end Go.Proofs.YtngippiilgdnoaaGreat
namespace Go.Proofs.YtngippiilgdnoaaGreat
open Go.RowKit
end Go.Proofs.YtngippiilgdnoaaGreat
namespace Go.Proofs.YtngippiilgdnoaaGreat
open Go.RowKit
def Wz (w:World) (B:Nat) (c0 c1 c2 c3 c4 c5:Value):Prop:=
 (w.cell? ⟨B,0,none⟩=some c0/\w.cell? ⟨B,1,none⟩=some c1/\w.cell? ⟨B,2,none⟩=some c2/\w.cell? ⟨B,3,none⟩=some c3/\w.cell? ⟨B,4,none⟩=some c4/\w.cell? ⟨B,5,none⟩=some c5)/\
  w.frozen? ⟨B,0,none⟩=false/\w.frozen? ⟨B,1,none⟩=false/\w.frozen? ⟨B,2,none⟩=false/\w.frozen? ⟨B,3,none⟩=false/\w.frozen? ⟨B,4,none⟩=false/\w.frozen? ⟨B,5,none⟩=false
def QS (w wr:World) (B:Nat) (has:Value) (o:Option Pd):Prop:=
 match o with
 |none=>has=.bool false/\Wz wr B (.string ⟨#[]⟩) (.int .i64 0) (.int .i64 0) (.string ⟨#[]⟩) (.bool false) (.slice none 0 0)
 |some p=>has=.bool true/\∃bv,qR w bv p.bs/\Wz wr B (.string p.nm) (.int .i64 p.fm) (.int .i64 p.fe) (.string p.ct) (.bool p.pro) bv
theorem QS.six {w wr:World} {B:Nat} {has:Value} {o:Option Pd} (h:QS w wr B has o):∃c0 c1 c2 c3 c4 c5,Wz wr B c0 c1 c2 c3 c4 c5/\∃b,has=.bool b:=by
 cases o with
 |none=>exact⟨_,_,_,_,_,_,h.2,_,h.1⟩
 |some p=>obtain⟨h1,bv,-,h2⟩:=h;exact⟨_,_,_,_,_,_,h2,_,h1⟩
theorem Gw (l:List Pd) (s:ByteArray) (t:Int) (k:Nat) (h:k<l.length):atL (l.take (k+1)) s t=if ji s t l[k]=true then some l[k] else atL (l.take k) s t:=by
 unfold atL;rw[List.take_succ_eq_append_getElem h,List.filter_append,List.filter_cons,List.filter_nil];cases ji s t l[k];· simp
 simp
def E9 (w:World) (o:Option Pd) (e:Ending) (w':World):Prop:=match o with|none=>AtNo w e w'|some p=>xx w p e w'
set_option linter.unusedSimpArgs false in
theorem WX (v:Value) (l:List Pd) (s:ByteArray) (t:Int) (w:World) (h:qu w v l):
 Calls Tryz.prog 32 #[v,.string s,.int .i64 t] w (E9 w (atL l s t)):=by
 have hh:=h;obtain⟨av,cap,rfl,hlc,hm,-⟩:=h;have hm:=hm.1;unfold maxLen at hm;go_enter Tryz.func32,Tryz.ntmps32;go_wp2_with fail;go_loopw [9,10] (fun has i wr=>∃k:Nat,k<=l.length/\i=.int .i64 k/\QS w wr (w.heap.size+1) has (atL (l.take k) s t)/\Wz wr w.heap.size (.string ⟨#[]⟩) (.int .i64 0) (.int .i64 0) (.string ⟨#[]⟩) (.bool false) (.slice none 0 0)/\Below w.heap.size w wr) (fun _ i _=>l.length-(intOf i).toNat);case atStart=>
  refine⟨0,Nat.zero_le _,rfl,⟨rfl,?_⟩,?_,by go_grown⟩;iterate 2
   · exact⟨⟨by simp[go_sem],by simp[go_sem],by simp[go_sem],by simp[go_sem],by simp[go_sem],by simp[go_sem]⟩,by simp[go_sem],by simp[go_sem],by simp[go_sem],by simp[go_sem],by simp[go_sem],by simp[go_sem]⟩
 case round=>
  obtain⟨k,hk,rfl,hbest,h6,hb⟩:=hrel;by_cases hlt:k<l.length
  · obtain⟨av2,cap2,e2,-,-,hx⟩:=hh.below hb
    cases e2;obtain⟨b,o,rfl,hB,hx⟩:=hx (by rintro rfl;cases hlt);obtain⟨⟨c0,s0⟩,c1,c2,⟨c3,s3⟩,c4,bv,c5,hz⟩:=hx k hlt;have hzw:∃bv2,wr.cell? ⟨b,o+k*6+5,none⟩=some bv2/\qR w bv2 l[k].bs:=by obtain⟨av3,cap3,e3,-,-,hy⟩:=hh;cases e3;obtain⟨b',o',e4,hB',hy⟩:=hy (by rintro rfl;cases hlt);cases e4;obtain⟨-,-,-,-,-,bv2,g5,hz2⟩:=hy k hlt;exact⟨bv2,(hb.cell (p:=⟨b,o+k*6+5,none⟩) hB').trans g5,hz2⟩
    obtain⟨bv2,g5,hz2⟩:=hzw;have hst:=Gw l s t k hlt;have hk0:(0:Int)<=(k:Int):=Int.natCast_nonneg _;have hk1:(k:Int)<(l.length:Int):=by omega
    obtain⟨o0,o1,o2,o3,o4,o5,hsix,hbv,rfl⟩:=hbest.six;have hBne:b≠w.heap.size+1/\b≠w.heap.size:=by obtain⟨av3,cap3,e3,-,-,hy⟩:=hh;cases e3;obtain⟨b',o',e4,hB',hy⟩:=hy (by rintro rfl;cases hlt);cases e4;exact⟨by omega,by omega⟩
    have Hbest:=zb hbest;have H6:=zb h6;have Hz:=zb hz2;have Hst:=zb hst;clear hx hz c5 hbest h6 hz2 hst bv;generalize l[k]=x at *;obtain⟨nm,fm,fe,ct,pro,bs⟩:=x;dsimp only at *;obtain⟨az,cz,rfl,-,-,-⟩:=Hz.out;cases hE:(nm.toList==s.toList)with
    |false=>
      have hE2:(nm.data.toList==s.data.toList)=false:=by have h:=hE;rw[Lib.toList_data,Lib.toList_data]at h;exact h
      have HR:=zb (show QS w wr (w.heap.size+1) (.bool hbv) (atL (l.take (k+1)) s t) by rw[Hst.out,if_neg (by simp[ji,eqS,hE])];exact Hbest.out);go_wp2;exact⟨⟨k+1,by omega,by go_num,HR.out,H6.out,hb⟩,by simp[intOf];omega⟩
    |true=>
      have hE2:(nm.data.toList==s.data.toList)=true:=by have h:=hE;rw[Lib.toList_data,Lib.toList_data]at h;exact h
      by_cases hF:fm<=t
      · have hFd:decide (fm<=t)=true:=decide_eq_true hF
        have HK:=zb (show ji s t ⟨nm,fm,fe,ct,pro,bs⟩=true by simp[ji,eqS,hE,hF]);obtain⟨⟨q0,q1,q2,q3,q4,q5⟩,f0,f1,f2,f3,f4,f5⟩:=hsix;have hbs:=hb.size;go_wp2;obtain⟨⟨y0,y1,y2,y3,y4,y5⟩,z0,z1,z2,z3,z4,z5⟩:=H6.out;refine⟨⟨k+1,by omega,by go_num,?_,?_,by go_grown⟩,by simp[intOf];omega⟩
        · rw[Hst.out,if_pos HK.out]
          exact⟨rfl,_,Hz.out,⟨by simp[go_sem,q0,q1,q2,q3,q4,q5],by simp[go_sem,q0,q1,q2,q3,q4,q5],by simp[go_sem,q0,q1,q2,q3,q4,q5],by simp[go_sem,q0,q1,q2,q3,q4,q5],by simp[go_sem,q0,q1,q2,q3,q4,q5],by simp[go_sem,q0,q1,q2,q3,q4,q5]⟩,by simp[go_sem,f0],by simp[go_sem,f1],by simp[go_sem,f2],by simp[go_sem,f3],by simp[go_sem,f4],by simp[go_sem,f5]⟩
        exact⟨⟨by simp[go_sem,y0],by simp[go_sem,y1],by simp[go_sem,y2],by simp[go_sem,y3],by simp[go_sem,y4],by simp[go_sem,y5]⟩,by simp[go_sem,z0],by simp[go_sem,z1],by simp[go_sem,z2],by simp[go_sem,z3],by simp[go_sem,z4],by simp[go_sem,z5]⟩
      have hFd:decide (fm<=t)=false:=decide_eq_false hF;have HR:=zb (show QS w wr (w.heap.size+1) (.bool hbv) (atL (l.take (k+1)) s t) by rw[Hst.out,if_neg (by simp[ji,hF])];exact Hbest.out);go_wp2;exact⟨⟨k+1,by omega,by go_num,HR.out,H6.out,hb⟩,by simp[intOf];omega⟩
  have e:l.take k=l:=List.take_of_length_le (by omega);rw[e]at hbest;have hbs:=hb.size;obtain⟨⟨y0,y1,y2,y3,y4,y5⟩,z0,z1,z2,z3,z4,z5⟩:=h6;generalize atL l s t=best at *;clear e hh;cases best with
  |none=>obtain⟨rfl,⟨q0,q1,q2,q3,q4,q5⟩,f0,f1,f2,f3,f4,f5⟩:=hbest;go_wp2;exact bodyPost_ret (v:=.tuple #[.agg #[.string ⟨#[]⟩,.int .i64 0,.int .i64 0,.string ⟨#[]⟩,.bool false,.slice none 0 0],.bool false]) (by simp[results,Tryz.results32,go_sem,y0,y1,y2,y3,y4,y5]) rfl ⟨rfl,by go_grown⟩
  |some p=>
    obtain⟨rfl,bv,hz,⟨q0,q1,q2,q3,q4,q5⟩,f0,f1,f2,f3,f4,f5⟩:=hbest;have hz':=zb hz;obtain⟨az,cz,rfl,-,-,-⟩:=hz;go_wp2;refine bodyPost_ret (v:=.tuple #[.agg #[.string p.nm,.int .i64 p.fm,.int .i64 p.fe,.string p.ct,.bool p.pro,.slice az p.bs.length cz],.bool true]) (by simp[results,Tryz.results32,go_sem,y0,y1,y2,y3,y4,y5]) rfl ⟨.slice az p.bs.length cz,rfl,?_,?_⟩;· exact hz'.out.below (by go_grown)
    go_grown
end Go.Proofs.YtngippiilgdnoaaGreat
