/-
  The walks of filter at products, by the two function literals of product.
-/
import Derived.Test.YtngippiilgdnoaaGreatMhbb
import Derived.Deep.QuietTactic
import Derived.BigQuiet
import Derived.Deep.RegionHeld3
import Derived.Test.YtngippiilgdnoaaGreatMhah
set_option maxRecDepth 100000
set_option maxHeartbeats 25600000
namespace Go.Proofs.YtngippiilgdnoaaGreat
open Go.RowKit
theorem vt {B:Nat} {a w:World} (h:Below B a w) (n:Nat):Below B a (w.drewN n):=⟨h.os,h.tape,h.output,h.size,h.block⟩
def EU (b:Bd) (zv:Value):Value:=.agg #[.int .i64 b.kd,zv,.int .i64 b.un,.int .i64 b.ro,.int .i64 b.pr,.bool b.sh]
theorem KJ (v:Value) (l:List ByteArray) (w:World) (h:zR w v l):
 Calls Tryz.prog 158 #[v] w fun e w'=>e=.returned (.int .i64 (qM l))/\∃n,w'=w.drewN n:=by
 have hh:=h;obtain⟨av,cap,rfl,hlc,hm,hc⟩:=h;have hm:=hm.1;unfold maxLen at hm;by_cases h64:64<l.length
 · have H:=zb (show qM l=5 from if_pos h64)
   go_enter Tryz.func158,Tryz.ntmps158;go_wp2;go_ret;exact⟨zO H.out.symm,0,rfl⟩
 have hs:∀k (hk:k<l.length),∃b o,av=some ⟨b,o,none⟩/\b<w.heap.size/\StrR w b (o+k) l[k]:=by intro k hk;obtain⟨b,o,e,hB,hx⟩:=hc (by rintro rfl;cases hk);exact⟨b,o,e,hB,by simpa using hx k hk⟩
 have Hs:=zb hs;have HZ:=zb (show qM l=if l.all yT=false then 8 else if ascS l=false then 9 else 0 from if_neg h64);clear hc hs hh;go_enter Tryz.func158,Tryz.ntmps158;go_wp2;go_loop [3] (fun i=>∃k:Nat,k<=l.length/\i=.int .i64 k/\(l.take k).all yT=true) (fun i=>l.length-(intOf i).toNat);case atStart=>exact⟨0,Nat.zero_le _,rfl,rfl⟩
 case round=>
  obtain⟨k,hk,rfl,ha⟩:=hrel;by_cases hlt:k<l.length
  · obtain⟨b,o,rfl,hB,hcell,hsz⟩:=Hs.out k hlt
    have hat:(l.take (k+1)).all yT=((l.take k).all yT&&yT l[k]):=by rw[List.take_succ_eq_append_getElem hlt,List.all_append];simp
    have haf:yT l[k]=false->l.all yT=false:=fun hf=>by
     rw[List.all_eq_false];exact⟨l[k],List.getElem_mem hlt,by rw[hf];decide⟩
    rw[ha,Bool.true_and]at hat;generalize l[k]=x at *;cases hx:yT x with
    |true=>have HA:=zb (hat.trans hx);have HX:=zb hx;clear ha hat haf hx;go_wp2_with fail;refine(uq x _ hsz).mono ?_;rintro e w1 ⟨rfl,rfl⟩;rw[HX.out];go_wp2;exact⟨⟨k+1,by omega,by go_num,HA.out⟩,by simp[intOf];omega⟩
    |false=>have H:=zb (show qM l=8 by rw[HZ.out,if_pos (haf hx)]);have HX:=zb hx;clear ha hat haf hx;go_wp2_with fail;refine(uq x _ hsz).mono ?_;rintro e w1 ⟨rfl,rfl⟩;rw[HX.out];go_wp2;go_ret;exact⟨zO H.out.symm,0,rfl⟩
  have hall:l.all yT=true:=by rw[<-ha,List.take_of_length_le (by omega)]
  have HZ2:=zb (show qM l=if ascS l=false then 9 else 0 by rw[HZ.out,if_neg (by rw[hall];decide)]);clear hall ha;go_wp2;go_loopw [4] (fun i wr=>∃j n:Nat,i=.int .i64 ((j:Int)+1)/\uc l j=true/\j<=l.length/\wr=w.drewN n) (fun i _=>l.length+1-(intOf i).toNat);case atStart=>exact⟨0,0,rfl,rfl,Nat.zero_le _,rfl⟩
  case round=>
   obtain⟨j,n,rfl,ha,hjl,rfl⟩:=hrel;by_cases hlt2:j+1<l.length
   · obtain⟨b,o,rfl,hB,hcell,hsz⟩:=Hs.out (j+1) hlt2
     obtain⟨b',o',e',hB',hcell',hsz'⟩:=Hs.out j (by omega);cases e';have hat:=KB l (j+1) (by omega) hlt2;have haf:=Jp l (j+1) (by omega) hlt2;simp only[Nat.add_sub_cancel]at hat haf;rw[ha,Bool.true_and]at hat;generalize l[j+1]=y at *;generalize l[j]=x at *;unfold ltS at hat haf;have hj1:(0:Int)<=(j:Int):=Int.natCast_nonneg _;have hj2:(j:Int)<(l.length:Int):=by omega
     have hj3:(j:Int)+1<(l.length:Int):=by omega
     have hj4:(0:Int)<=(j:Int)+1:=by omega
     cases hx:Op.bytesLess x.toList y.toList with
     |true=>
       have HA:=zb (hat.trans hx);clear ha hat haf;go_wp2_with fail;have hj5:IntKind.i64.wrap ((j:Int)+1-1)=(j:Int):=by rw[Int.add_sub_cancel];exact IntWalk.i64_in _ (by omega)
       have hj6:((j:Int)+1).toNat=j+1:=by omega
       have hj7:IntKind.i64.wrap (j:Int)=(j:Int):=IntWalk.i64_in _ (by omega);go_quiet (fail);clear hj5 hj6 hj7;go_wp2;exact⟨⟨j+1,_,by go_num,HA.out,by omega,rfl⟩,by simp[intOf];omega⟩
     |false=>
       have H:=zb (show qM l=9 by rw[HZ2.out,if_pos (haf hx)]);clear ha hat haf;go_wp2_with fail;have hj5:IntKind.i64.wrap ((j:Int)+1-1)=(j:Int):=by rw[Int.add_sub_cancel];exact IntWalk.i64_in _ (by omega)
       have hj6:((j:Int)+1).toNat=j+1:=by omega
       have hj7:IntKind.i64.wrap (j:Int)=(j:Int):=IntWalk.i64_in _ (by omega);go_quiet (fail);clear hj5 hj6 hj7;go_wp2;go_ret;exact⟨zO H.out.symm,_,World.drewN_drewN _ _ _⟩
   have hasc:ascS l=true:=by
    unfold ascS;by_cases hz:l.length=0;· rw[hz];rfl
    have:l.length-1<=j:=by omega
    rw[uc,List.all_eq_true]at ha⊢;exact fun i hi=>ha i (by simp at hi⊢;omega)
   have H:=zb (show qM l=0 by rw[HZ2.out,hasc];rfl);clear hasc ha;go_wp2;go_ret;exact⟨zO H.out.symm,_,rfl⟩
theorem Q9 (b:Bd) (zv:Value) (w:World) (h:zR w zv b.zs):
 Calls Tryz.prog 120 #[EU b zv] w fun e w'=>e=.returned (.int .i64 (vR b))/\Below w.heap.size w w':=by
 have hw0:∀o,Below w.heap.size w (w.alloc o):=fun o=>by go_grown
 have Hz:=zb (fun o=>KJ zv b.zs (w.alloc o) (h.below (hw0 o)));obtain⟨av,cap,rfl,-,-,-⟩:=h;obtain⟨kd,zs,un,ro,pr,sh⟩:=b;unfold EU;dsimp only at *;by_cases hk:kd<1\/4<kd
 · have H:=zb (show vR ⟨kd,zs,un,ro,pr,sh⟩=7 from if_pos hk)
   have hc:kd<1\/(1<=kd/\4<kd):=by omega
   clear hk;rcases hc with hc|hc;all_goals
    go_enter Tryz.func120,Tryz.ntmps120;go_wp2;go_ret;exact⟨zO H.out.symm,by go_grown⟩
 have h1:1<=kd:=by omega
 have h4:kd<=4:=by omega
 have HB:=zb (show vR ⟨kd,zs,un,ro,pr,sh⟩=if qM zs≠0 then qM zs else if ¬Bd.ok ⟨kd,zs,un,ro,pr,sh⟩ then 6 else 0 from if_neg hk);clear hk;by_cases hz:qM zs=0
 · have HZ:=zb hz
   have HB2:=zb (show vR ⟨kd,zs,un,ro,pr,sh⟩=if ¬Bd.ok ⟨kd,zs,un,ro,pr,sh⟩ then 6 else 0 by rw[HB.out,if_neg (not_not_intro hz)]);clear hz;by_cases hok:Bd.ok ⟨kd,zs,un,ro,pr,sh⟩
   · have H:=zb (show vR ⟨kd,zs,un,ro,pr,sh⟩=0 by rw[HB2.out,if_neg (not_not_intro hok)])
     obtain⟨a1,a2,a3,a4,a5,a6⟩:=hok;dsimp only at a1 a2 a3 a4 a5 a6;go_enter Tryz.func120,Tryz.ntmps120;go_wp2_with fail;refine(Hz.out _).mono ?_;rintro e w1 ⟨rfl,n,rfl⟩;rw[HZ.out];go_wp2;go_ret;exact⟨zO H.out.symm,vt (by go_grown) _⟩
   have H:=zb (show vR ⟨kd,zs,un,ro,pr,sh⟩=6 by rw[HB2.out,if_pos hok]);have hcase:un<1\/(1<=un/\1099511627776<un)\/(1<=un/\un<=1099511627776/\ro<0)\/(1<=un/\un<=1099511627776/\0<=ro/\1099511627776<ro)\/(1<=un/\un<=1099511627776/\0<=ro/\ro<=1099511627776/\pr<0)\/(1<=un/\un<=1099511627776/\0<=ro/\ro<=1099511627776/\0<=pr/\99<pr):=by simp only[Bd.ok]at hok;omega
   clear hok;rcases hcase with hc|hc|hc|hc|hc|hc;all_goals
    go_enter Tryz.func120,Tryz.ntmps120;go_wp2_with fail;refine(Hz.out _).mono ?_;rintro e w1 ⟨rfl,n,rfl⟩;rw[HZ.out];go_wp2;go_ret;exact⟨zO H.out.symm,vt (by go_grown) _⟩
 have H:=zb (show vR ⟨kd,zs,un,ro,pr,sh⟩=qM zs by rw[HB.out,if_pos hz]);have hz2:(qM zs != 0)=true:=by rw[bne_iff_ne];exact hz
 clear hz;go_enter Tryz.func120,Tryz.ntmps120;go_wp2_with fail;refine(Hz.out _).mono ?_;rintro e w1 ⟨rfl,n,rfl⟩;go_wp2;go_ret;exact⟨zO H.out.symm,vt (by go_grown) _⟩
def BdR (w:World) (b o:Nat) (x:Bd):Prop:=
 w.cell? ⟨b,o,none⟩=some (.int .i64 x.kd)/\(∃zv,w.cell? ⟨b,o+1,none⟩=some zv/\zR w zv x.zs)/\w.cell? ⟨b,o+2,none⟩=some (.int .i64 x.un)/\w.cell? ⟨b,o+3,none⟩=some (.int .i64 x.ro)/\
  w.cell? ⟨b,o+4,none⟩=some (.int .i64 x.pr)/\w.cell? ⟨b,o+5,none⟩=some (.bool x.sh)
theorem BdR.stays:Yl BdR:=fun w w' b _ _ hb hB ⟨h0,⟨zv,h1,hz⟩,h2,h3,h4,h5⟩=>
 have c:∀j,w'.cell? ⟨b,j,none⟩=w.cell? ⟨b,j,none⟩:=fun j=>hb.cell (p:=⟨b,j,none⟩) hB
 ⟨(c _).trans h0,⟨zv,(c _).trans h1,hz.below hb⟩,(c _).trans h2,(c _).trans h3,(c _).trans h4,(c _).trans h5⟩
def qR (w:World) (v:Value) (l:List Bd):Prop:=zz 6 BdR w v l
theorem qR.below {w w':World} {v:Value} {l:List Bd} (h:qR w v l) (hb:Below w.heap.size w w'):qR w' v l:=zz.below BdR.stays h hb
def ky (p:Pd) (bv:Value):Value:=.agg #[.string p.nm,.int .i64 p.fm,.int .i64 p.fe,.string p.ct,.bool p.pro,bv]
theorem Jo (l:List Bd) (k:Nat) (h:k<l.length):vY (l.drop k)=if vR l[k]≠0 then vR l[k] else vY (l.drop (k+1)):=by rw[List.drop_eq_getElem_cons h,vY]
theorem Kz (l:List Bd) (k:Nat) (h:l.length<=k):vY (l.drop k)=0:=by rw[List.drop_of_length_le h];rfl
theorem kN {s:ByteArray} {b:Bool} (h:yT s=b) (hs:s.size<=maxLen) (w:World):Calls Tryz.prog 119 #[.string s] w fun e w'=>e=.returned (.bool b)/\w=w':=by rw[<-h];exact uq s w hs
theorem Jy (p:Pd) (bv:Value) (w:World) (hns:p.nm.size<=maxLen) (hcs:p.ct.size<=maxLen) (h:qR w bv p.bs):
 Calls Tryz.prog 73 #[ky p bv] w fun e w'=>e=.returned (.int .i64 (vD p))/\Below w.heap.size w w':=by
 have hh:=h;obtain⟨av,cap,rfl,hlc,hm,-⟩:=h;obtain⟨nm,fm,fe,ct,pro,bs⟩:=p;unfold ky;dsimp only at *;have hm2:=hm.1;unfold maxLen at hm2;obtain⟨W,hW⟩:∃W,W=w.alloc (Obj.cells #[Value.string nm,Value.int .i64 fm,Value.int .i64 fe,Value.string ct,Value.bool pro,Value.slice av bs.length cap] 72):=⟨_,rfl⟩;have hw0:Below w.heap.size w W:=by rw[hW];go_grown
 have hlt:w.heap.size<W.heap.size:=by rw[hW];simp
 have m0:W.cell? ⟨w.heap.size,0,none⟩=some (Value.string nm):=by rw[hW];simp[go_sem]
 have m1:W.cell? ⟨w.heap.size,1,none⟩=some (Value.int .i64 fm):=by rw[hW];simp[go_sem]
 have m2:W.cell? ⟨w.heap.size,2,none⟩=some (Value.int .i64 fe):=by rw[hW];simp[go_sem]
 have m3:W.cell? ⟨w.heap.size,3,none⟩=some (Value.string ct):=by rw[hW];simp[go_sem]
 have m5:W.cell? ⟨w.heap.size,5,none⟩=some (Value.slice av bs.length cap):=by rw[hW];simp[go_sem]
 have HW:=zb hW;have Hs:=zb (hh.below hw0);clear hW hh hm;cases h1:yT nm with
 |false=>have H:=zb (show vD ⟨nm,fm,fe,ct,pro,bs⟩=8 from if_pos h1);have H1:=zb h1;clear h1;go_enter Tryz.func73,Tryz.ntmps73;go_wp2_with fail;rw[<-HW.out];refine(kN H1.out hns _).mono ?_;rintro e w1 ⟨rfl,rfl⟩;go_wp2;go_ret;exact⟨zO H.out.symm,hw0⟩
 |true=>
   have H1:=zb h1;by_cases h2:fm<0\/12622780800<=fm
   · have H:=zb (show vD ⟨nm,fm,fe,ct,pro,bs⟩=15 by rw[vD,if_neg (by simp[h1]),if_pos h2])
     have hc:fm<0\/(0<=fm/\12622780800<=fm):=by omega
     clear h1 h2;rcases hc with hc|hc;all_goals
      go_enter Tryz.func73,Tryz.ntmps73;go_wp2_with fail;rw[<-HW.out];refine(kN H1.out hns _).mono ?_;rintro e w1 ⟨rfl,rfl⟩;go_wp2;go_ret;exact⟨zO H.out.symm,hw0⟩
   have f1:0<=fm:=by omega
   have f2:fm<12622780800:=by omega
   by_cases h3:fe<0\/1125899906842624<fe
   · have H:=zb (show vD ⟨nm,fm,fe,ct,pro,bs⟩=6 by rw[vD,if_neg (by simp[h1]),if_neg h2,if_pos h3])
     have hc:fe<0\/(0<=fe/\1125899906842624<fe):=by omega
     clear h1 h2 h3;rcases hc with hc|hc;iterate 2
      · skip
        go_enter Tryz.func73,Tryz.ntmps73;go_wp2_with fail;rw[<-HW.out];refine(kN H1.out hns _).mono ?_;rintro e w1 ⟨rfl,rfl⟩;go_wp2;go_ret;exact⟨zO H.out.symm,hw0⟩
   have g1:0<=fe:=by omega
   have g2:fe<=1125899906842624:=by omega
   cases h4:yT ct with
   |false=>have H:=zb (show vD ⟨nm,fm,fe,ct,pro,bs⟩=8 by rw[vD,if_neg (by simp[h1]),if_neg h2,if_neg h3,if_pos h4]);have H4:=zb h4;clear h1 h2 h3 h4;go_enter Tryz.func73,Tryz.ntmps73;go_wp2_with fail;rw[<-HW.out];refine(kN H1.out hns _).mono ?_;rintro e w1 ⟨rfl,rfl⟩;go_wp2_with fail;refine(kN H4.out hcs _).mono ?_;rintro e w1 ⟨rfl,rfl⟩;go_wp2;go_ret;exact⟨zO H.out.symm,hw0⟩
   |true=>
     have H4:=zb h4;by_cases h5:64<bs.length
     · have H:=zb (show vD ⟨nm,fm,fe,ct,pro,bs⟩=5 by rw[vD,if_neg (by simp[h1]),if_neg h2,if_neg h3,if_neg (by simp[h4]),if_pos h5])
       clear h1 h2 h3 h4;go_enter Tryz.func73,Tryz.ntmps73;go_wp2_with fail;rw[<-HW.out];refine(kN H1.out hns _).mono ?_;rintro e w1 ⟨rfl,rfl⟩;go_wp2_with fail;refine(kN H4.out hcs _).mono ?_;rintro e w1 ⟨rfl,rfl⟩;go_wp2;go_ret;exact⟨zO H.out.symm,hw0⟩
     have HP:=zb (show vD ⟨nm,fm,fe,ct,pro,bs⟩=vY bs by rw[vD,if_neg (by simp[h1]),if_neg h2,if_neg h3,if_neg (by simp[h4]),if_neg h5]);clear h1 h2 h3 h4;go_enter Tryz.func73,Tryz.ntmps73;go_wp2_with fail;rw[<-HW.out];refine(kN H1.out hns _).mono ?_;rintro e w1 ⟨rfl,rfl⟩;go_wp2_with fail;refine(kN H4.out hcs _).mono ?_;rintro e w1 ⟨rfl,rfl⟩;go_wp2_with fail;go_loopw [3] (fun i wr=>∃k:Nat,k<=bs.length/\i=.int .i64 k/\vY bs=vY (bs.drop k)/\Below W.heap.size W wr) (fun i _=>bs.length-(intOf i).toNat);case atStart=>exact⟨0,Nat.zero_le _,rfl,rfl,Below.refl _ _⟩
     case round=>
      obtain⟨k,hk,rfl,he,hb⟩:=hrel;have n5:=(hb.cell (p:=⟨w.heap.size,5,none⟩) hlt).trans m5;by_cases hlk:k<bs.length
      · obtain⟨av2,cap2,e2,-,-,hx⟩:=Hs.out.below hb
        cases e2;obtain⟨b,o,rfl,hB,hx⟩:=hx (by rintro rfl;cases hlk);obtain⟨c0,⟨zv,c1,hz⟩,c2,c3,c4,c5⟩:=hx k hlk;have hst:=Jo bs k hlk;rw[<-he]at hst;clear hx he;generalize bs[k]=x at *;have hk0:(0:Int)<=(k:Int):=Int.natCast_nonneg _;have hk1:(k:Int)<(bs.length:Int):=by omega
        have Hst:=zb hst;have Hb:=zb (fun w1 (hb1:Below wr.heap.size wr w1)=>Q9 x zv w1 (hz.below hb1));have hbw:=hb.size;obtain⟨az,cz,rfl,-,-,-⟩:=hz;obtain⟨kd,zs,un,ro,pr,sh⟩:=x;unfold EU at Hb;dsimp only at c0 c1 c2 c3 c4 c5 Hb;clear hst;by_cases hz0:vR ⟨kd,zs,un,ro,pr,sh⟩=0
        · have HE:=zb (show vY bs=vY (bs.drop (k+1)) by rw[Hst.out,if_neg (not_not_intro hz0)])
          have HZ:=zb hz0;clear hz0;go_wp2_with fail;refine(Hb.out _ (by go_grown)).mono ?_;rintro e w2 ⟨rfl,hb2⟩;rw[HZ.out];have hb3:Below W.heap.size W w2:=Below.trans (by go_grown) (hb2.mono (by omega));go_wp2;exact⟨⟨k+1,by omega,by go_num,HE.out,hb3⟩,by simp[intOf];omega⟩
        have HE:=zb (show vD ⟨nm,fm,fe,ct,pro,bs⟩=vR ⟨kd,zs,un,ro,pr,sh⟩ by rw[HP.out,Hst.out,if_pos hz0]);have hz2:(vR ⟨kd,zs,un,ro,pr,sh⟩ != 0)=true:=by rw[bne_iff_ne];exact hz0
        clear hz0;go_wp2_with fail;refine(Hb.out _ (by go_grown)).mono ?_;rintro e w2 ⟨rfl,hb2⟩;have hb3:Below W.heap.size W w2:=Below.trans (by go_grown) (hb2.mono (by omega));go_wp2;go_ret;exact⟨zO HE.out.symm,hw0.trans (hb3.mono hw0.size)⟩
      have H:=zb (show vD ⟨nm,fm,fe,ct,pro,bs⟩=0 by rw[HP.out,he,Kz bs k (by omega)]);clear he;go_wp2;go_ret;exact⟨zO H.out.symm,hw0.trans (hb.mono hw0.size)⟩
def PdR (w:World) (b o:Nat) (x:Pd):Prop:=
 (w.cell? ⟨b,o,none⟩=some (.string x.nm)/\x.nm.size<=maxLen)/\w.cell? ⟨b,o+1,none⟩=some (.int .i64 x.fm)/\w.cell? ⟨b,o+2,none⟩=some (.int .i64 x.fe)/\(w.cell? ⟨b,o+3,none⟩=some (.string x.ct)/\x.ct.size<=maxLen)/\
  w.cell? ⟨b,o+4,none⟩=some (.bool x.pro)/\∃bv,w.cell? ⟨b,o+5,none⟩=some bv/\qR w bv x.bs
theorem PdR.stays:Yl PdR:=fun w w' b _ _ hb hB ⟨⟨h0,s0⟩,h1,h2,⟨h3,s3⟩,h4,bv,h5,hz⟩=>
 have c:∀j,w'.cell? ⟨b,j,none⟩=w.cell? ⟨b,j,none⟩:=fun j=>hb.cell (p:=⟨b,j,none⟩) hB
 ⟨⟨(c _).trans h0,s0⟩,(c _).trans h1,(c _).trans h2,⟨(c _).trans h3,s3⟩,(c _).trans h4,bv,(c _).trans h5,hz.below hb⟩
def qu (w:World) (v:Value) (l:List Pd):Prop:=zz 6 PdR w v l
theorem qu.below {w w':World} {v:Value} {l:List Pd} (h:qu w v l) (hb:Below w.heap.size w w'):qu w' v l:=zz.below PdR.stays h hb
def jG (l:List Pd) (k:Nat):Option Pd:=if k=0 then none else l[k-1]?
def vz (l:List Pd):Int:=if 4096<l.length then 5 else vX none l
theorem U5 (l:List Pd) (k:Nat) (h:l.length<=k) (q:Option Pd):vX q (l.drop k)=0:=by rw[List.drop_of_length_le h];cases q<;>rfl
theorem KX (l:List Pd) (h:0<l.length):vX (jG l 0) (l.drop 0)=if vD l[0]≠0 then vD l[0] else vX (jG l 1) (l.drop 1):=by
 rw[List.drop_eq_getElem_cons h];show vX none _=_;rw[vX];have e:jG l 1=some l[0]:=by simp[jG,h]
 rw[e];rfl
theorem KY (l:List Pd) (k:Nat) (h:k+1<l.length):vX (jG l (k+1)) (l.drop (k+1))=
 if vD l[k+1]≠0 then vD l[k+1] else if Vs l[k] l[k+1]=true then 9 else vX (jG l (k+1+1)) (l.drop (k+1+1)):=by
 rw[List.drop_eq_getElem_cons h];have e:jG l (k+1)=some l[k]:=by simp[jG,Nat.lt_of_succ_lt h]
 have e2:jG l (k+1+1)=some l[k+1]:=by simp[jG,h]
 rw[e,e2,vX]
theorem KA {a b:Pd} {A E:Bool} (hA:Op.bytesLess a.nm.toList b.nm.toList=A) (hE:(a.nm.toList==b.nm.toList)=E):Vs a b=((!A&&!E)||(E&&decide (b.fm<=a.fm))):=by unfold Vs ltS eqS;rw[hA,hE]
theorem Q3 (v:Value) (l:List Pd) (w:World) (h:qu w v l):
 Calls Tryz.prog 38 #[v] w fun e w'=>e=.returned (.int .i64 (vz l))/\Below w.heap.size w w':=by
 have hh:=h;obtain⟨av,cap,rfl,hlc,hm,-⟩:=h;have hm:=hm.1;unfold maxLen at hm;by_cases hbig:4096<l.length
 · have H:=zb (show vz l=5 from if_pos hbig)
   go_enter Tryz.func38,Tryz.ntmps38;go_wp2;go_ret;exact⟨zO H.out.symm,Below.refl _ _⟩
 have H:=zb (show vz l=vX (jG l 0) (l.drop 0)from if_neg hbig);go_enter Tryz.func38,Tryz.ntmps38;go_wp2_with fail;go_loopw [3] (fun i wr=>∃k:Nat,k<=l.length/\i=.int .i64 k/\vz l=vX (jG l k) (l.drop k)/\Below w.heap.size w wr) (fun i _=>l.length-(intOf i).toNat);case atStart=>exact⟨0,Nat.zero_le _,rfl,H.out,Below.refl _ _⟩
 case round=>
  obtain⟨k,hk,rfl,he,hb⟩:=hrel;by_cases hlk:k<l.length
  · obtain⟨av2,cap2,e2,-,-,hx⟩:=hh.below hb
    cases e2;obtain⟨b,o,rfl,hB,hx⟩:=hx (by rintro rfl;cases hlk);have hxk:=hx k hlk;have hk0:(0:Int)<=(k:Int):=Int.natCast_nonneg _;have hk1:(k:Int)<(l.length:Int):=by omega
    match k,hk,he,hlk,hxk,hk0,hk1 with
    |0,hk,he,hlk,hxk,hk0,hk1=>
      have hst:=KX l hlk;rw[<-he]at hst;clear hx he;generalize l[0]=x at *;obtain⟨⟨c0,s0⟩,c1,c2,⟨c3,s3⟩,c4,bv,c5,hz⟩:=id hxk;obtain⟨az,cz,rfl,hzz⟩:=id hz;clear hzz;simp only[Nat.zero_mul,Nat.add_zero]at c0 c1 c2 c3 c4 c5;have Hxk:=zb hxk;have Hst:=zb hst;clear hst hxk;obtain⟨X,rfl⟩:∃X,X=wr:=⟨_,rfl⟩;have hbX:Below X.heap.size X X:=Below.refl _ _;have Hc:=zb (Jy x _ X s0 s3 (hz.below hbX));unfold ky at Hc;by_cases hz0:vD x=0
      · have HE:=zb (show vz l=vX (jG l 1) (l.drop 1) by rw[Hst.out,if_neg (not_not_intro hz0)])
        have HZ:=zb hz0;clear hz0;go_wp2_with fail;refine Hc.out.mono ?_;rintro e w2 ⟨rfl,hb2⟩;rw[HZ.out];have hb3:=hbX.trans (hb2.mono hbX.size);have hb4:=hb.trans (hb3.mono hb.size);clear hb2 hb3;go_wp2_with fail;go_quiet (fail);go_wp2;exact⟨⟨1,by omega,rfl,HE.out,vt hb4 _⟩,by simp[intOf];omega⟩
      have HE:=zb (show vz l=vD x by rw[Hst.out,if_pos hz0]);have hz2:(vD x != 0)=true:=by rw[bne_iff_ne];exact hz0
      clear hz0;go_wp2_with fail;refine Hc.out.mono ?_;rintro e w2 ⟨rfl,hb2⟩;have hb3:=hbX.trans (hb2.mono hbX.size);have hb4:=hb.trans (hb3.mono hb.size);clear hb2 hb3;go_wp2;go_ret;exact⟨zO HE.out.symm,hb4⟩
    |k+1,hk,he,hlk,hxk,hk0,hk1=>
      have hst:=KY l k hlk;rw[<-he]at hst;have hxp:=hx k (by omega);clear hx he;generalize l[k+1]=x at *;generalize l[k]=y at *;obtain⟨⟨c0,s0⟩,c1,c2,⟨c3,s3⟩,c4,bv,c5,hz⟩:=id hxk;obtain⟨az,cz,rfl,hzz⟩:=id hz;clear hzz;have Hst:=zb hst;clear hst;obtain⟨X,rfl⟩:∃X,X=wr:=⟨_,rfl⟩;have hbX:Below X.heap.size X X:=Below.refl _ _;have Hc:=zb (Jy x _ X s0 s3 (hz.below hbX));unfold ky at Hc;by_cases hz0:vD x=0
      · have HZ:=zb hz0
        cases hA:Op.bytesLess y.nm.toList x.nm.toList<;>cases hE:(y.nm.toList==x.nm.toList)
        · have hbd:=KA hA hE
          have HE:=zb (show vz l=9 by rw[Hst.out,if_neg (not_not_intro hz0),hbd];rfl);clear hz0 hbd;go_wp2_with fail;refine Hc.out.mono ?_;rintro e w2 ⟨rfl,hb2⟩;rw[HZ.out];have hb3:=hbX.trans (hb2.mono hbX.size);have hb4:=hb.trans (hb3.mono hb.size);obtain⟨⟨d0,-⟩,d1,-⟩:=PdR.stays _ _ _ _ _ hb3 hB hxk;obtain⟨⟨q0,-⟩,q1,-⟩:=PdR.stays _ _ _ _ _ hb3 hB hxp;have Hxx:=zb (And.intro hxk hxp);clear hb2 hb3 hxk hxp;go_wp2_with fail;have hj5:IntKind.i64.wrap ((k:Int)+1-1)=(k:Int):=by rw[Int.add_sub_cancel];exact IntWalk.i64_in _ (by omega)
          have hj6:((k:Int)+1).toNat=k+1:=by omega
          have hj7:IntKind.i64.wrap (k:Int)=(k:Int):=IntWalk.i64_in _ (by omega);have hj8:(0:Int)<(k:Int)+1:=by omega
          go_quiet (fail);clear hj5 hj6 hj7 hj8;go_wp2;go_ret;exact⟨zO HE.out.symm,vt hb4 _⟩
        · have hbd:=KA hA hE
          by_cases hF:x.fm<=y.fm
          · skip
            have HE:=zb (show vz l=9 by rw[Hst.out,if_neg (not_not_intro hz0),hbd];simp[hF]);clear hz0 hbd;go_wp2_with fail;refine Hc.out.mono ?_;rintro e w2 ⟨rfl,hb2⟩;rw[HZ.out];have hb3:=hbX.trans (hb2.mono hbX.size);have hb4:=hb.trans (hb3.mono hb.size);obtain⟨⟨d0,-⟩,d1,-⟩:=PdR.stays _ _ _ _ _ hb3 hB hxk;obtain⟨⟨q0,-⟩,q1,-⟩:=PdR.stays _ _ _ _ _ hb3 hB hxp;have Hxx:=zb (And.intro hxk hxp);clear hb2 hb3 hxk hxp;go_wp2_with fail;have hj5:IntKind.i64.wrap ((k:Int)+1-1)=(k:Int):=by rw[Int.add_sub_cancel];exact IntWalk.i64_in _ (by omega)
            have hj6:((k:Int)+1).toNat=k+1:=by omega
            have hj7:IntKind.i64.wrap (k:Int)=(k:Int):=IntWalk.i64_in _ (by omega);have hj8:(0:Int)<(k:Int)+1:=by omega
            go_quiet (fail);clear hj5 hj6 hj7 hj8;go_wp2;go_ret;exact⟨zO HE.out.symm,vt hb4 _⟩
          skip
          have HE:=zb (show vz l=vX (jG l (k+1+1)) (l.drop (k+1+1)) by rw[Hst.out,if_neg (not_not_intro hz0),hbd];simp[hF]);clear hz0 hbd;go_wp2_with fail;refine Hc.out.mono ?_;rintro e w2 ⟨rfl,hb2⟩;rw[HZ.out];have hb3:=hbX.trans (hb2.mono hbX.size);have hb4:=hb.trans (hb3.mono hb.size);obtain⟨⟨d0,-⟩,d1,-⟩:=PdR.stays _ _ _ _ _ hb3 hB hxk;obtain⟨⟨q0,-⟩,q1,-⟩:=PdR.stays _ _ _ _ _ hb3 hB hxp;have Hxx:=zb (And.intro hxk hxp);clear hb2 hb3 hxk hxp;go_wp2_with fail;have hj5:IntKind.i64.wrap ((k:Int)+1-1)=(k:Int):=by rw[Int.add_sub_cancel];exact IntWalk.i64_in _ (by omega)
          have hj6:((k:Int)+1).toNat=k+1:=by omega
          have hj7:IntKind.i64.wrap (k:Int)=(k:Int):=IntWalk.i64_in _ (by omega);have hj8:(0:Int)<(k:Int)+1:=by omega
          go_quiet (fail);clear hj5 hj6 hj7 hj8;go_wp2;exact⟨⟨k+1+1,by omega,by go_num,HE.out,vt hb4 _⟩,by simp[intOf];omega⟩
        · have hbd:=KA hA hE
          have HE:=zb (show vz l=vX (jG l (k+1+1)) (l.drop (k+1+1)) by rw[Hst.out,if_neg (not_not_intro hz0),hbd];rfl);clear hz0 hbd;go_wp2_with fail;refine Hc.out.mono ?_;rintro e w2 ⟨rfl,hb2⟩;rw[HZ.out];have hb3:=hbX.trans (hb2.mono hbX.size);have hb4:=hb.trans (hb3.mono hb.size);obtain⟨⟨d0,-⟩,d1,-⟩:=PdR.stays _ _ _ _ _ hb3 hB hxk;obtain⟨⟨q0,-⟩,q1,-⟩:=PdR.stays _ _ _ _ _ hb3 hB hxp;have Hxx:=zb (And.intro hxk hxp);clear hb2 hb3 hxk hxp;go_wp2_with fail;have hj5:IntKind.i64.wrap ((k:Int)+1-1)=(k:Int):=by rw[Int.add_sub_cancel];exact IntWalk.i64_in _ (by omega)
          have hj6:((k:Int)+1).toNat=k+1:=by omega
          have hj7:IntKind.i64.wrap (k:Int)=(k:Int):=IntWalk.i64_in _ (by omega);have hj8:(0:Int)<(k:Int)+1:=by omega
          go_quiet (fail);clear hj5 hj6 hj7 hj8;go_wp2;exact⟨⟨k+1+1,by omega,by go_num,HE.out,vt hb4 _⟩,by simp[intOf];omega⟩
        have hbd:=KA hA hE;by_cases hF:x.fm<=y.fm
        · skip
          have HE:=zb (show vz l=9 by rw[Hst.out,if_neg (not_not_intro hz0),hbd];simp[hF]);clear hz0 hbd;go_wp2_with fail;refine Hc.out.mono ?_;rintro e w2 ⟨rfl,hb2⟩;rw[HZ.out];have hb3:=hbX.trans (hb2.mono hbX.size);have hb4:=hb.trans (hb3.mono hb.size);obtain⟨⟨d0,-⟩,d1,-⟩:=PdR.stays _ _ _ _ _ hb3 hB hxk;obtain⟨⟨q0,-⟩,q1,-⟩:=PdR.stays _ _ _ _ _ hb3 hB hxp;have Hxx:=zb (And.intro hxk hxp);clear hb2 hb3 hxk hxp;go_wp2_with fail;have hj5:IntKind.i64.wrap ((k:Int)+1-1)=(k:Int):=by rw[Int.add_sub_cancel];exact IntWalk.i64_in _ (by omega)
          have hj6:((k:Int)+1).toNat=k+1:=by omega
          have hj7:IntKind.i64.wrap (k:Int)=(k:Int):=IntWalk.i64_in _ (by omega);have hj8:(0:Int)<(k:Int)+1:=by omega
          go_quiet (fail);clear hj5 hj6 hj7 hj8;go_wp2;go_ret;exact⟨zO HE.out.symm,vt hb4 _⟩
        skip
        have HE:=zb (show vz l=vX (jG l (k+1+1)) (l.drop (k+1+1)) by rw[Hst.out,if_neg (not_not_intro hz0),hbd];simp[hF]);clear hz0 hbd;go_wp2_with fail;refine Hc.out.mono ?_;rintro e w2 ⟨rfl,hb2⟩;rw[HZ.out];have hb3:=hbX.trans (hb2.mono hbX.size);have hb4:=hb.trans (hb3.mono hb.size);obtain⟨⟨d0,-⟩,d1,-⟩:=PdR.stays _ _ _ _ _ hb3 hB hxk;obtain⟨⟨q0,-⟩,q1,-⟩:=PdR.stays _ _ _ _ _ hb3 hB hxp;have Hxx:=zb (And.intro hxk hxp);clear hb2 hb3 hxk hxp;go_wp2_with fail;have hj5:IntKind.i64.wrap ((k:Int)+1-1)=(k:Int):=by rw[Int.add_sub_cancel];exact IntWalk.i64_in _ (by omega)
        have hj6:((k:Int)+1).toNat=k+1:=by omega
        have hj7:IntKind.i64.wrap (k:Int)=(k:Int):=IntWalk.i64_in _ (by omega);have hj8:(0:Int)<(k:Int)+1:=by omega
        go_quiet (fail);clear hj5 hj6 hj7 hj8;go_wp2;exact⟨⟨k+1+1,by omega,by go_num,HE.out,vt hb4 _⟩,by simp[intOf];omega⟩
      have HE:=zb (show vz l=vD x by rw[Hst.out,if_pos hz0]);have hz2:(vD x != 0)=true:=by rw[bne_iff_ne];exact hz0
      clear hz0;go_wp2_with fail;refine Hc.out.mono ?_;rintro e w2 ⟨rfl,hb2⟩;have hb3:=hbX.trans (hb2.mono hbX.size);have hb4:=hb.trans (hb3.mono hb.size);clear hb2 hb3;go_wp2;go_ret;exact⟨zO HE.out.symm,hb4⟩
  have H:=zb (show vz l=0 by rw[he,U5 l k (by omega)]);clear he;go_wp2;go_ret;exact⟨zO H.out.symm,hb⟩
theorem Tryz.productInfo:(Tryz.prog.info? 72).map (fun i=>(i.zero,i.size,i.bytes))=some (some (.agg #[.string ⟨#[]⟩,.int .i64 0,.int .i64 0,.string ⟨#[]⟩,.bool false,.slice none 0 0]),6,80):=by kernel_rfl
def Vq (q:Pd×Value):List Value:=[.string q.1.nm,.int .i64 q.1.fm,.int .i64 q.1.fe,.string q.1.ct,.bool q.1.pro,q.2]
theorem NC {w:World} {base:Nat} {e:TypeId} {v:Value} {qs:List (Pd×Value)} (h:w.ownsRow base e 6 v qs.length (qs.flatMap Vq)) (hq:∀q∈qs,q.1.nm.size<=maxLen/\q.1.ct.size<=maxLen/\qR w q.2 q.1.bs):qu w v (qs.map (·.1)):=by
 have hs:zz 6 (fun w b o (q:Pd×Value)=>PdR w b o q.1) w v qs:=zz.own Vq (fun _=>rfl) h fun g o i hi hc=>by
  obtain⟨h1,h2,h3⟩:=hq qs[i] (List.getElem_mem hi);exact⟨⟨hc 0 (by omega),h1⟩,hc 1 (by omega),hc 2 (by omega),⟨hc 3 (by omega),h2⟩,hc 4 (by omega),_,hc 5 (by omega),h3⟩
 obtain⟨av,cap,hv,hl,hm,hc⟩:=hs;refine⟨av,cap,by rw[List.length_map];exact hv,by rw[List.length_map];exact hl,hm,fun hne=>?_⟩;obtain⟨b,o,e,hB,hx⟩:=hc (by rintro rfl;exact hne rfl);exact⟨b,o,e,hB,fun i hi=>by
  rw[List.getElem_map];exact hx i (by simpa using hi)⟩
def GK (w:World) (l:List Pd) (keep:Pd->Bool) (e:Ending) (w':World):Prop:=
 ∃v,e=.returned v/\qu w' v (l.filter keep)/\Below w.heap.size w w'
theorem Gy (x:Pd) (bv:Value) (s:ByteArray) (t:Int) (b1 b2:Nat) (w:World) (hx:qR w bv x.bs) (h1:w.cell? ⟨b1,0,none⟩=some (.string s)) (h2:w.cell? ⟨b2,0,none⟩=some (.int .i64 t)):
 Calls Tryz.prog 128 #[ky x bv,.pointer (some ⟨b1,0,none⟩),.pointer (some ⟨b2,0,none⟩)] w fun e w'=>e=.returned (.bool (eqS x.nm s&&decide (x.fm<=t)))/\Below w.heap.size w w':=by
 obtain⟨av,cap,rfl,-,-,-⟩:=hx;unfold ky;have g1:=World.block_lt_of_cell? w _ h1;have g2:=World.block_lt_of_cell? w _ h2;dsimp only at g1 g2;cases hE:(x.nm.toList==s.toList)with
 |true=>have H:=zb (show eqS x.nm s=true from hE);go_enter Tryz.func128,Tryz.ntmps128;go_wp2;go_ret;exact⟨zo (by rw[H.out];simp),by go_grown⟩
 |false=>have H:=zb (show eqS x.nm s=false from hE);go_enter Tryz.func128,Tryz.ntmps128;go_wp2;go_ret;exact⟨zo (by rw[H.out];simp),by go_grown⟩
theorem Zb (s:ByteArray) (t:Int) (l:List Pd) (k:Nat) (h:k<l.length):(l.take (k+1)).filter (fun x:Pd=>eqS x.nm s&&decide (x.fm<=t))=(l.take k).filter (fun x:Pd=>eqS x.nm s&&decide (x.fm<=t))++(if (fun x:Pd=>eqS x.nm s&&decide (x.fm<=t)) l[k] then [l[k]] else []):=Up _ l k h
theorem uC (v:Value) (l:List Pd) (s:ByteArray) (t:Int) (b1 b2:Nat) (w:World) (h:qu w v l) (hl:l.length<=4096) (h1:w.cell? ⟨b1,0,none⟩=some (.string s)) (h2:w.cell? ⟨b2,0,none⟩=some (.int .i64 t)):
 Calls Tryz.prog 127 #[v,.func (.func 128) #[] #[.pointer (some ⟨b1,0,none⟩),.pointer (some ⟨b2,0,none⟩)]] w (GK w l (fun x:Pd=>eqS x.nm s&&decide (x.fm<=t))):=by
 have hh:=h;obtain⟨av,cap,rfl,-,-,-⟩:=h;have g1:=World.block_lt_of_cell? w _ h1;have g2:=World.block_lt_of_cell? w _ h2;dsimp only at g1 g2;go_enter Tryz.func127,Tryz.ntmps127;go_wp2_with fail;go_loopw [5,10] (fun v i wr=>∃(k:Nat) (qs:List (Pd×Value)),k<=l.length/\i=.int .i64 k/\wr.ownsRow w.heap.size 72 6 v qs.length (qs.flatMap Vq)/\qs.map (·.1)=(l.take k).filter (fun x:Pd=>eqS x.nm s&&decide (x.fm<=t))/\
  (∀q∈qs,q.1.nm.size<=maxLen/\q.1.ct.size<=maxLen/\qR w q.2 q.1.bs)/\Below w.heap.size w wr) (fun _ i _=>l.length-(intOf i).toNat);case atStart=>exact⟨0,[],Nat.zero_le _,rfl,⟨rfl,Or.inl ⟨rfl,rfl⟩⟩,rfl,by simp,Below.refl _ _⟩
 case round=>
  obtain⟨k,qs,hk,rfl,hown,hqs,hqa,hb⟩:=hrel;by_cases hlt:k<l.length
  · obtain⟨av',cap',hv,-,-,hs⟩:=hh.below hb
    obtain⟨av0,cap0,hv0,-,-,hs0⟩:=id hh;cases hv;cases hv0;obtain⟨b,o,rfl,hB,hs⟩:=hs (by rintro rfl;cases hlt);obtain⟨b',o',e',hB0,hs0⟩:=hs0 (by rintro rfl;cases hlt);cases e';obtain⟨⟨c0,s0⟩,c1,c2,⟨c3,s3⟩,c4,bv,c5,hz⟩:=hs k hlt;obtain⟨⟨-,-⟩,-,-,⟨-,-⟩,-,bv',c5',hz'⟩:=hs0 k hlt;have ebv:bv'=bv:=by have:=(hb.cell (p:=⟨b,o+k*6+5,none⟩) hB0).symm.trans c5;rw[c5']at this;exact Option.some.inj this
    subst ebv;have hf:=Zb s t l k hlt;have hle:qs.length<=k:=by have:=congrArg List.length hqs;rw[List.length_map]at this;rw[this];exact Qo _ l k
    clear hs hs0 c5';generalize l[k]=x at *;have n1:=(hb.cell (p:=⟨b1,0,none⟩) g1).trans h1;have n2:=(hb.cell (p:=⟨b2,0,none⟩) g2).trans h2;have hk0:(0:Int)<=(k:Int):=Int.natCast_nonneg _;have hk1:(k:Int)<(l.length:Int):=by omega
    have hbz:=hb.size;have Hown:=zb hown;have Hqa:=zb hqa;have Hqs:=zb hqs;have HK:=zb (fun(w1:World) (hb1:Below wr.heap.size wr w1)=>Gy x bv' s t b1 b2 w1 (hz.below hb1) ((hb1.cell (p:=⟨b1,0,none⟩) (Nat.lt_of_lt_of_le g1 hbz)).trans n1) ((hb1.cell (p:=⟨b2,0,none⟩) (Nat.lt_of_lt_of_le g2 hbz)).trans n2));have Hz0:=zb hz';obtain⟨az,cz,rfl,-,-,-⟩:=hz;obtain⟨nm,fm,fe,ct,pro,bs⟩:=x;unfold ky at HK;dsimp only at *;clear hown hqa hqs hz' h1 h2;obtain⟨X,hX⟩:∃X,X=wr.alloc (Obj.cells #[Value.string nm,Value.int .i64 fm,Value.int .i64 fe,Value.string ct,Value.bool pro,Value.slice az bs.length cz] 72):=⟨_,rfl⟩;have hbX:Below wr.heap.size wr X:=by rw[hX];go_grown
    have hlX:wr.heap.size<X.heap.size:=by rw[hX];simp
    have hrX:X.heap[wr.heap.size]?=some (Obj.cells #[Value.string nm,Value.int .i64 fm,Value.int .i64 fe,Value.string ct,Value.bool pro,Value.slice az bs.length cz] 72):=by rw[hX];exact heap_alloc_new _ _
    have HX:=zb hX;clear hX;cases hx:(eqS nm s&&decide (fm<=t))with
    |true=>
      rw[if_pos hx]at hf;have HF:=zb hf;have HX2:=zb hx;clear hf hx;go_wp2_with fail;rw[<-HX.out];refine(HK.out X hbX).mono ?_;rintro e w1 ⟨rfl,hb1⟩;rw[HX2.out];have hr1:=(hb1.block wr.heap.size hlX).trans hrX;have hb2:=hbX.trans (hb1.mono hbX.size);have hb3:=hb.trans (hb2.mono hbz);have hown1:=zd Hown.out hb2;have hz1:=hb3.size;have tQ:=fun j=>cell_of_row w1 _ j _ _ _ hr1;have k0:=tQ 0;have k1:=tQ 1;have k2:=tQ 2;have k3:=tQ 3;have k4:=tQ 4;have k5:=tQ 5;clear tQ;have Hown1:=zb hown1;obtain⟨i0,hi,hz0,hz1',hz2⟩:=info_parts Tryz.productInfo;have Hi:=zb (And.intro hi (And.intro hz0 (And.intro hz1' hz2)));clear hi hz0 hz1' hz2 hown1 hr1 hb1;simp at k0 k1 k2 k3 k4 k5;go_wp2_with (at_builtin;refine wpList_append_own _ rfl _ _ 23 rfl w.heap.size 72 i0 _ 6 80 Tryz.underlying23 Hi.out.1 Hi.out.2.1 Hi.out.2.2.1 Hi.out.2.2.2 rfl (by decide) _ _ _ rfl (Hown1.out.alloc _) ⟨w1.heap.size,0,none⟩ 1 1 [.string nm,.int .i64 fm,.int .i64 fe,.string ct,.bool pro,.slice az bs.length cz] rfl rfl ?c1 ?c2 ?c3 ?c4 ?c5 ?_);case c1=>exact World.news_of_block (cs:=#[.string nm,.int .i64 fm,.int .i64 fe,.string ct,.bool pro,.slice az bs.length cz]) (t:=72) (fr:=(0,0)) (heap_alloc_new _ _)
      case c2=>simp[Value.oneCell']
      case c3=>unfold maxLen;omega
      case c4=>omega
      case c5=>simp;omega
      intro v' w2 hown2 hgrow _;have hb4:=(hb3.alloc hz1 (Obj.cells #[.string nm,.int .i64 fm,.int .i64 fe,.string ct,.bool pro,.slice az bs.length cz] 72)).grown hgrow (by simp;omega) (fun g hg=>(zg Hown.out g hg).1);have Hown2:=zb hown2;clear hown2 hgrow;go_wp2;refine⟨⟨k+1,qs++[(⟨nm,fm,fe,ct,pro,bs⟩,.slice az bs.length cz)],by omega,by go_num,?_,?_,?_,hb4⟩,by simp[intOf];omega⟩
      · have:=Hown2.out
        simpa [List.flatMap_append,Vq]using this
      · rw[HF.out,List.map_append,Hqs.out];rfl
      intro q hq;rcases List.mem_append.1 hq with hq|hq;· exact Hqa.out q hq
      rw[List.mem_singleton.1 hq];exact⟨s0,s3,Hz0.out⟩
    |false=>rw[if_neg (by rw[hx];decide),List.append_nil]at hf;have HF:=zb hf;have HX2:=zb hx;clear hf hx;go_wp2_with fail;rw[<-HX.out];refine(HK.out X hbX).mono ?_;rintro e w1 ⟨rfl,hb1⟩;rw[HX2.out];have hb2:=hbX.trans (hb1.mono hbX.size);have hb3:=hb.trans (hb2.mono hbz);have Hown1:=zb (zd Hown.out hb2);clear hb1;go_wp2;exact⟨⟨k+1,qs,by omega,by go_num,Hown1.out,by rw[HF.out];exact Hqs.out,Hqa.out,hb3⟩,by simp[intOf];omega⟩
  have hall:l.take k=l:=List.take_of_length_le (by omega);rw[hall]at hqs;have hp:=NC hown (fun q hq=>let ⟨a,c,d⟩:=hqa q hq;⟨a,c,d.below hb⟩);rw[hqs]at hp;obtain⟨ax,cx,rfl,-⟩:=zf hown;have HP:=zb hp;clear hp hqs hqa hown hall;go_wp2;go_ret;exact⟨_,rfl,HP.out,hb⟩
end Go.Proofs.YtngippiilgdnoaaGreat
