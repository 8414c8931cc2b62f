/-
  Lists of periods, and of instants, that a text lays literally.
-/
import Derived.Test.YtngippiilgdnoaaGreatMhai
import Derived.Deep.RegionHeld3
set_option maxRecDepth 100000
set_option maxHeartbeats 25600000
namespace Go.Proofs.YtngippiilgdnoaaGreat
open Go.RowKit
def PerR (w:World) (b o:Nat) (p:Int×Int):Prop:=w.cell? ⟨b,o,none⟩=some (.int .i64 p.1)/\w.cell? ⟨b,o+1,none⟩=some (.int .i64 p.2)
theorem PerR.stays:Yl PerR:=fun w w' b _ _ hb hB ⟨h0,h1⟩=>
 have c:∀j,w'.cell? ⟨b,j,none⟩=w.cell? ⟨b,j,none⟩:=fun j=>hb.cell (p:=⟨b,j,none⟩) hB
 ⟨(c _).trans h0,(c _).trans h1⟩
def yd (w:World) (v:Value) (l:List (Int×Int)):Prop:=zz 2 PerR w v l
theorem yd.below {w w':World} {v:Value} {l:List (Int×Int)} (h:yd w v l) (hb:Below w.heap.size w w'):yd w' v l:=zz.below PerR.stays h hb
def zh (p:Int×Int):List Value:=[.int .i64 p.1,.int .i64 p.2]
theorem yd.own {w:World} {base:Nat} {e:TypeId} {v:Value} {l:List (Int×Int)} (h:w.ownsRow base e 2 v l.length (l.flatMap zh)):yd w v l:=
 zz.own zh (fun _=>rfl) h fun g o i hi hc=>⟨hc 0 (by decide),hc 1 (by decide)⟩
def inL (ps:List (Int×Int)) (t:Int):Bool:=ps.any fun p=>vg p.1 p.2 t
theorem Ej {ps:List (Int×Int)} {t:Int} {k:Nat} (h:k<ps.length) (h1:inL (ps.take k) t=false) (h2:vg ps[k].1 ps[k].2 t=false):inL (ps.take (k+1)) t=false:=by unfold inL at *;rw[List.take_succ_eq_append_getElem h,List.any_append,h1];simp[h2]
theorem inL_at {ps:List (Int×Int)} {t:Int} {k:Nat} (h:k<ps.length) (h2:vg ps[k].1 ps[k].2 t=true):inL ps t=true:=
 List.any_eq_true.2 ⟨ps[k],List.getElem_mem h,h2⟩
theorem Uh (v:Value) (ps:List (Int×Int)) (t:Int) (w:World) (h:yd w v ps):
 Calls Tryz.prog 141 #[v,.int .i64 t] w fun e w'=>e=.returned (.bool (inL ps t))/\Below w.heap.size w w':=by
 have hh:=h;obtain⟨av,cap,rfl,hlc,hm,-⟩:=h;have hm:=hm.1;unfold maxLen at hm;go_enter Tryz.func141,Tryz.ntmps141;go_wp2_with fail;go_loopw [5] (fun i wr=>∃k:Nat,k<=ps.length/\i=.int .i64 k/\inL (ps.take k) t=false/\Below w.heap.size w wr) (fun i _=>ps.length-(intOf i).toNat);case atStart=>exact⟨0,Nat.zero_le _,rfl,rfl,Below.refl _ _⟩
 case round=>
  obtain⟨k,hk,rfl,hn,hb⟩:=hrel;have Hn:=zb hn;clear hn;by_cases hlt:k<ps.length
  · obtain⟨av2,cap2,e2,-,-,hx⟩:=hh.below hb
    cases e2;obtain⟨b,o,rfl,hB,hx⟩:=hx (by rintro rfl;cases hlt);obtain⟨c0,c1⟩:=hx k hlt;have hk0:(0:Int)<=(k:Int):=Int.natCast_nonneg _;have hk1:(k:Int)<(ps.length:Int):=by omega
    have HF:=zb (fun h2=>Ej hlt Hn.out h2);have HT:=zb (fun h2=>@inL_at ps t k hlt h2);clear hx;generalize ps[k]=p at *;obtain⟨f,e⟩:=p;dsimp only at *;have Hc:=zb (Vm f e t wr);generalize hct:vg f e t=ct at *;clear hct;cases ct with
    |true=>have HE:=zb (HT.out rfl);go_wp2_with fail;refine Hc.out.mono ?_;rintro e w2 ⟨rfl,hb2⟩;have hb3:=hb.trans (hb2.mono hb.size);go_wp2;go_ret;exact⟨zo HE.out.symm,hb3⟩
    |false=>have HE:=zb (HF.out rfl);go_wp2_with fail;refine Hc.out.mono ?_;rintro e w2 ⟨rfl,hb2⟩;have hb3:=hb.trans (hb2.mono hb.size);go_wp2;exact⟨⟨k+1,by omega,by go_num,HE.out,hb3⟩,by simp[intOf];omega⟩
  have e:ps.take k=ps:=List.take_of_length_le (by omega);have HE:=zb (show inL ps t=false by rw[<-e];exact Hn.out);clear e;go_wp2;go_ret;exact⟨zo HE.out.symm,hb⟩
def qi (l:List Int) (p:Int×Int):List Int:=if ym p.1 p.2=true then addL (addL l p.1) p.2 else l
def zB (l:List Int) (ps:List (Int×Int)):List Int:=ps.foldl qi l
theorem Eb (l:List Int) (ps:List (Int×Int)) (k:Nat) (h:k<ps.length):zB l (ps.take (k+1))=qi (zB l (ps.take k)) ps[k]:=by unfold zB;rw[List.take_succ_eq_append_getElem h,List.foldl_append];rfl
theorem Ub (l:List Int) (p:Int×Int):(qi l p).length<=l.length+2:=by
 unfold qi;split
 · have h1:=QD (addL l p.1) p.2
   have h2:=QD l p.1;omega
 omega
theorem Zu (l:List Int) (ps:List (Int×Int)):(zB l ps).length<=l.length+2*ps.length:=by
 unfold zB;induction ps generalizing l with
 |nil=>simp
 |cons p r ih=>rw[List.foldl_cons];have h1:=ih (qi l p);have h2:=Ub l p;simp only[List.length_cons];omega
theorem ZX (v v2:Value) (l:List Int) (ps:List (Int×Int)) (w:World) (h:uh w v l) (h2:yd w v2 ps) (hl:l.length+2*ps.length<=5000):
 Calls Tryz.prog 140 #[v,v2] w (xw w (zB l ps)):=by
 have hh:=h2;obtain⟨av,cap,rfl,hlc,hm,-⟩:=h2;have hm:=hm.1;unfold maxLen at hm;go_enter Tryz.func140,Tryz.ntmps140;go_wp2_with fail;go_loopw [0,5] (fun u i wr=>∃k:Nat,k<=ps.length/\i=.int .i64 k/\uh wr u (zB l (ps.take k))/\Below w.heap.size w wr) (fun _ i _=>ps.length-(intOf i).toNat);case atStart=>exact⟨0,Nat.zero_le _,rfl,h,Below.refl _ _⟩
 case round=>
  obtain⟨k,hk,rfl,hu,hb⟩:=hrel;have hlen:=Zu l (ps.take k);rw[List.length_take,Nat.min_eq_left hk]at hlen;have HU:=zb hu;obtain⟨ao,co,rfl,-,-,-⟩:=hu;by_cases hlt:k<ps.length
  · obtain⟨av2,cap2,e2,-,-,hx⟩:=hh.below hb
    cases e2;obtain⟨b,o,rfl,hB,hx⟩:=hx (by rintro rfl;cases hlt);obtain⟨c0,c1⟩:=hx k hlt;have hk0:(0:Int)<=(k:Int):=Int.natCast_nonneg _;have hk1:(k:Int)<(ps.length:Int):=by omega
    have hsn:=Eb l ps k hlt;clear hx;generalize ps[k]=p at *;obtain⟨x1,x2⟩:=p;dsimp only at *;generalize hLL:zB l (ps.take k)=L at *;have HLL:=zb hLL;clear hLL;have Hv:=zb (ZT x1 x2 wr);have HSN:=zb hsn;have C:=zb (And.intro c0 c1);clear hsn;generalize hct:ym x1 x2=ct at *;have Hct:=zb hct;clear hct;cases ct with
    |false=>have HE:=zb (show zB l (ps.take (k+1))=L by rw[HSN.out,qi,if_neg (by rw[show ym (x1,x2).1 (x1,x2).2=false from Hct.out];decide)]);go_wp2_with fail;refine Hv.out.mono ?_;rintro e w2 ⟨rfl,hb2⟩;have hb3:=hb.trans (hb2.mono hb.size);go_wp2;exact⟨⟨k+1,by omega,by go_num,by rw[HE.out];exact HU.out.below hb2,hb3⟩,by simp[intOf];omega⟩
    |true=>
      have HE:=zb (show zB l (ps.take (k+1))=addL (addL L x1) x2 by rw[HSN.out,qi,if_pos Hct.out]);have hlen1:=QD L x1;go_wp2_with fail;refine Hv.out.mono ?_;rintro e w2 ⟨rfl,hb2⟩;have Mk:=zb (show ∀w':World,Below wr.heap.size wr w'->Below wr.heap.size wr w'/\w'.cell? ⟨b,o+k*2,none⟩=some (.int .i64 x1)/\w'.cell? ⟨b,o+k*2+1,none⟩=some (.int .i64 x2)from fun w' hw=>
       ⟨hw,(hw.cell (p:=⟨b,o+k*2,none⟩) hB).trans C.out.1,(hw.cell (p:=⟨b,o+k*2+1,none⟩) hB).trans C.out.2⟩);clear c0 c1;go_wp2_with fail;go_region_held3 (fun w':World=>Below wr.heap.size wr w'/\w'.cell? ⟨b,o+k*2,none⟩=some (.int .i64 x1)/\w'.cell? ⟨b,o+k*2+1,none⟩=some (.int .i64 x2))
       (first
        |exact Mk.out _ (by assumption)
        |exact Mk.out _ (Below.drew (by assumption)))
       (first
        | (go_at_call_of 173 (Value.int IntKind.i64 x1)
           refine(JQ _ L x1 _ (HU.out.below (And.left (by assumption))) (by omega)).mono ?_;rintro e w4 ⟨v4,rfl,hi4,hb4⟩;have hY4:Below wr.heap.size wr w4:=Below.trans (And.left (by assumption)) (hb4.mono (Below.size (And.left (by assumption))));clear hb4)
        | (go_at_call_of 173 (Value.int IntKind.i64 x2)
           refine(JQ _ (addL L x1) x2 _ hi4 (by omega)).mono ?_;rintro e w5 ⟨v5,rfl,hi5,hb5⟩;have hY5:Below wr.heap.size wr w5:=Below.trans (And.left (by assumption)) (hb5.mono (Below.size (And.left (by assumption))));clear hb5));clear Mk;go_wp2;exact⟨⟨k+1,by omega,by go_num,by rw[HE.out];exact hi5,hb.trans (hY5.mono hb.size)⟩,by simp[intOf];omega⟩
  have e:ps.take k=ps:=List.take_of_length_le (by omega);rw[e]at HU⊢;clear e;go_wp2;go_ret;exact⟨_,rfl,HU.out,hb⟩
end Go.Proofs.YtngippiilgdnoaaGreat
namespace Go.Proofs.YtngippiilgdnoaaGreat
open Go.RowKit
end Go.Proofs.YtngippiilgdnoaaGreat
