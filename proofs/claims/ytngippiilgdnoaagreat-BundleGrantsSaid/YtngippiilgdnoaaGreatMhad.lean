/-
  What two periods have in common, plainly.
-/
import Derived.Test.YtngippiilgdnoaaGreatMhaa
import Derived.Handy
import Derived.Deep.QuietTactic
import Derived.BigQuiet
import Derived.Deep.DeepCutAuto
set_option maxRecDepth 100000
set_option maxHeartbeats 25600000
namespace Go.Proofs.YtngippiilgdnoaaGreat
open Go.RowKit
def ym (f t:Int):Bool:=decide (0<=f)&&decide (f<t)&&decide (t<=12622780800)
def vg (f t x:Int):Bool:=ym f t&&decide (f<=x)&&decide (x<t)
theorem zw (f t:Int):ym f t=true↔0<=f/\f<t/\t<=12622780800:=by unfold ym;simp[and_assoc]
theorem yA (f t x:Int):vg f t x=true↔(0<=f/\f<t/\t<=12622780800)/\f<=x/\x<t:=by unfold vg;rw[Bool.and_eq_true,Bool.and_eq_true,zw];simp[and_assoc]
theorem Vw {b:Bool} {p:Prop} (h:b=true↔p) (hp:p):true=b:=(h.2 hp).symm
theorem qj {b:Bool} {p:Prop} (h:b=true↔p) (hp:¬p):false=b:=by
 cases e:b with
 |true=>exact absurd (h.1 e) hp
 |false=>rfl
theorem ZT (f t:Int) (w:World):Calls Tryz.prog 42 #[.agg #[.int .i64 f,.int .i64 t]] w fun e w'=>e=.returned (.bool (ym f t))/\Below w.heap.size w w':=by
 by_cases h1:0<=f
 · have k1:decide (0<=f)=true:=decide_eq_true h1
   by_cases h2:f<t
   · have k2:decide (f<t)=true:=decide_eq_true h2
     by_cases h3:t<=12622780800
     · have k3:decide (t<=12622780800)=true:=decide_eq_true h3
       have H:=zb (Vw (zw f t) ⟨h1,h2,h3⟩);go_enter Tryz.func42,Tryz.ntmps42;go_wp2;go_ret;exact⟨zo H.out,by go_grown⟩
     have k3:decide (t<=12622780800)=false:=decide_eq_false h3;have H:=zb (qj (zw f t) (fun h=>h3 h.2.2));go_enter Tryz.func42,Tryz.ntmps42;go_wp2;go_ret;exact⟨zo H.out,by go_grown⟩
   have k2:decide (f<t)=false:=decide_eq_false h2;have H:=zb (qj (zw f t) (fun h=>h2 h.2.1));go_enter Tryz.func42,Tryz.ntmps42;go_wp2;go_ret;exact⟨zo H.out,by go_grown⟩
 have k1:decide (0<=f)=false:=decide_eq_false h1;have H:=zb (qj (zw f t) (fun h=>h1 h.1));go_enter Tryz.func42,Tryz.ntmps42;go_wp2;go_ret;exact⟨zo H.out,by go_grown⟩
theorem Vm (f t x:Int) (w:World):Calls Tryz.prog 174 #[.agg #[.int .i64 f,.int .i64 t],.int .i64 x] w fun e w'=>e=.returned (.bool (vg f t x))/\Below w.heap.size w w':=by
 obtain⟨W,hW⟩:∃W,W=w.alloc (Obj.cells #[Value.int .i64 f,Value.int .i64 t] 25):=⟨_,rfl⟩;have hw0:Below w.heap.size w W:=by rw[hW];go_grown
 have hz:W.heap.size=w.heap.size+1:=by rw[hW];simp
 have r2:W.heap[w.heap.size]?=some (Obj.cells #[Value.int .i64 f,Value.int .i64 t] 25):=by rw[hW];exact heap_alloc_new _ _
 have HW:=zb hW;have hz2:w.heap.size<W.heap.size:=by omega
 have Hr:=zb r2;have Hv:=zb (ZT f t W);clear hW r2 hz;cases hv:ym f t with
 |false=>rw[hv]at Hv;have H:=zb (qj (yA f t x) (fun h=>by rw[(zw f t).2 h.1]at hv;cases hv));clear hv;go_enter Tryz.func174,Tryz.ntmps174;go_wp2_with fail;rw[<-HW.out];refine Hv.out.mono ?_;rintro e w1 ⟨rfl,hb⟩;have q:=(hb.block _ hz2).trans Hr.out;have q0:w1.cell? ⟨w.heap.size,0,none⟩=some (.int .i64 f):=cell_of_row w1 _ 0 _ _ _ q;have q1:w1.cell? ⟨w.heap.size,1,none⟩=some (.int .i64 t):=cell_of_row w1 _ 1 _ _ _ q;have hb2:=hw0.trans (hb.mono hw0.size);clear q hb;go_wp2;go_ret;exact⟨zo H.out,hb2⟩
 |true=>
   rw[hv]at Hv;have h0:=(zw f t).1 hv;clear hv;by_cases h1:f<=x
   · have k1:decide (f<=x)=true:=decide_eq_true h1
     by_cases h2:x<t
     · have k2:decide (x<t)=true:=decide_eq_true h2
       have H:=zb (Vw (yA f t x) ⟨h0,h1,h2⟩);clear h0;go_enter Tryz.func174,Tryz.ntmps174;go_wp2_with fail;rw[<-HW.out];refine Hv.out.mono ?_;rintro e w1 ⟨rfl,hb⟩;have q:=(hb.block _ hz2).trans Hr.out;have q0:w1.cell? ⟨w.heap.size,0,none⟩=some (.int .i64 f):=cell_of_row w1 _ 0 _ _ _ q;have q1:w1.cell? ⟨w.heap.size,1,none⟩=some (.int .i64 t):=cell_of_row w1 _ 1 _ _ _ q;have hb2:=hw0.trans (hb.mono hw0.size);clear q hb;go_wp2;go_ret;exact⟨zo H.out,hb2⟩
     have k2:decide (x<t)=false:=decide_eq_false h2;have H:=zb (qj (yA f t x) (fun h=>h2 h.2.2));clear h0;go_enter Tryz.func174,Tryz.ntmps174;go_wp2_with fail;rw[<-HW.out];refine Hv.out.mono ?_;rintro e w1 ⟨rfl,hb⟩;have q:=(hb.block _ hz2).trans Hr.out;have q0:w1.cell? ⟨w.heap.size,0,none⟩=some (.int .i64 f):=cell_of_row w1 _ 0 _ _ _ q;have q1:w1.cell? ⟨w.heap.size,1,none⟩=some (.int .i64 t):=cell_of_row w1 _ 1 _ _ _ q;have hb2:=hw0.trans (hb.mono hw0.size);clear q hb;go_wp2;go_ret;exact⟨zo H.out,hb2⟩
   have k1:decide (f<=x)=false:=decide_eq_false h1;have H:=zb (qj (yA f t x) (fun h=>h1 h.2.1));clear h0;go_enter Tryz.func174,Tryz.ntmps174;go_wp2_with fail;rw[<-HW.out];refine Hv.out.mono ?_;rintro e w1 ⟨rfl,hb⟩;have q:=(hb.block _ hz2).trans Hr.out;have q0:w1.cell? ⟨w.heap.size,0,none⟩=some (.int .i64 f):=cell_of_row w1 _ 0 _ _ _ q;have q1:w1.cell? ⟨w.heap.size,1,none⟩=some (.int .i64 t):=cell_of_row w1 _ 1 _ _ _ q;have hb2:=hw0.trans (hb.mono hw0.size);clear q hb;go_wp2;go_ret;exact⟨zo H.out,hb2⟩
theorem jv (f t:Int) (w:World):Calls Tryz.prog 40 #[.agg #[.int .i64 f,.int .i64 t]] w fun e w'=>e=.returned (.bool (ym f t))/\Below w.heap.size w w':=by
 by_cases h1:0<=f
 · have k1:decide (0<=f)=true:=decide_eq_true h1
   by_cases h2:f<t
   · have k2:decide (f<t)=true:=decide_eq_true h2
     by_cases h3:t<=12622780800
     · have k3:decide (t<=12622780800)=true:=decide_eq_true h3
       have H:=zb (Vw (zw f t) ⟨h1,h2,h3⟩);go_enter Tryz.func40,Tryz.ntmps40;go_wp2;go_ret;exact⟨zo H.out,by go_grown⟩
     have k3:decide (t<=12622780800)=false:=decide_eq_false h3;have H:=zb (qj (zw f t) (fun h=>h3 h.2.2));go_enter Tryz.func40,Tryz.ntmps40;go_wp2;go_ret;exact⟨zo H.out,by go_grown⟩
   have k2:decide (f<t)=false:=decide_eq_false h2;have H:=zb (qj (zw f t) (fun h=>h2 h.2.1));go_enter Tryz.func40,Tryz.ntmps40;go_wp2;go_ret;exact⟨zo H.out,by go_grown⟩
 have k1:decide (0<=f)=false:=decide_eq_false h1;have H:=zb (qj (zw f t) (fun h=>h1 h.1));go_enter Tryz.func40,Tryz.ntmps40;go_wp2;go_ret;exact⟨zo H.out,by go_grown⟩
def yO (f t f2 t2:Int):Bool:=ym f t&&ym f2 t2&&decide (max f f2<min t t2)
theorem vf (f t f2 t2:Int):yO f t f2 t2=true↔ym f t=true/\ym f2 t2=true/\max f f2<min t t2:=by unfold yO;rw[Bool.and_eq_true,Bool.and_eq_true,decide_eq_true_eq,and_assoc]
def jW (f t f2 t2:Int):Value:=if yO f t f2 t2=true then .agg #[.int .i64 (max f f2),.int .i64 (min t t2)] else .agg #[.int .i64 0,.int .i64 0]
end Go.Proofs.YtngippiilgdnoaaGreat
