/-
  The example of chapter 35 in memory: the walk of sample.
-/
import Derived.Test.YtngippiilgdnoaaGreatMhay
import Derived.Test.YtngippiilgdnoaaGreatMhbc
set_option maxRecDepth 100000
set_option maxHeartbeats 25600000
namespace Go.Proofs.YtngippiilgdnoaaGreat
open Go.RowKit
def sa1:Ev:=⟨0,1,1,0,⟨#[]⟩,⟨#[112,111,115,116,112,97,105,100]⟩,1⟩
def sa2:Ev:=⟨0,3,1,1,⟨#[]⟩,⟨#[98,97,115,105,99]⟩,0⟩
def sa3:Ev:=⟨777600,8,0,1,⟨#[]⟩,⟨#[112,108,117,115]⟩,0⟩
def saL:List Ev:=[sa1,sa2,sa3]
def qx:ByteArray:=⟨#[112,108,117,115]⟩
def saB:Bd:=⟨1,[],100,25,0,false⟩
def saX:Pd:=⟨qx,0,0,⟨#[115,101,114,118,105,99,101]⟩,false,[saB]⟩
def saP:List Pd:=[saX]
theorem xH (w:World):(w.alloc (Obj.cells #[.int .i64 0,.int .i64 1,.int .i64 1,.int .i64 0,.string ⟨#[]⟩,.string ⟨#[112,111,115,116,112,97,105,100]⟩,.int .i64 1,.int .i64 0,.int .i64 3,.int .i64 1,.int .i64 1,.string ⟨#[]⟩,.string ⟨#[98,97,115,105,99]⟩,.int .i64 0,.int .i64 777600,.int .i64 8,.int .i64 0,.int .i64 1,.string ⟨#[]⟩,.string ⟨#[112,108,117,115]⟩,.int .i64 0] 55)).ownsRow 0 55 7 (.slice (some ⟨w.heap.size,0,none⟩) 3 3) 3 (saL.flatMap jt):=
 World.ownsRow_lit (base:=0) w (saL.flatMap jt).toArray 3 (Nat.zero_le _) (by unfold maxLen;decide) (by rw[List.size_toArray,zN jt 7 (fun _=>rfl)];rfl)
theorem WR {w:World} {v:Value} (h:w.ownsRow 0 55 7 v 3 (saL.flatMap jt)):vE w v saL:=by
 refine⟨zi.own (fun _=>rfl) h,?_⟩;intro e he;have he':e=sa1\/e=sa2\/e=sa3:=by simpa [saL]using he
 rcases he' with rfl|rfl|rfl<;>exact⟨by unfold maxLen;decide,by unfold maxLen;decide⟩
theorem xB {w:World} {g k:Nat} {t u:TypeId} {fr fr':Nat×Nat} (hg:w.heap[g]?=some (.cells #[.string ⟨#[112,108,117,115]⟩,.int .i64 0,.int .i64 0,.string ⟨#[115,101,114,118,105,99,101]⟩,.bool false,.slice (some ⟨k,0,none⟩) 1 1] t fr)) (hk:w.heap[k]?=some (.cells #[.int .i64 1,.slice none 0 0,.int .i64 100,.int .i64 25,.int .i64 0,.bool false] u fr')):qu w (.slice (some ⟨g,0,none⟩) 1 1) saP:=by
 have hB:qR w (.slice (some ⟨k,0,none⟩) 1 1) [saB]:=by
  refine⟨some ⟨k,0,none⟩,1,rfl,by decide,⟨by decide,fun h=>by cases h⟩,fun _=>⟨k,0,rfl,(zu hk),fun i hi=>?_⟩⟩
  match i,hi with
  |0,_=>exact⟨cell_of_row w k 0 _ _ _ hk,⟨_,cell_of_row w k 1 _ _ _ hk,zz.nil _⟩,cell_of_row w k 2 _ _ _ hk,cell_of_row w k 3 _ _ _ hk,cell_of_row w k 4 _ _ _ hk,cell_of_row w k 5 _ _ _ hk⟩
 refine⟨some ⟨g,0,none⟩,1,rfl,by decide,⟨by decide,fun h=>by cases h⟩,fun _=>⟨g,0,rfl,(zu hg),fun i hi=>?_⟩⟩
 match i,hi with
 |0,_=>exact⟨⟨cell_of_row w g 0 _ _ _ hg,show(4:Nat)<=maxLen by decide⟩,cell_of_row w g 1 _ _ _ hg,cell_of_row w g 2 _ _ _ hg,⟨cell_of_row w g 3 _ _ _ hg,show(7:Nat)<=maxLen by decide⟩,cell_of_row w g 4 _ _ _ hg,_,cell_of_row w g 5 _ _ _ hg,hB⟩
def SamTo (w:World) (e:Ending) (w':World):Prop:=∃(ea pa:Option Addr) (ec pc:Nat),e=.returned (.agg #[.slice ea 3 ec,.slice pa 1 pc,.slice none 0 0,.slice none 0 0,.slice none 0 0,.int .i64 1])/\vE w' (.slice ea 3 ec) saL/\qu w' (.slice pa 1 pc) saP/\Below w.heap.size w w'
theorem VT (w:World):Calls Tryz.prog 50 #[] w (SamTo w):=by
 obtain⟨W,hW⟩:∃W,W=w.alloc (Obj.cells #[.slice none 0 0,.slice none 0 0,.slice none 0 0,.slice none 0 0,.slice none 0 0,.int .i64 0] 47):=⟨_,rfl⟩;have hb0:Below w.heap.size w W:=by rw[hW];exact(Below.refl _ _).alloc (Nat.le_refl _) _
 have hr0:W.heap[w.heap.size]?=some (Obj.cells #[.slice none 0 0,.slice none 0 0,.slice none 0 0,.slice none 0 0,.slice none 0 0,.int .i64 0] 47):=by rw[hW];exact heap_alloc_new _ _
 obtain⟨W1,hW1⟩:∃W1,W1=W.alloc (Obj.cells #[.int .i64 0,.int .i64 1,.int .i64 1,.int .i64 0,.string ⟨#[]⟩,.string ⟨#[112,111,115,116,112,97,105,100]⟩,.int .i64 1,.int .i64 0,.int .i64 3,.int .i64 1,.int .i64 1,.string ⟨#[]⟩,.string ⟨#[98,97,115,105,99]⟩,.int .i64 0,.int .i64 777600,.int .i64 8,.int .i64 0,.int .i64 1,.string ⟨#[]⟩,.string ⟨#[112,108,117,115]⟩,.int .i64 0] 55):=⟨_,rfl⟩;have hE:=xH W;rw[<-hW1]at hE;have hb1:Below W.heap.size W W1:=by rw[hW1];exact(Below.refl _ _).alloc (Nat.le_refl _) _
 obtain⟨W2,hW2⟩:∃W2,W2=W1.alloc (Obj.cells #[.int .i64 1,.slice none 0 0,.int .i64 100,.int .i64 25,.int .i64 0,.bool false] 76):=⟨_,rfl⟩;have hB:W2.heap[W1.heap.size]?=some (Obj.cells #[.int .i64 1,.slice none 0 0,.int .i64 100,.int .i64 25,.int .i64 0,.bool false] 76):=by rw[hW2];exact heap_alloc_new _ _
 have hb2:Below W1.heap.size W1 W2:=by rw[hW2];exact(Below.refl _ _).alloc (Nat.le_refl _) _
 obtain⟨W3,hW3⟩:∃W3,W3=W2.alloc (Obj.cells #[.string ⟨#[112,108,117,115]⟩,.int .i64 0,.int .i64 0,.string ⟨#[115,101,114,118,105,99,101]⟩,.bool false,.slice (some ⟨W1.heap.size,0,none⟩) 1 1] 72):=⟨_,rfl⟩;have hP:W3.heap[W2.heap.size]?=some (Obj.cells #[.string ⟨#[112,108,117,115]⟩,.int .i64 0,.int .i64 0,.string ⟨#[115,101,114,118,105,99,101]⟩,.bool false,.slice (some ⟨W1.heap.size,0,none⟩) 1 1] 72):=by rw[hW3];exact heap_alloc_new _ _
 have hb3:Below W2.heap.size W2 W3:=by rw[hW3];exact(Below.refl _ _).alloc (Nat.le_refl _) _
 have hb23:=hb2.trans (hb3.mono hb2.size);have hb03:=hb1.trans (hb23.mono hb1.size);have hlt:w.heap.size<W.heap.size:=(zu hr0);have hzr:=(hb03.block _ hlt).trans hr0;have hB3:=(hb3.block _ (zu hB)).trans hB;have hE3:=zd hE hb23;have hEF:=WR (zt hE3 (zk hE3 hzr (by decide)) #[.slice (some ⟨W.heap.size,0,none⟩) 3 3,.slice (some ⟨W2.heap.size,0,none⟩) 1 1,.slice none 0 0,.slice none 0 0,.slice none 0 0,.int .i64 1]);have hne1:W1.heap.size≠w.heap.size:=by have:=hb1.size;omega
 have hne2:W2.heap.size≠w.heap.size:=by have:=hb1.size;have:=hb2.size;omega
 have hPF:=xB (w:=W3.setRow w.heap.size #[.slice (some ⟨W.heap.size,0,none⟩) 3 3,.slice (some ⟨W2.heap.size,0,none⟩) 1 1,.slice none 0 0,.slice none 0 0,.slice none 0 0,.int .i64 1]) ((setRow_other _ _ _ _ hne2).trans hP) ((setRow_other _ _ _ _ hne1).trans hB3);have HW:=zb hW;have HW1:=zb hW1;have HW2:=zb hW2;have HW3:=zb hW3;have HEF:=zb hEF;have HPF:=zb hPF;have ZR:=zb hzr;have HBF:=zb (zj (hb0.trans (hb03.mono hb0.size)) (Nat.le_refl _) #[.slice (some ⟨W.heap.size,0,none⟩) 3 3,.slice (some ⟨W2.heap.size,0,none⟩) 1 1,.slice none 0 0,.slice none 0 0,.slice none 0 0,.int .i64 1]);clear hW hb0 hr0 hW1 hE hb1 hW2 hB hb2 hW3 hP hb3 hlt hzr hB3 hE3 hEF hPF hne1 hne2 hb23 hb03;go_enter Tryz.func50,Tryz.ntmps50;go_upto_region 1 with(fail);rw[<-HW.out];have tQ:=fun j=>cell_setRow_same W3 w.heap.size j _ #[.slice (some ⟨W.heap.size,0,none⟩) 3 3,.slice (some ⟨W2.heap.size,0,none⟩) 1 1,.slice none 0 0,.slice none 0 0,.slice none 0 0,.int .i64 1] _ _ ZR.out;have t0:=tQ 0;have t1:=tQ 1;have t2:=tQ 2;have t3:=tQ 3;have t4:=tQ 4;have t5:=tQ 5;clear tQ;repeat (first|rw[<-HW1.out]|rw[<-HW2.out]|rw[<-HW3.out]|refine wpList_store_row rfl _ _ _ rfl w.heap.size #[.slice (some ⟨W.heap.size,0,none⟩) 3 3,.slice (some ⟨W2.heap.size,0,none⟩) 1 1,.slice none 0 0,.slice none 0 0,.slice none 0 0,.int .i64 1] rfl rfl 47 _ ZR.out (by kernel_rfl) rfl (by simp[Value.oneCell']) ?_|go_step)
 refine bodyPost_ret (v:=.agg #[.slice (some ⟨W.heap.size,0,none⟩) 3 3,.slice (some ⟨W2.heap.size,0,none⟩) 1 1,.slice none 0 0,.slice none 0 0,.slice none 0 0,.int .i64 1]) (by simp[results,Tryz.results50,go_sem,t0,t1,t2,t3,t4,t5]) rfl ?_;exact⟨_,_,_,_,rfl,HEF.out,HPF.out,HBF.out⟩
end Go.Proofs.YtngippiilgdnoaaGreat
