/-
  The walk of checker.within: are all numbers from 0 to a bound?
-/
import Derived.Test.YtngippiilgdnoaaGreatProg
import Derived.WalkKit
import Derived.WalkSpells
import Derived.WalkLawsBesides
import Derived.Test.YtngippiilgdnoaaGreatMhroot
set_option maxRecDepth 100000
set_option maxHeartbeats 25600000
namespace Go.Proofs.YtngippiilgdnoaaGreat
open Go.RowKit
theorem zo {a b:Bool} (h:a=b):Ending.returned (.bool a)=Ending.returned (.bool b):=by rw[h]
theorem zO {k:IntKind} {a b:Int} (h:a=b):Ending.returned (.int k a)=Ending.returned (.int k b):=by rw[h]
end Go.Proofs.YtngippiilgdnoaaGreat
namespace Go.Proofs.YtngippiilgdnoaaGreat
def lp (y:Int):Int:=if y % 4=0/\(y % 100≠0\/y % 400=0) then 1 else 0
theorem Wc (y:Int):0<=lp y/\lp y<=1:=by unfold lp;split<;>omega
def lpB (y:Int):Bool:=decide (lp y=1)
theorem Wd (y:Int):lpB y=true↔(y % 4=0/\(y % 100≠0\/y % 400=0)):=by unfold lpB lp;rw[decide_eq_true_eq];split<;>simp_all
theorem Wb {y:Int} {b:Bool} (h:lpB y=b):lp y=if b=true then 1 else 0:=by
 subst h;have:=Wc y;unfold lpB;by_cases h:lp y=1;· simp[h]
 rw[decide_eq_false h,if_neg (by decide)];omega
def lenM (y m:Int):Int:=if m=2 then 28+lp y else if m=4\/m=6\/m=9\/m=11 then 30 else 31
theorem kZ (y m:Int):28<=lenM y m/\lenM y m<=31:=by
 have:=Wc y;unfold lenM;split;· omega
 split<;>omega
def bef (y:Int):Int:=365*(y-2000)+if y > 2000 then (y-2001) / 4-(y-2001) / 100+(y-2001) / 400+1 else 0
theorem UF (y:Int) (h:2000<=y):bef (y+1)=bef y+365+lp y:=by
 unfold bef lp;rw[if_pos (show y+1 > 2000 by omega)];by_cases h1:y > 2000
 · rw[if_pos h1]
   split<;>omega
 obtain rfl:y=2000:=by omega
 decide
theorem XC (y:Int) (h:2000<=y):365*(y-2000)<=bef y/\bef y<=366*(y-2000):=by unfold bef;split<;>omega
def cum (y m:Int):Int:=
 if m<=1 then 0 else if m=2 then 31 else lp y+(if m=3 then 59 else if m=4 then 90 else if m=5 then 120 else if m=6 then 151 else if m=7 then 181 else if m=8 then 212 else if m=9 then 243 else if m=10 then 273 else if m=11 then 304 else if m=12 then 334 else 365)
theorem Qt (y m:Int) (h1:1<=m) (h2:m<=12):cum y (m+1)=cum y m+lenM y m:=by
 obtain rfl|rfl|rfl|rfl|rfl|rfl|rfl|rfl|rfl|rfl|rfl|rfl:m=1\/m=2\/m=3\/m=4\/m=5\/m=6\/m=7\/m=8\/m=9\/m=10\/m=11\/m=12:=by omega
 all_goals (simp[cum,lenM];try omega)
theorem EH (y m:Int):0<=cum y m/\cum y m<=366:=by
 have:=Wc y;unfold cum
 repeat' split
 all_goals omega
theorem EI (y:Int):cum y 13=365+lp y:=by simp[cum];omega
def dm (m:Int):Int:=bef (2000+m / 12)+cum (2000+m / 12) (m % 12+1)
theorem Yb (m:Int) (h:0<=m):dm (m+1)=dm m+lenM (2000+m / 12) (m % 12+1):=by
 unfold dm;have hs:=Qt (2000+m / 12) (m % 12+1) (by omega) (by omega);by_cases h11:m % 12=11
 · have e1:(m+1) / 12=m / 12+1:=by omega
   have e2:(m+1) % 12=0:=by omega
   rw[h11]at hs⊢;have h13:=EI (2000+m / 12);have hb:=UF (2000+m / 12) (by omega);have h0:cum (2000+(m / 12+1)) (0+1)=0:=by simp[cum]
   rw[e1,e2,h0];simp only[show(11:Int)+1+1=13 by rfl]at hs;rw[show 2000+(m / 12+1)=2000+m / 12+1 by omega];omega
 have e1:(m+1) / 12=m / 12:=by omega
 have e2:(m+1) % 12=m % 12+1:=by omega
 rw[e1,e2];omega
theorem dm_0:dm 0=0:=by decide
theorem xR:dm 4800=146097:=by decide
theorem dm_up (m:Int) (h:0<=m) (n:Nat):dm m+28*n<=dm (m+n):=by
 induction n with
 |zero=>simp
 |succ n ih=>have h1:=Yb (m+n) (by omega);have h2:=kZ (2000+(m+n) / 12) ((m+n) % 12+1);rw[show m+((n+1:Nat):Int)=m+n+1 by omega];omega
theorem EC {m k:Int} (h:0<=m) (hk:m<=k):dm m+28*(k-m)<=dm k:=by have:=dm_up m h (k-m).toNat;rw[show m+(((k-m).toNat:Nat):Int)=k by omega]at this;omega
theorem Wq {m:Int} (h:0<=m) (hk:m<=4799):0<=dm m/\dm m+28<=146097:=by have h1:=EC (m:=0) (by omega) h;have h2:=EC h (show m<=4800 by omega);rw[xR]at h2;rw[dm_0]at h1;omega
def beg (a m:Int):Int:=if m<0 then 0 else if 4800<=m then 12622780800 else (dm m+a-1)*86400
theorem uZ {a m:Int} (h:m<0):beg a m=0:=by unfold beg;rw[if_pos h]
theorem j7 {a m:Int} (h:4800<=m):beg a m=12622780800:=by unfold beg;rw[if_neg (by omega),if_pos h]
theorem ju {a m:Int} (h:0<=m) (h2:m<=4799):beg a m=(dm m+a-1)*86400:=by unfold beg;rw[if_neg (by omega),if_neg (by omega)]
theorem QA {a m:Int} (ha:1<=a) (hb:a<=28):0<=beg a m/\beg a m<=12622780800:=by
 by_cases h:m<0;· rw[uZ h];decide
 by_cases h2:4800<=m;· rw[j7 h2];decide
 rw[ju (by omega) (by omega)];have:=Wq (m:=m) (by omega) (by omega);omega
theorem XB {a m:Int} (ha:1<=a) (hb:a<=28) (h:0<=m) (h2:m<=4799):beg a m<beg a (m+1):=by
 rw[ju h h2];have h3:=Wq h h2;by_cases h4:m=4799
 · subst h4
   rw[j7 (by decide)];omega
 rw[ju (by omega) (by omega)];have h5:=Yb m h;have h6:=kZ (2000+m / 12) (m % 12+1);omega
theorem NX {a m:Int} (ha:1<=a) (hb:a<=28):beg a m<=beg a (m+1):=by
 by_cases h:m<0;· rw[uZ h];exact(QA ha hb).1
 by_cases h2:4800<=m;· rw[j7 h2,j7 (by omega)];exact Int.le_refl _
 exact Int.le_of_lt (XB ha hb (by omega) (by omega))
theorem vN {a:Int} (ha:1<=a) (hb:a<=28) {m k:Int} (h:m<=k):beg a m<=beg a k:=by
 have key:∀n:Nat,beg a m<=beg a (m+n):=by
  intro n;induction n with
  |zero=>simp
  |succ n ih=>rw[show m+((n+1:Nat):Int)=m+n+1 by omega];exact Int.le_trans ih (NX ha hb)
 have:=key (k-m).toNat;rwa[show m+(((k-m).toNat:Nat):Int)=k by omega]at this
def IsMo (a t m:Int):Prop:=-1<=m/\m<=4799/\beg a m<=t/\t<beg a (m+1)
theorem IsMo.one {a t m k:Int} (ha:1<=a) (hb:a<=28) (h:IsMo a t m) (g:IsMo a t k):m=k:=by
 obtain⟨-,-,h1,h2⟩:=h;obtain⟨-,-,g1,g2⟩:=g;have key:∀{m k:Int},t<beg a (m+1)->beg a k<=t->¬m<k:=fun {m k} h2 g1 hlt=>by
  have:=vN ha hb (show m+1<=k by omega);omega
 have:=key h2 g1;have:=key g2 h1;omega
theorem IsMo.ex (a t:Int) (h0:0<=t) (h1:t<12622780800):∃m,IsMo a t m:=by
 have key:∀n:Nat,n<=4801->(∃m,IsMo a t m)\/beg a ((n:Int)-1)<=t:=by
  intro n;induction n with
  |zero=>intro _;exact Or.inr (by rw[uZ (by decide)];exact h0)
  |succ n ih=>
    intro hn;rcases ih (by omega)with h|h;· exact Or.inl h
    by_cases h2:t<beg a ((n:Int)-1+1);· exact Or.inl ⟨(n:Int)-1,by omega,by omega,h,h2⟩
    refine Or.inr ?_;rw[show(((n+1:Nat):Int)-1)=(n:Int)-1+1 by omega];omega
 rcases key 4801 (Nat.le_refl _)with h|h;· exact h
 rw[j7 (by decide)]at h;omega
theorem IsMo.le {a t u m k:Int} (ha:1<=a) (hb:a<=28) (h:IsMo a t m) (g:IsMo a u k) (htu:t<=u):m<=k:=by obtain⟨-,-,h1,-⟩:=h;obtain⟨-,-,-,g2⟩:=g;refine Classical.byContradiction fun hn=>?_;have:=vN ha hb (show k+1<=m by omega);omega
def cyc (a m:Int):Int×Int:=(beg a m,beg a (m+1))
def cycL (a lo hi:Int):List (Int×Int):=(List.range (hi+1-lo).toNat).map fun i:Nat=>cyc a (lo+(i:Int))
theorem Yc {a lo hi:Int} (h:hi<lo):cycL a lo hi=[]:=by unfold cycL;rw[show(hi+1-lo).toNat=0 by omega];rfl
theorem JK {a lo hi:Int} (h:lo<=hi+1):cycL a lo (hi+1)=cycL a lo hi++[cyc a (hi+1)]:=by unfold cycL;rw[show(hi+1+1-lo).toNat=(hi+1-lo).toNat+1 by omega,List.range_succ,List.map_append,List.map_singleton];rw[show lo+(((hi+1-lo).toNat:Nat):Int)=hi+1 by omega]
theorem Yd (a lo hi:Int):(cycL a lo hi).length=(hi+1-lo).toNat:=by unfold cycL;rw[List.length_map,List.length_range]
theorem Ut {a lo hi:Int} {c:Int×Int}:c∈cycL a lo hi↔∃m,lo<=m/\m<=hi/\c=cyc a m:=by
 unfold cycL;rw[List.mem_map];constructor
 · rintro⟨i,hi2,rfl⟩
   rw[List.mem_range]at hi2;exact⟨lo+i,by omega,by omega,rfl⟩
 rintro⟨m,h1,h2,rfl⟩;refine⟨(m-lo).toNat,List.mem_range.2 (by omega),?_⟩;rw[show lo+(((m-lo).toNat:Nat):Int)=m by omega]
open Go.RowKit
end Go.Proofs.YtngippiilgdnoaaGreat
