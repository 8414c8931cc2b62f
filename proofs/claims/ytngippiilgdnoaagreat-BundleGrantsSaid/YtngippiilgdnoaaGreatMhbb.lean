/-
  The walk of filter at strings, by product.name.
-/
import Derived.Test.YtngippiilgdnoaaGreatMhag
import Derived.Test.YtngippiilgdnoaaGreatMhab
import Derived.Laws.AppendOwn
import Derived.OwnWalk
import Derived.Deep.AppendLies
set_option maxRecDepth 100000
set_option maxHeartbeats 25600000
namespace Go.Proofs.YtngippiilgdnoaaGreat
open Go.RowKit
theorem Tryz.stringInfo:(Tryz.prog.info? 9).map (fun i=>(i.zero,i.size,i.bytes))=some (some (.string ⟨#[]⟩),1,16):=by kernel_rfl
theorem Up {α:Type} (p:α->Bool) (l:List α) (k:Nat) (h:k<l.length):(l.take (k+1)).filter p=(l.take k).filter p++(if p l[k] then [l[k]] else []):=by rw[List.take_succ_eq_append_getElem h,List.filter_append];cases hp:p l[k]<;>simp[hp]
theorem Qo {α:Type} (p:α->Bool) (l:List α) (k:Nat):((l.take k).filter p).length<=k:=Nat.le_trans (List.length_filter_le _ _) (List.length_take_le _ _)
end Go.Proofs.YtngippiilgdnoaaGreat
