/-
  Short names.
-/
import Derived.Lib.Hide
import Derived.Test.YtngippiilgdnoaaGreatRows
namespace Go.Proofs.YtngippiilgdnoaaGreat
open Go.RowKit
theorem zb {p : Prop} (h : p) : RowKit.Hid p := Lib.hid h
theorem zu {α : Type} {xs : Array α} {i : Nat} {a : α} (h : xs[i]? = some a) : i < xs.size := (Array.getElem?_eq_some_iff.1 h).1
end Go.Proofs.YtngippiilgdnoaaGreat
