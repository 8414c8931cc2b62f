/-
  Arguments that are slices of periods or of numbers, opened.
-/
import Derived.Test.YtnekgkmlodeckaaMgak
import Derived.Test.YtnekgkmlodeckaaMgac
import Derived.Test.YtnekgkmlodeckaaMgah
namespace Go.Proofs.Ytnekgkmlodeckaa
open Go.ChangeShapes Go.WideShapes Go.ChangeAt Go.RowKit Go.Deep

section
variable {H : Type} {enc : TypeId × Value → H}
theorem pers_of {W : World} {sp : Nat → Bool} {fuel : Nat} {v : Value} {x : DataW H × List MemPlace} (h : DataW.trod enc Try.prog W 0 sp true fuel 113 [v] = some x) : ∃ l, PersAt W v l :=
  sliceOf (R := PerR) (c := 2) Try.underlying113 Try.periodCells (by omega) h fun b o cs n y hl hc ht => by
    obtain ⟨f, t, rfl, -, -⟩ := open_period hl ht
    exact ⟨(f, t), hc 0 (by omega), hc 1 (by omega)⟩
theorem ics_of {W : World} {sp : Nat → Bool} {fuel : Nat} {v : Value} {x : DataW H × List MemPlace} (h : DataW.trod enc Try.prog W 0 sp true fuel 38 [v] = some x) : ∃ l, IcsAt W v l :=
  sliceOf (R := IntC) (c := 1) Try.underlying38 Try.intCells2 (by omega) h fun b o cs n y hl hc ht => by
    obtain ⟨k, rfl, -, hw⟩ := DataW.trod_int Try.underlying3 ht
    exact ⟨k, hc 0 (by omega)⟩
end
end Go.Proofs.Ytnekgkmlodeckaa
