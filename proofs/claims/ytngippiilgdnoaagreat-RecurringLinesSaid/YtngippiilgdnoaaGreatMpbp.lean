/-
  The walks of the program's Cover, Minus and Common.
-/
import Derived.Test.YtngippiilgdnoaaGreatMpbd
import Derived.Test.YtngippiilgdnoaaGreatMpam
namespace Go.Proofs.YtngippiilgdnoaaGreat
open Go.RowKit

theorem sortsCh : SortsCh := fun B w v N h1 h2 h3 h4 => sortCh_calls B w v N h1 h2 h3 h4

theorem isCommon (x y : Bool) (W : World) : Calls Tryz.prog 126 #[.bool x, .bool y] W fun e w' => e = .returned (.bool (x && y)) ∧ Below W.heap.size W w' := by
  cases x <;> cases y <;>
  · go_enter Tryz.func126, Tryz.ntmps126
    go_wp2
    go_ret
    exact ⟨rfl, Below.refl _ _⟩

theorem pcommon_calls (va vb : Value) (a b : List (Int × Int)) (w : World) (ha : PersAt w va a) (hb : PersAt w vb b) (hn : a.length + b.length ≤ 2000) :
    Calls Tryz.prog 76 #[va, vb] w (PersTo w (chooseL a b false true)) := by
  have H := Lib.hid (combine_calls sortsCh va vb a b false true 126 (fun x y => x && y) w ha hb hn (enters_of Tryz.func126 (by kernel_rfl) rfl) isCommon rfl (fun x y => by cases x <;> cases y <;> rfl))
  obtain ⟨aa, ca, rfl, -⟩ := ha
  obtain ⟨ab, cb, rfl, -⟩ := hb
  go_enter Tryz.func76, Tryz.ntmps76
  go_wp2_with fail
  refine H.out.mono ?_
  rintro e w1 ⟨v1, rfl, hp, hb1⟩
  have HP := Lib.hid hp
  obtain ⟨a1, c1, rfl, -⟩ := hp
  go_wp2
  go_ret
  exact ⟨_, rfl, HP.out, hb1⟩
end Go.Proofs.YtngippiilgdnoaaGreat
