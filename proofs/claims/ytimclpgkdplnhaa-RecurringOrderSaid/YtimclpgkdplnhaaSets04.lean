/-
  The walks of the program's Cover, Minus and Common.
-/
import Derived.Test.YtimclpgkdplnhaaComb04
import Derived.Test.YtimclpgkdplnhaaSortCh04
namespace Go.Proofs.Ytimclpgkdplnhaa
open Go.RowKit

theorem sortsCh : SortsCh := fun B w v N h1 h2 h3 h4 => sortCh_calls B w v N h1 h2 h3 h4

theorem isCover (x y : Bool) (W : World) : Calls Try.prog 46 #[.bool x, .bool y] W fun e w' => e = .returned (.bool x) ∧ Below W.heap.size W w' := by
  go_enter Try.func46, Try.ntmps46
  go_wp2
  go_ret
  exact ⟨rfl, Below.refl _ _⟩
theorem isMinus (x y : Bool) (W : World) : Calls Try.prog 47 #[.bool x, .bool y] W fun e w' => e = .returned (.bool (x && !y)) ∧ Below W.heap.size W w' := by
  cases x <;> cases y <;>
  · go_enter Try.func47, Try.ntmps47
    go_wp2
    go_ret
    exact ⟨rfl, Below.refl _ _⟩
theorem isCommon (x y : Bool) (W : World) : Calls Try.prog 48 #[.bool x, .bool y] W fun e w' => e = .returned (.bool (x && y)) ∧ Below W.heap.size W w' := by
  cases x <;> cases y <;>
  · go_enter Try.func48, Try.ntmps48
    go_wp2
    go_ret
    exact ⟨rfl, Below.refl _ _⟩

theorem cover_calls (va : Value) (a : List (Int × Int)) (w : World) (ha : PersAt w va a) (hn : a.length ≤ 2000) :
    Calls Try.prog 23 #[va] w (PersTo w (chooseL a [] true false)) := by
  have H := Lib.hid (combine_calls sortsCh va (.slice none 0 0) a [] true false 46 (fun x _ => x) w ha (SliceAt.nil w) (by simpa using hn) (enters_of Try.func46 (by kernel_rfl) rfl) isCover rfl (fun x y => by cases x <;> rfl))
  obtain ⟨aa, ca, rfl, -⟩ := ha
  go_enter Try.func23, Try.ntmps23
  go_wp2_with fail
  refine H.out.mono ?_
  rintro e w1 ⟨v1, rfl, hp, hb1⟩
  have HP := Lib.hid hp
  obtain ⟨a1, c1, rfl, -⟩ := hp
  go_wp2
  go_ret
  exact ⟨_, rfl, HP.out, hb1⟩
theorem minus_calls (va vb : Value) (a b : List (Int × Int)) (w : World) (ha : PersAt w va a) (hb : PersAt w vb b) (hn : a.length + b.length ≤ 2000) :
    Calls Try.prog 26 #[va, vb] w (PersTo w (chooseL a b false false)) := by
  have H := Lib.hid (combine_calls sortsCh va vb a b false false 47 (fun x y => x && !y) w ha hb hn (enters_of Try.func47 (by kernel_rfl) rfl) isMinus rfl (fun x y => by cases x <;> cases y <;> rfl))
  obtain ⟨aa, ca, rfl, -⟩ := ha
  obtain ⟨ab, cb, rfl, -⟩ := hb
  go_enter Try.func26, Try.ntmps26
  go_wp2_with fail
  refine H.out.mono ?_
  rintro e w1 ⟨v1, rfl, hp, hb1⟩
  have HP := Lib.hid hp
  obtain ⟨a1, c1, rfl, -⟩ := hp
  go_wp2
  go_ret
  exact ⟨_, rfl, HP.out, hb1⟩
theorem pcommon_calls (va vb : Value) (a b : List (Int × Int)) (w : World) (ha : PersAt w va a) (hb : PersAt w vb b) (hn : a.length + b.length ≤ 2000) :
    Calls Try.prog 28 #[va, vb] w (PersTo w (chooseL a b false true)) := by
  have H := Lib.hid (combine_calls sortsCh va vb a b false true 48 (fun x y => x && y) w ha hb hn (enters_of Try.func48 (by kernel_rfl) rfl) isCommon rfl (fun x y => by cases x <;> cases y <;> rfl))
  obtain ⟨aa, ca, rfl, -⟩ := ha
  obtain ⟨ab, cb, rfl, -⟩ := hb
  go_enter Try.func28, Try.ntmps28
  go_wp2_with fail
  refine H.out.mono ?_
  rintro e w1 ⟨v1, rfl, hp, hb1⟩
  have HP := Lib.hid hp
  obtain ⟨a1, c1, rfl, -⟩ := hp
  go_wp2
  go_ret
  exact ⟨_, rfl, HP.out, hb1⟩
end Go.Proofs.Ytimclpgkdplnhaa
