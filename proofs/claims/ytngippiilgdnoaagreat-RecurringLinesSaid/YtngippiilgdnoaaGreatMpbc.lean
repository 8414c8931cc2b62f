/-
  The library's comparisons of integers: cmp.Compare, cmp.Or; worlds behind draws and new blocks.
-/
import Derived.Test.YtngippiilgdnoaaGreatMpaa
import Derived.Sort.Grow
import Derived.Deep.RegionHeld3
namespace Go.Proofs.YtngippiilgdnoaaGreat
open Go.RowKit Go.Sort

theorem nanI_calls (a : Int) (w : World) : Calls Tryz.prog 135 #[.int .i64 a] w fun e w' => e = .returned (.bool false) ∧ w = w' := by
  go_enter Tryz.func135, Tryz.ntmps135
  go_wp2
  go_ret
  exact ⟨ret_bool (by simp), rfl⟩
/-- Integers compared. -/
def cmpI (x y : Int) : Int := if x < y then -1 else if y < x then 1 else 0
theorem cmpI_calls (x y : Int) (w : World) : Calls Tryz.prog 85 #[.int .i64 x, .int .i64 y] w fun e w' => e = .returned (.int .i64 (cmpI x y)) ∧ w = w' := by
  have Ha := Lib.hid (nanI_calls x w)
  have Hb := Lib.hid (nanI_calls y w)
  by_cases h1 : x < y
  · have HE := Lib.hid (show cmpI x y = -1 from if_pos h1)
    rw [HE.out]
    go_enter Tryz.func85, Tryz.ntmps85
    go_wp2_with fail
    refine Ha.out.mono ?_
    rintro e w1 ⟨rfl, rfl⟩
    go_wp2_with fail
    refine Hb.out.mono ?_
    rintro e w1 ⟨rfl, rfl⟩
    go_wp2
    go_ret
    exact ⟨rfl, rfl⟩
  · by_cases h2 : y < x
    · have HE := Lib.hid (show cmpI x y = 1 by unfold cmpI; rw [if_neg h1, if_pos h2])
      rw [HE.out]
      go_enter Tryz.func85, Tryz.ntmps85
      go_wp2_with fail
      refine Ha.out.mono ?_
      rintro e w1 ⟨rfl, rfl⟩
      go_wp2_with fail
      refine Hb.out.mono ?_
      rintro e w1 ⟨rfl, rfl⟩
      go_wp2
      go_ret
      exact ⟨rfl, rfl⟩
    · have HE := Lib.hid (show cmpI x y = 0 by unfold cmpI; rw [if_neg h1, if_neg h2])
      rw [HE.out]
      go_enter Tryz.func85, Tryz.ntmps85
      go_wp2_with fail
      refine Ha.out.mono ?_
      rintro e w1 ⟨rfl, rfl⟩
      go_wp2_with fail
      refine Hb.out.mono ?_
      rintro e w1 ⟨rfl, rfl⟩
      go_wp2
      go_ret
      exact ⟨rfl, rfl⟩
theorem grew_of {w w' : World} (h : Below w.heap.size w w') (hd : w.drawn ≤ w'.drawn) : ∃ q os', w' = Go.Sort.grow (w.drewN q) os' := by
  obtain ⟨h1, h2, h3, h4, h5⟩ := h
  refine ⟨w'.drawn - w.drawn, w'.heap.extract w.heap.size w'.heap.size, ?_⟩
  obtain ⟨hp, tp, dr, os, out⟩ := w
  obtain ⟨hp', tp', dr', os', out'⟩ := w'
  simp only at h1 h2 h3 h4 h5 hd
  subst h1 h2 h3
  simp only [Go.Sort.grow, World.drewN, World.mk.injEq, true_and, and_true]
  refine ⟨?_, by omega⟩
  apply Array.ext_getElem?
  intro i
  by_cases hi : i < hp.size
  · rw [h5 i hi, Array.getElem?_append_left hi]
  · rw [Array.getElem?_append_right (by omega), Array.getElem?_extract]
    split
    · congr 1; omega
    · exact Array.getElem?_eq_none (by omega)
/-- Another world, behind draws and new blocks. -/
def GrY (Y w' : World) : Prop := Below Y.heap.size Y w' ∧ Y.drawn ≤ w'.drawn
theorem GrY.drew {Y w' : World} (h : GrY Y w') : GrY Y w'.drew := ⟨h.1.drew, Nat.le_succ_of_le h.2⟩
theorem GrY.alloc {Y w' : World} (h : GrY Y w') (o : Obj) : GrY Y (w'.alloc o) := ⟨h.1.alloc h.1.size o, h.2⟩
theorem GrY.refl (Y : World) : GrY Y Y := ⟨Below.refl _ _, Nat.le_refl _⟩
end Go.Proofs.YtngippiilgdnoaaGreat
