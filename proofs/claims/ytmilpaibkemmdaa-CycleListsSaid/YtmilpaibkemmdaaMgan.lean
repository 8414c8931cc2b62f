/-
  The library's comparisons of integers: cmp.Compare, cmp.Or; worlds behind draws and new blocks.
-/
import Derived.Test.YtmilpaibkemmdaaMgaa
import Derived.Sort.Grow
import Derived.Deep.RegionHeld3
namespace Go.Proofs.Ytmilpaibkemmdaa
open Go.RowKit Go.Sort

theorem nanI_calls (a : Int) (w : World) : Calls Try.prog 50 #[.int .i64 a] w fun e w' => e = .returned (.bool false) ∧ w = w' := by
  go_enter Try.func50, Try.ntmps50
  go_wp2
  go_ret
  exact ⟨ret_bool (by simp), rfl⟩
/-- Integers compared. -/
def cmpI (x y : Int) : Int := if x < y then -1 else if y < x then 1 else 0
theorem cmpI_calls (x y : Int) (w : World) : Calls Try.prog 35 #[.int .i64 x, .int .i64 y] w fun e w' => e = .returned (.int .i64 (cmpI x y)) ∧ w = w' := by
  have Ha := Lib.hid (nanI_calls x w)
  have Hb := Lib.hid (nanI_calls y w)
  by_cases h1 : x < y
  · have HE := Lib.hid (show cmpI x y = -1 from if_pos h1)
    rw [HE.out]
    go_enter Try.func35, Try.ntmps35
    go_wp2_with fail
    refine Ha.out.mono ?_
    rintro e w1 ⟨rfl, rfl⟩
    go_wp2_with fail
    refine Hb.out.mono ?_
    rintro e w1 ⟨rfl, rfl⟩
    go_wp2
    go_ret
    exact ⟨rfl, rfl⟩
  · by_cases h2 : y < x
    · have HE := Lib.hid (show cmpI x y = 1 by unfold cmpI; rw [if_neg h1, if_pos h2])
      rw [HE.out]
      go_enter Try.func35, Try.ntmps35
      go_wp2_with fail
      refine Ha.out.mono ?_
      rintro e w1 ⟨rfl, rfl⟩
      go_wp2_with fail
      refine Hb.out.mono ?_
      rintro e w1 ⟨rfl, rfl⟩
      go_wp2
      go_ret
      exact ⟨rfl, rfl⟩
    · have HE := Lib.hid (show cmpI x y = 0 by unfold cmpI; rw [if_neg h1, if_neg h2])
      rw [HE.out]
      go_enter Try.func35, Try.ntmps35
      go_wp2_with fail
      refine Ha.out.mono ?_
      rintro e w1 ⟨rfl, rfl⟩
      go_wp2_with fail
      refine Hb.out.mono ?_
      rintro e w1 ⟨rfl, rfl⟩
      go_wp2
      go_ret
      exact ⟨rfl, rfl⟩
/-- The first of three numbers that is not nothing. -/
def orV3 (x y z : Int) : Int := if x ≠ 0 then x else if y ≠ 0 then y else z
theorem or3_calls (b cap : Nat) (x y z : Int) (w : World) (h0 : w.cell? ⟨b, 0, none⟩ = some (.int .i64 x)) (h1 : w.cell? ⟨b, 1, none⟩ = some (.int .i64 y)) (h2 : w.cell? ⟨b, 2, none⟩ = some (.int .i64 z)) :
    Calls Try.prog 34 #[.slice (some ⟨b, 0, none⟩) 3 cap] w fun e w' => e = .returned (.int .i64 (orV3 x y z)) ∧ w = w' := by
  have HV := Lib.hid (show orV3 x y z = if x ≠ 0 then x else if y ≠ 0 then y else z from rfl)
  go_enter Try.func34, Try.ntmps34
  go_wp2_with fail
  go_loop [5, 8] (fun _ i => ∃ k : Nat, k ≤ 3 ∧ i = .int .i64 k ∧ (0 < k → x = 0) ∧ (1 < k → y = 0) ∧ (2 < k → z = 0)) (fun _ i => 3 - (intOf i).toNat)
  case atStart => exact ⟨0, by omega, rfl, fun h => absurd h (by omega), fun h => absurd h (by omega), fun h => absurd h (by omega)⟩
  case round =>
    obtain ⟨k, hk, rfl, hx, hy, hz⟩ := hrel
    match k, hk with
    | 0, _ =>
      by_cases h : x = 0
      · have hzb : (x != 0) = false := bne_eq_false_iff_eq.2 h
        go_wp2
        exact ⟨⟨1, by omega, rfl, fun _ => h, fun h => absurd h (by omega), fun h => absurd h (by omega)⟩, by simp [intOf]⟩
      · have hzb : (x != 0) = true := bne_iff_ne.2 h
        have HE := Lib.hid (HV.out.trans (if_pos h))
        go_wp2
        go_ret
        exact ⟨by rw [HE.out]; rfl, rfl⟩
    | 1, _ =>
      have hx0 := hx (by omega)
      have HE := Lib.hid (HV.out.trans (if_neg (not_not_intro hx0)))
      have Hx0 := Lib.hid hx0
      clear hx hx0
      by_cases h : y = 0
      · have hzb : (y != 0) = false := bne_eq_false_iff_eq.2 h
        go_wp2
        exact ⟨⟨2, by omega, rfl, fun _ => Hx0.out, fun _ => h, fun h => absurd h (by omega)⟩, by simp [intOf]⟩
      · have hzb : (y != 0) = true := bne_iff_ne.2 h
        have HE := Lib.hid (HE.out.trans (if_pos h))
        go_wp2
        go_ret
        exact ⟨by rw [HE.out]; rfl, rfl⟩
    | 2, _ =>
      have hx0 := hx (by omega)
      have hy0 := hy (by omega)
      have HE := Lib.hid (HV.out.trans ((if_neg (not_not_intro hx0)).trans (if_neg (not_not_intro hy0))))
      have Hx0 := Lib.hid hx0
      have Hy0 := Lib.hid hy0
      clear hx hx0 hy hy0
      by_cases h : z = 0
      · have hzb : (z != 0) = false := bne_eq_false_iff_eq.2 h
        go_wp2
        exact ⟨⟨3, by omega, rfl, fun _ => Hx0.out, fun _ => Hy0.out, fun _ => h⟩, by simp [intOf]⟩
      · have hzb : (z != 0) = true := bne_iff_ne.2 h
        go_wp2
        go_ret
        exact ⟨by rw [HE.out]; rfl, rfl⟩
    | 3, _ =>
      have hx0 := hx (by omega)
      have hy0 := hy (by omega)
      have hz0 := hz (by omega)
      have HE := Lib.hid (show orV3 x y z = 0 by rw [HV.out, if_neg (not_not_intro hx0), if_neg (not_not_intro hy0), hz0])
      clear hx hy hz hx0 hy0 hz0
      go_wp2
      go_ret
      exact ⟨by rw [HE.out]; rfl, rfl⟩
theorem grew_of {w w' : World} (h : Below w.heap.size w w') (hd : w.drawn ≤ w'.drawn) : ∃ q os', w' = Go.Sort.grow (w.drewN q) os' := by
  obtain ⟨h1, h2, h3, h4, h5⟩ := h
  refine ⟨w'.drawn - w.drawn, w'.heap.extract w.heap.size w'.heap.size, ?_⟩
  obtain ⟨hp, tp, dr, os, out⟩ := w
  obtain ⟨hp', tp', dr', os', out'⟩ := w'
  simp only at h1 h2 h3 h4 h5 hd
  subst h1 h2 h3
  simp only [Go.Sort.grow, World.drewN, World.mk.injEq, true_and, and_true]
  refine ⟨?_, by omega⟩
  apply Array.ext_getElem?
  intro i
  by_cases hi : i < hp.size
  · rw [h5 i hi, Array.getElem?_append_left hi]
  · rw [Array.getElem?_append_right (by omega), Array.getElem?_extract]
    split
    · congr 1; omega
    · exact Array.getElem?_eq_none (by omega)
/-- Another world, behind draws and new blocks. -/
def GrY (Y w' : World) : Prop := Below Y.heap.size Y w' ∧ Y.drawn ≤ w'.drawn
theorem GrY.drew {Y w' : World} (h : GrY Y w') : GrY Y w'.drew := ⟨h.1.drew, Nat.le_succ_of_le h.2⟩
theorem GrY.alloc {Y w' : World} (h : GrY Y w') (o : Obj) : GrY Y (w'.alloc o) := ⟨h.1.alloc h.1.size o, h.2⟩
theorem GrY.refl (Y : World) : GrY Y Y := ⟨Below.refl _ _, Nat.le_refl _⟩
end Go.Proofs.Ytmilpaibkemmdaa
