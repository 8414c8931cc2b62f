/-
  The walk of the form of an event, by the fields that its kind uses.
-/
import Derived.Test.YtngippiilgdnoaaGreatMkam
set_option maxRecDepth 100000
set_option maxHeartbeats 25600000
namespace Go.Proofs.YtngippiilgdnoaaGreat
open Go.RowKit
theorem id_yes {n : Int} (h : idB n = true) : 1 ≤ n ∧ n ≤ 9999 := (idB_iff n).1 h
theorem id_yes2 {n : Int} (h : (!idB n) = false) : 1 ≤ n ∧ n ≤ 9999 := (idB_iff n).1 (by simpa using h)
theorem eq_no {n : Int} (h : (n != 0) = false) : n = 0 := by simpa using h
theorem form_1 (ev : Ev) (last : Int) (w : World) (hk : ev.kd = 1) (hn : ev.nu.size ≤ maxLen) (hm : ev.nm.size ≤ maxLen) : Calls Tryz.prog 112 #[evVal ev, .int .i64 last] w (FormTo last ev w) := by
 obtain ⟨tm, kd, ac, sb, nu, nm, vl⟩ := ev
 dsimp only at hk hn hm
 subst hk
 have hU : usV 1 = #[.bool true, .bool false, .bool false, .bool true, .bool true] := by rfl
 have HuA := hZ9 (show usesA 1 = true by rfl)
 have HuS := hZ9 (show usesS 1 = false by rfl)
 obtain ⟨A, hA⟩ : ∃ A, A = w.alloc (Obj.cells #[.int .i64 tm, .int .i64 1, .int .i64 ac, .int .i64 sb, .string nu, .string nm, .int .i64 vl] 55) := ⟨_, rfl⟩
 have hbA : Below w.heap.size w A := by rw [hA]; go_grown
 have rA : A.heap[w.heap.size]? = some (Obj.cells #[.int .i64 tm, .int .i64 1, .int .i64 ac, .int .i64 sb, .string nu, .string nm, .int .i64 vl] 55) := by rw [hA]; exact heap_alloc_new _ _
 have hzA : w.heap.size < A.heap.size := by rw [hA]; simp
 have HU := hZ9 (uses_calls 1 A (by omega) (by omega))
 rw [hU] at HU
 have HT := hZ9 (fun r w' (h : r ≠ 0) (hb : Below w.heap.size w w') => form_no (last := last) (ev := ⟨tm, 1, ac, sb, nu, nm, vl⟩) h hb)
 have HId := hZ9 id_calls
 have HNm := hZ9 (fun w => name17_calls nm w hm)
 have HVl := hZ9 (fun (ac sb : Int) (nu nm : ByteArray) w => val_calls ⟨tm, 1, ac, sb, nu, nm, vl⟩ w)
 unfold evVal at HVl
 unfold evVal
 dsimp only at HVl ⊢
 have a0 := cell_of_row A _ 0 _ _ _ rA
 have a1 := cell_of_row A _ 1 _ _ _ rA
 have HA := hZ9 hA
 have HrA := hZ9 rA
 have HbA := hZ9 hbA
 clear hA rA hbA hn hm hU
 by_cases t0 : 0 ≤ tm
 · by_cases t1 : tm < 12622780800
   · by_cases t2 : last ≤ tm
     · go_enter Tryz.func112, Tryz.ntmps112
       go_upto_region 1 with (fail)
       rw [← HA.out]
       go_wp2_with fail
       refine HU.out.mono ?_
       rintro e w1 ⟨rfl, hb1⟩
       obtain ⟨X, hX⟩ : ∃ X, X = w1.alloc (Obj.cells #[.bool true, .bool false, .bool false, .bool true, .bool true] 174) := ⟨_, rfl⟩
       have hbX : Below w1.heap.size w1 X := by rw [hX]; go_grown
       have rX : X.heap[w1.heap.size]? = some (Obj.cells #[.bool true, .bool false, .bool false, .bool true, .bool true] 174) := by rw [hX]; exact heap_alloc_new _ _
       have rE := (hbX.block _ (by have := hb1.size; omega)).trans ((hb1.block _ hzA).trans HrA.out)
       have tQ := fun j => cell_of_row X _ j _ _ _ rE
       have e0 := tQ 0
       have e1 := tQ 1
       have e2 := tQ 2
       have e3 := tQ 3
       have e4 := tQ 4
       have e5 := tQ 5
       have e6 := tQ 6
       clear tQ
       have tQ := fun j => cell_of_row X _ j _ _ _ rX
       have u0 := tQ 0
       have u1 := tQ 1
       have u2 := tQ 2
       have u3 := tQ 3
       have u4 := tQ 4
       clear tQ
       have HwX := hZ9 (HbA.out.trans ((hb1.trans (hbX.mono hb1.size)).mono HbA.out.size))
       have HX := hZ9 hX
       clear hX hbX rX rE hb1 a0 a1
       go_upto_region 8 with (fail)
       rw [← HX.out]
       go_wp2_with (first
        | (go_at_call 150; refine (HId.out _ _).mono ?_; rintro e w2 ⟨rfl, rfl⟩)
        | (go_at_call 119; refine (HNm.out _).mono ?_; rintro e w2 ⟨bn, rfl, rfl⟩)
        | (go_at_call 152; refine (HVl.out _ _ _ _ _).mono ?_; rintro e w2 ⟨bv, rfl, hv, hb2⟩))
       all_goals first
        | (go_ret; exact HT.out _ _ (by decide) (by first | exact HwX.out | exact HwX.out.trans (hb2.mono HwX.out.size)))
        | (go_ret; exact ⟨0, rfl, fun _ => ⟨by exact (show (1 : Int) ≤ 1 by decide), by exact (show (1 : Int) ≤ 15 by decide), t0, t1, t2, fun _ => by first | exact id_yes (by assumption) | exact id_yes2 (by assumption), fun h => absurd (HuA.out.symm.trans h) (by decide), fun h => absurd (HuS.out.symm.trans h) (by decide), fun _ => by first | exact eq_no (by assumption) | assumption, fun _ => by first | exact hv (by assumption) | exact hv (by assumption) rfl | (have h := hv; simp_all)⟩, by first | exact HwX.out | exact HwX.out.trans (hb2.mono HwX.out.size)⟩)
     go_enter Tryz.func112, Tryz.ntmps112
     go_upto_region 1 with (fail)
     rw [← HA.out]
     go_wp2
     go_ret
     exact HT.out _ _ (by decide) HbA.out
   go_enter Tryz.func112, Tryz.ntmps112
   go_upto_region 1 with (fail)
   rw [← HA.out]
   go_wp2
   go_ret
   exact HT.out _ _ (by decide) HbA.out
 go_enter Tryz.func112, Tryz.ntmps112
 go_upto_region 1 with (fail)
 rw [← HA.out]
 go_wp2
 go_ret
 exact HT.out _ _ (by decide) HbA.out
theorem form_2 (ev : Ev) (last : Int) (w : World) (hk : ev.kd = 2) (hn : ev.nu.size ≤ maxLen) (hm : ev.nm.size ≤ maxLen) : Calls Tryz.prog 112 #[evVal ev, .int .i64 last] w (FormTo last ev w) := by
 obtain ⟨tm, kd, ac, sb, nu, nm, vl⟩ := ev
 dsimp only at hk hn hm
 have hk1 : 1 ≤ kd := by omega
 have hk2 : kd ≤ 15 := by omega
 have hkb : (kd == 1) = false := beq_eq_false_iff_ne.2 (by omega)
 have Hk1 := hZ9 (show ¬ kd = 1 by omega)
 have hU : usV kd = #[.bool true, .bool false, .bool false, .bool false, .bool false] := by unfold usV; (repeat' split) <;> first | rfl | omega
 have HuA := hZ9 (show usesA kd = true by unfold usesA; simp; omega)
 have HuS := hZ9 (show usesS kd = false by unfold usesS; simp; omega)
 obtain ⟨A, hA⟩ : ∃ A, A = w.alloc (Obj.cells #[.int .i64 tm, .int .i64 kd, .int .i64 ac, .int .i64 sb, .string nu, .string nm, .int .i64 vl] 55) := ⟨_, rfl⟩
 have hbA : Below w.heap.size w A := by rw [hA]; go_grown
 have rA : A.heap[w.heap.size]? = some (Obj.cells #[.int .i64 tm, .int .i64 kd, .int .i64 ac, .int .i64 sb, .string nu, .string nm, .int .i64 vl] 55) := by rw [hA]; exact heap_alloc_new _ _
 have hzA : w.heap.size < A.heap.size := by rw [hA]; simp
 have HU := hZ9 (uses_calls kd A (by omega) (by omega))
 rw [hU] at HU
 have HT := hZ9 (fun r w' (h : r ≠ 0) (hb : Below w.heap.size w w') => form_no (last := last) (ev := ⟨tm, kd, ac, sb, nu, nm, vl⟩) h hb)
 have HId := hZ9 id_calls
 unfold evVal
 dsimp only
 have a0 := cell_of_row A _ 0 _ _ _ rA
 have a1 := cell_of_row A _ 1 _ _ _ rA
 have HA := hZ9 hA
 have HrA := hZ9 rA
 have HbA := hZ9 hbA
 clear hA rA hbA hn hm hU hk
 by_cases t0 : 0 ≤ tm
 · by_cases t1 : tm < 12622780800
   · by_cases t2 : last ≤ tm
     · go_enter Tryz.func112, Tryz.ntmps112
       go_upto_region 1 with (fail)
       rw [← HA.out]
       go_wp2_with fail
       refine HU.out.mono ?_
       rintro e w1 ⟨rfl, hb1⟩
       obtain ⟨X, hX⟩ : ∃ X, X = w1.alloc (Obj.cells #[.bool true, .bool false, .bool false, .bool false, .bool false] 174) := ⟨_, rfl⟩
       have hbX : Below w1.heap.size w1 X := by rw [hX]; go_grown
       have rX : X.heap[w1.heap.size]? = some (Obj.cells #[.bool true, .bool false, .bool false, .bool false, .bool false] 174) := by rw [hX]; exact heap_alloc_new _ _
       have rE := (hbX.block _ (by have := hb1.size; omega)).trans ((hb1.block _ hzA).trans HrA.out)
       have tQ := fun j => cell_of_row X _ j _ _ _ rE
       have e0 := tQ 0
       have e1 := tQ 1
       have e2 := tQ 2
       have e3 := tQ 3
       have e4 := tQ 4
       have e5 := tQ 5
       have e6 := tQ 6
       clear tQ
       have tQ := fun j => cell_of_row X _ j _ _ _ rX
       have u0 := tQ 0
       have u1 := tQ 1
       have u2 := tQ 2
       have u3 := tQ 3
       have u4 := tQ 4
       clear tQ
       have HwX := hZ9 (HbA.out.trans ((hb1.trans (hbX.mono hb1.size)).mono HbA.out.size))
       have HX := hZ9 hX
       clear hX hbX rX rE hb1 a0 a1
       go_upto_region 8 with (fail)
       rw [← HX.out]
       go_wp2_with (first
        | (go_at_call 150; refine (HId.out _ _).mono ?_; rintro e w2 ⟨rfl, rfl⟩))
       all_goals first
        | (go_ret; exact HT.out _ _ (by decide) (by exact HwX.out))
        | (go_ret; exact ⟨0, rfl, fun _ => ⟨by omega, by omega, t0, t1, t2, fun _ => by first | exact id_yes (by assumption) | exact id_yes2 (by assumption), fun h => absurd (HuA.out.symm.trans h) (by decide), fun h => absurd (HuS.out.symm.trans h) (by decide), fun _ => by first | exact eq_no (by assumption) | assumption, fun h => absurd h Hk1.out⟩, by exact HwX.out⟩)
     go_enter Tryz.func112, Tryz.ntmps112
     go_upto_region 1 with (fail)
     rw [← HA.out]
     go_wp2
     go_ret
     exact HT.out _ _ (by decide) HbA.out
   go_enter Tryz.func112, Tryz.ntmps112
   go_upto_region 1 with (fail)
   rw [← HA.out]
   go_wp2
   go_ret
   exact HT.out _ _ (by decide) HbA.out
 go_enter Tryz.func112, Tryz.ntmps112
 go_upto_region 1 with (fail)
 rw [← HA.out]
 go_wp2
 go_ret
 exact HT.out _ _ (by decide) HbA.out
theorem form_3 (ev : Ev) (last : Int) (w : World) (hk : ev.kd = 3) (hn : ev.nu.size ≤ maxLen) (hm : ev.nm.size ≤ maxLen) : Calls Tryz.prog 112 #[evVal ev, .int .i64 last] w (FormTo last ev w) := by
 obtain ⟨tm, kd, ac, sb, nu, nm, vl⟩ := ev
 dsimp only at hk hn hm
 have hk1 : 1 ≤ kd := by omega
 have hk2 : kd ≤ 15 := by omega
 have hkb : (kd == 1) = false := beq_eq_false_iff_ne.2 (by omega)
 have Hk1 := hZ9 (show ¬ kd = 1 by omega)
 have hU : usV kd = #[.bool true, .bool true, .bool false, .bool true, .bool false] := by unfold usV; (repeat' split) <;> first | rfl | omega
 have HuA := hZ9 (show usesA kd = true by unfold usesA; simp; omega)
 have HuS := hZ9 (show usesS kd = true by unfold usesS; simp; omega)
 obtain ⟨A, hA⟩ : ∃ A, A = w.alloc (Obj.cells #[.int .i64 tm, .int .i64 kd, .int .i64 ac, .int .i64 sb, .string nu, .string nm, .int .i64 vl] 55) := ⟨_, rfl⟩
 have hbA : Below w.heap.size w A := by rw [hA]; go_grown
 have rA : A.heap[w.heap.size]? = some (Obj.cells #[.int .i64 tm, .int .i64 kd, .int .i64 ac, .int .i64 sb, .string nu, .string nm, .int .i64 vl] 55) := by rw [hA]; exact heap_alloc_new _ _
 have hzA : w.heap.size < A.heap.size := by rw [hA]; simp
 have HU := hZ9 (uses_calls kd A (by omega) (by omega))
 rw [hU] at HU
 have HT := hZ9 (fun r w' (h : r ≠ 0) (hb : Below w.heap.size w w') => form_no (last := last) (ev := ⟨tm, kd, ac, sb, nu, nm, vl⟩) h hb)
 have HId := hZ9 id_calls
 have HNm := hZ9 (fun w => name17_calls nm w hm)
 unfold evVal
 dsimp only
 have a0 := cell_of_row A _ 0 _ _ _ rA
 have a1 := cell_of_row A _ 1 _ _ _ rA
 have HA := hZ9 hA
 have HrA := hZ9 rA
 have HbA := hZ9 hbA
 clear hA rA hbA hn hm hU hk
 by_cases t0 : 0 ≤ tm
 · by_cases t1 : tm < 12622780800
   · by_cases t2 : last ≤ tm
     · go_enter Tryz.func112, Tryz.ntmps112
       go_upto_region 1 with (fail)
       rw [← HA.out]
       go_wp2_with fail
       refine HU.out.mono ?_
       rintro e w1 ⟨rfl, hb1⟩
       obtain ⟨X, hX⟩ : ∃ X, X = w1.alloc (Obj.cells #[.bool true, .bool true, .bool false, .bool true, .bool false] 174) := ⟨_, rfl⟩
       have hbX : Below w1.heap.size w1 X := by rw [hX]; go_grown
       have rX : X.heap[w1.heap.size]? = some (Obj.cells #[.bool true, .bool true, .bool false, .bool true, .bool false] 174) := by rw [hX]; exact heap_alloc_new _ _
       have rE := (hbX.block _ (by have := hb1.size; omega)).trans ((hb1.block _ hzA).trans HrA.out)
       have tQ := fun j => cell_of_row X _ j _ _ _ rE
       have e0 := tQ 0
       have e1 := tQ 1
       have e2 := tQ 2
       have e3 := tQ 3
       have e4 := tQ 4
       have e5 := tQ 5
       have e6 := tQ 6
       clear tQ
       have tQ := fun j => cell_of_row X _ j _ _ _ rX
       have u0 := tQ 0
       have u1 := tQ 1
       have u2 := tQ 2
       have u3 := tQ 3
       have u4 := tQ 4
       clear tQ
       have HwX := hZ9 (HbA.out.trans ((hb1.trans (hbX.mono hb1.size)).mono HbA.out.size))
       have HX := hZ9 hX
       clear hX hbX rX rE hb1 a0 a1
       go_upto_region 8 with (fail)
       rw [← HX.out]
       go_wp2_with (first
        | (go_at_call 150; refine (HId.out _ _).mono ?_; rintro e w2 ⟨rfl, rfl⟩)
        | (go_at_call 119; refine (HNm.out _).mono ?_; rintro e w2 ⟨bn, rfl, rfl⟩))
       all_goals first
        | (go_ret; exact HT.out _ _ (by decide) (by exact HwX.out))
        | (go_ret; exact ⟨0, rfl, fun _ => ⟨by omega, by omega, t0, t1, t2, fun _ => by first | exact id_yes (by assumption) | exact id_yes2 (by assumption), fun h => absurd (HuA.out.symm.trans h) (by decide), fun _ => by first | exact id_yes (by assumption) | exact id_yes2 (by assumption), fun h => absurd (HuS.out.symm.trans h) (by decide), fun h => absurd h Hk1.out⟩, by exact HwX.out⟩)
     go_enter Tryz.func112, Tryz.ntmps112
     go_upto_region 1 with (fail)
     rw [← HA.out]
     go_wp2
     go_ret
     exact HT.out _ _ (by decide) HbA.out
   go_enter Tryz.func112, Tryz.ntmps112
   go_upto_region 1 with (fail)
   rw [← HA.out]
   go_wp2
   go_ret
   exact HT.out _ _ (by decide) HbA.out
 go_enter Tryz.func112, Tryz.ntmps112
 go_upto_region 1 with (fail)
 rw [← HA.out]
 go_wp2
 go_ret
 exact HT.out _ _ (by decide) HbA.out
theorem form_5 (ev : Ev) (last : Int) (w : World) (hk : ev.kd = 5 ∨ ev.kd = 6) (hn : ev.nu.size ≤ maxLen) (hm : ev.nm.size ≤ maxLen) : Calls Tryz.prog 112 #[evVal ev, .int .i64 last] w (FormTo last ev w) := by
 obtain ⟨tm, kd, ac, sb, nu, nm, vl⟩ := ev
 dsimp only at hk hn hm
 have hk1 : 1 ≤ kd := by omega
 have hk2 : kd ≤ 15 := by omega
 have hkb : (kd == 1) = false := beq_eq_false_iff_ne.2 (by omega)
 have Hk1 := hZ9 (show ¬ kd = 1 by omega)
 have hU : usV kd = #[.bool false, .bool true, .bool true, .bool false, .bool false] := by unfold usV; (repeat' split) <;> first | rfl | omega
 have HuA := hZ9 (show usesA kd = false by unfold usesA; simp; omega)
 have HuS := hZ9 (show usesS kd = true by unfold usesS; simp; omega)
 obtain ⟨A, hA⟩ : ∃ A, A = w.alloc (Obj.cells #[.int .i64 tm, .int .i64 kd, .int .i64 ac, .int .i64 sb, .string nu, .string nm, .int .i64 vl] 55) := ⟨_, rfl⟩
 have hbA : Below w.heap.size w A := by rw [hA]; go_grown
 have rA : A.heap[w.heap.size]? = some (Obj.cells #[.int .i64 tm, .int .i64 kd, .int .i64 ac, .int .i64 sb, .string nu, .string nm, .int .i64 vl] 55) := by rw [hA]; exact heap_alloc_new _ _
 have hzA : w.heap.size < A.heap.size := by rw [hA]; simp
 have HU := hZ9 (uses_calls kd A (by omega) (by omega))
 rw [hU] at HU
 have HT := hZ9 (fun r w' (h : r ≠ 0) (hb : Below w.heap.size w w') => form_no (last := last) (ev := ⟨tm, kd, ac, sb, nu, nm, vl⟩) h hb)
 have HId := hZ9 id_calls
 have HNu := hZ9 (fun w => r2valid_calls nu w hn)
 unfold evVal
 dsimp only
 have a0 := cell_of_row A _ 0 _ _ _ rA
 have a1 := cell_of_row A _ 1 _ _ _ rA
 have HA := hZ9 hA
 have HrA := hZ9 rA
 have HbA := hZ9 hbA
 clear hA rA hbA hn hm hU hk
 by_cases t0 : 0 ≤ tm
 · by_cases t1 : tm < 12622780800
   · by_cases t2 : last ≤ tm
     · go_enter Tryz.func112, Tryz.ntmps112
       go_upto_region 1 with (fail)
       rw [← HA.out]
       go_wp2_with fail
       refine HU.out.mono ?_
       rintro e w1 ⟨rfl, hb1⟩
       obtain ⟨X, hX⟩ : ∃ X, X = w1.alloc (Obj.cells #[.bool false, .bool true, .bool true, .bool false, .bool false] 174) := ⟨_, rfl⟩
       have hbX : Below w1.heap.size w1 X := by rw [hX]; go_grown
       have rX : X.heap[w1.heap.size]? = some (Obj.cells #[.bool false, .bool true, .bool true, .bool false, .bool false] 174) := by rw [hX]; exact heap_alloc_new _ _
       have rE := (hbX.block _ (by have := hb1.size; omega)).trans ((hb1.block _ hzA).trans HrA.out)
       have tQ := fun j => cell_of_row X _ j _ _ _ rE
       have e0 := tQ 0
       have e1 := tQ 1
       have e2 := tQ 2
       have e3 := tQ 3
       have e4 := tQ 4
       have e5 := tQ 5
       have e6 := tQ 6
       clear tQ
       have tQ := fun j => cell_of_row X _ j _ _ _ rX
       have u0 := tQ 0
       have u1 := tQ 1
       have u2 := tQ 2
       have u3 := tQ 3
       have u4 := tQ 4
       clear tQ
       have HwX := hZ9 (HbA.out.trans ((hb1.trans (hbX.mono hb1.size)).mono HbA.out.size))
       have HX := hZ9 hX
       clear hX hbX rX rE hb1 a0 a1
       go_upto_region 8 with (fail)
       rw [← HX.out]
       go_wp2_with (first
        | (go_at_call 150; refine (HId.out _ _).mono ?_; rintro e w2 ⟨rfl, rfl⟩)
        | (go_at_call 151; refine (HNu.out _).mono ?_; rintro e w2 ⟨rfl, rfl⟩))
       all_goals first
        | (go_ret; exact HT.out _ _ (by decide) (by exact HwX.out))
        | (go_ret; exact ⟨0, rfl, fun _ => ⟨by omega, by omega, t0, t1, t2, fun h => absurd (HuA.out.symm.trans h) (by decide), fun _ => by first | exact eq_no (by assumption) | assumption, fun _ => by first | exact id_yes (by assumption) | exact id_yes2 (by assumption), fun h => absurd (HuS.out.symm.trans h) (by decide), fun h => absurd h Hk1.out⟩, by exact HwX.out⟩)
     go_enter Tryz.func112, Tryz.ntmps112
     go_upto_region 1 with (fail)
     rw [← HA.out]
     go_wp2
     go_ret
     exact HT.out _ _ (by decide) HbA.out
   go_enter Tryz.func112, Tryz.ntmps112
   go_upto_region 1 with (fail)
   rw [← HA.out]
   go_wp2
   go_ret
   exact HT.out _ _ (by decide) HbA.out
 go_enter Tryz.func112, Tryz.ntmps112
 go_upto_region 1 with (fail)
 rw [← HA.out]
 go_wp2
 go_ret
 exact HT.out _ _ (by decide) HbA.out
theorem form_7 (ev : Ev) (last : Int) (w : World) (hk : ev.kd = 7 ∨ ev.kd = 8 ∨ ev.kd = 9) (hn : ev.nu.size ≤ maxLen) (hm : ev.nm.size ≤ maxLen) : Calls Tryz.prog 112 #[evVal ev, .int .i64 last] w (FormTo last ev w) := by
 obtain ⟨tm, kd, ac, sb, nu, nm, vl⟩ := ev
 dsimp only at hk hn hm
 have hk1 : 1 ≤ kd := by omega
 have hk2 : kd ≤ 15 := by omega
 have hkb : (kd == 1) = false := beq_eq_false_iff_ne.2 (by omega)
 have Hk1 := hZ9 (show ¬ kd = 1 by omega)
 have hU : usV kd = #[.bool false, .bool true, .bool false, .bool true, .bool false] := by unfold usV; (repeat' split) <;> first | rfl | omega
 have HuA := hZ9 (show usesA kd = false by unfold usesA; simp; omega)
 have HuS := hZ9 (show usesS kd = true by unfold usesS; simp; omega)
 obtain ⟨A, hA⟩ : ∃ A, A = w.alloc (Obj.cells #[.int .i64 tm, .int .i64 kd, .int .i64 ac, .int .i64 sb, .string nu, .string nm, .int .i64 vl] 55) := ⟨_, rfl⟩
 have hbA : Below w.heap.size w A := by rw [hA]; go_grown
 have rA : A.heap[w.heap.size]? = some (Obj.cells #[.int .i64 tm, .int .i64 kd, .int .i64 ac, .int .i64 sb, .string nu, .string nm, .int .i64 vl] 55) := by rw [hA]; exact heap_alloc_new _ _
 have hzA : w.heap.size < A.heap.size := by rw [hA]; simp
 have HU := hZ9 (uses_calls kd A (by omega) (by omega))
 rw [hU] at HU
 have HT := hZ9 (fun r w' (h : r ≠ 0) (hb : Below w.heap.size w w') => form_no (last := last) (ev := ⟨tm, kd, ac, sb, nu, nm, vl⟩) h hb)
 have HId := hZ9 id_calls
 have HNm := hZ9 (fun w => name17_calls nm w hm)
 unfold evVal
 dsimp only
 have a0 := cell_of_row A _ 0 _ _ _ rA
 have a1 := cell_of_row A _ 1 _ _ _ rA
 have HA := hZ9 hA
 have HrA := hZ9 rA
 have HbA := hZ9 hbA
 clear hA rA hbA hn hm hU hk
 by_cases t0 : 0 ≤ tm
 · by_cases t1 : tm < 12622780800
   · by_cases t2 : last ≤ tm
     · go_enter Tryz.func112, Tryz.ntmps112
       go_upto_region 1 with (fail)
       rw [← HA.out]
       go_wp2_with fail
       refine HU.out.mono ?_
       rintro e w1 ⟨rfl, hb1⟩
       obtain ⟨X, hX⟩ : ∃ X, X = w1.alloc (Obj.cells #[.bool false, .bool true, .bool false, .bool true, .bool false] 174) := ⟨_, rfl⟩
       have hbX : Below w1.heap.size w1 X := by rw [hX]; go_grown
       have rX : X.heap[w1.heap.size]? = some (Obj.cells #[.bool false, .bool true, .bool false, .bool true, .bool false] 174) := by rw [hX]; exact heap_alloc_new _ _
       have rE := (hbX.block _ (by have := hb1.size; omega)).trans ((hb1.block _ hzA).trans HrA.out)
       have tQ := fun j => cell_of_row X _ j _ _ _ rE
       have e0 := tQ 0
       have e1 := tQ 1
       have e2 := tQ 2
       have e3 := tQ 3
       have e4 := tQ 4
       have e5 := tQ 5
       have e6 := tQ 6
       clear tQ
       have tQ := fun j => cell_of_row X _ j _ _ _ rX
       have u0 := tQ 0
       have u1 := tQ 1
       have u2 := tQ 2
       have u3 := tQ 3
       have u4 := tQ 4
       clear tQ
       have HwX := hZ9 (HbA.out.trans ((hb1.trans (hbX.mono hb1.size)).mono HbA.out.size))
       have HX := hZ9 hX
       clear hX hbX rX rE hb1 a0 a1
       go_upto_region 8 with (fail)
       rw [← HX.out]
       go_wp2_with (first
        | (go_at_call 150; refine (HId.out _ _).mono ?_; rintro e w2 ⟨rfl, rfl⟩)
        | (go_at_call 119; refine (HNm.out _).mono ?_; rintro e w2 ⟨bn, rfl, rfl⟩))
       all_goals first
        | (go_ret; exact HT.out _ _ (by decide) (by exact HwX.out))
        | (go_ret; exact ⟨0, rfl, fun _ => ⟨by omega, by omega, t0, t1, t2, fun h => absurd (HuA.out.symm.trans h) (by decide), fun _ => by first | exact eq_no (by assumption) | assumption, fun _ => by first | exact id_yes (by assumption) | exact id_yes2 (by assumption), fun h => absurd (HuS.out.symm.trans h) (by decide), fun h => absurd h Hk1.out⟩, by exact HwX.out⟩)
     go_enter Tryz.func112, Tryz.ntmps112
     go_upto_region 1 with (fail)
     rw [← HA.out]
     go_wp2
     go_ret
     exact HT.out _ _ (by decide) HbA.out
   go_enter Tryz.func112, Tryz.ntmps112
   go_upto_region 1 with (fail)
   rw [← HA.out]
   go_wp2
   go_ret
   exact HT.out _ _ (by decide) HbA.out
 go_enter Tryz.func112, Tryz.ntmps112
 go_upto_region 1 with (fail)
 rw [← HA.out]
 go_wp2
 go_ret
 exact HT.out _ _ (by decide) HbA.out
theorem form_14 (ev : Ev) (last : Int) (w : World) (hk : ev.kd = 14 ∨ ev.kd = 15) (hn : ev.nu.size ≤ maxLen) (hm : ev.nm.size ≤ maxLen) : Calls Tryz.prog 112 #[evVal ev, .int .i64 last] w (FormTo last ev w) := by
 obtain ⟨tm, kd, ac, sb, nu, nm, vl⟩ := ev
 dsimp only at hk hn hm
 have hk1 : 1 ≤ kd := by omega
 have hk2 : kd ≤ 15 := by omega
 have hkb : (kd == 1) = false := beq_eq_false_iff_ne.2 (by omega)
 have Hk1 := hZ9 (show ¬ kd = 1 by omega)
 have hU : usV kd = #[.bool true, .bool false, .bool false, .bool false, .bool true] := by unfold usV; (repeat' split) <;> first | rfl | omega
 have HuA := hZ9 (show usesA kd = true by unfold usesA; simp; omega)
 have HuS := hZ9 (show usesS kd = false by unfold usesS; simp; omega)
 obtain ⟨A, hA⟩ : ∃ A, A = w.alloc (Obj.cells #[.int .i64 tm, .int .i64 kd, .int .i64 ac, .int .i64 sb, .string nu, .string nm, .int .i64 vl] 55) := ⟨_, rfl⟩
 have hbA : Below w.heap.size w A := by rw [hA]; go_grown
 have rA : A.heap[w.heap.size]? = some (Obj.cells #[.int .i64 tm, .int .i64 kd, .int .i64 ac, .int .i64 sb, .string nu, .string nm, .int .i64 vl] 55) := by rw [hA]; exact heap_alloc_new _ _
 have hzA : w.heap.size < A.heap.size := by rw [hA]; simp
 have HU := hZ9 (uses_calls kd A (by omega) (by omega))
 rw [hU] at HU
 have HT := hZ9 (fun r w' (h : r ≠ 0) (hb : Below w.heap.size w w') => form_no (last := last) (ev := ⟨tm, kd, ac, sb, nu, nm, vl⟩) h hb)
 have HId := hZ9 id_calls
 have HVl := hZ9 (fun (ac sb : Int) (nu nm : ByteArray) w => val_calls ⟨tm, kd, ac, sb, nu, nm, vl⟩ w)
 unfold evVal at HVl
 unfold evVal
 dsimp only at HVl ⊢
 have a0 := cell_of_row A _ 0 _ _ _ rA
 have a1 := cell_of_row A _ 1 _ _ _ rA
 have HA := hZ9 hA
 have HrA := hZ9 rA
 have HbA := hZ9 hbA
 clear hA rA hbA hn hm hU hk
 by_cases t0 : 0 ≤ tm
 · by_cases t1 : tm < 12622780800
   · by_cases t2 : last ≤ tm
     · go_enter Tryz.func112, Tryz.ntmps112
       go_upto_region 1 with (fail)
       rw [← HA.out]
       go_wp2_with fail
       refine HU.out.mono ?_
       rintro e w1 ⟨rfl, hb1⟩
       obtain ⟨X, hX⟩ : ∃ X, X = w1.alloc (Obj.cells #[.bool true, .bool false, .bool false, .bool false, .bool true] 174) := ⟨_, rfl⟩
       have hbX : Below w1.heap.size w1 X := by rw [hX]; go_grown
       have rX : X.heap[w1.heap.size]? = some (Obj.cells #[.bool true, .bool false, .bool false, .bool false, .bool true] 174) := by rw [hX]; exact heap_alloc_new _ _
       have rE := (hbX.block _ (by have := hb1.size; omega)).trans ((hb1.block _ hzA).trans HrA.out)
       have tQ := fun j => cell_of_row X _ j _ _ _ rE
       have e0 := tQ 0
       have e1 := tQ 1
       have e2 := tQ 2
       have e3 := tQ 3
       have e4 := tQ 4
       have e5 := tQ 5
       have e6 := tQ 6
       clear tQ
       have tQ := fun j => cell_of_row X _ j _ _ _ rX
       have u0 := tQ 0
       have u1 := tQ 1
       have u2 := tQ 2
       have u3 := tQ 3
       have u4 := tQ 4
       clear tQ
       have HwX := hZ9 (HbA.out.trans ((hb1.trans (hbX.mono hb1.size)).mono HbA.out.size))
       have HX := hZ9 hX
       clear hX hbX rX rE hb1 a0 a1
       go_upto_region 8 with (fail)
       rw [← HX.out]
       go_wp2_with (first
        | (go_at_call 150; refine (HId.out _ _).mono ?_; rintro e w2 ⟨rfl, rfl⟩)
        | (go_at_call 152; refine (HVl.out _ _ _ _ _).mono ?_; rintro e w2 ⟨bv, rfl, hv, hb2⟩))
       all_goals first
        | (go_ret; exact HT.out _ _ (by decide) (by first | exact HwX.out | exact HwX.out.trans (hb2.mono HwX.out.size)))
        | (go_ret; exact ⟨0, rfl, fun _ => ⟨by omega, by omega, t0, t1, t2, fun _ => by first | exact id_yes (by assumption) | exact id_yes2 (by assumption), fun h => absurd (HuA.out.symm.trans h) (by decide), fun h => absurd (HuS.out.symm.trans h) (by decide), fun _ => by first | exact eq_no (by assumption) | assumption, fun h => absurd h Hk1.out⟩, by first | exact HwX.out | exact HwX.out.trans (hb2.mono HwX.out.size)⟩)
     go_enter Tryz.func112, Tryz.ntmps112
     go_upto_region 1 with (fail)
     rw [← HA.out]
     go_wp2
     go_ret
     exact HT.out _ _ (by decide) HbA.out
   go_enter Tryz.func112, Tryz.ntmps112
   go_upto_region 1 with (fail)
   rw [← HA.out]
   go_wp2
   go_ret
   exact HT.out _ _ (by decide) HbA.out
 go_enter Tryz.func112, Tryz.ntmps112
 go_upto_region 1 with (fail)
 rw [← HA.out]
 go_wp2
 go_ret
 exact HT.out _ _ (by decide) HbA.out
theorem form_4 (ev : Ev) (last : Int) (w : World) (hk : ev.kd = 4 ∨ (10 ≤ ev.kd ∧ ev.kd ≤ 13)) (hn : ev.nu.size ≤ maxLen) (hm : ev.nm.size ≤ maxLen) : Calls Tryz.prog 112 #[evVal ev, .int .i64 last] w (FormTo last ev w) := by
 obtain ⟨tm, kd, ac, sb, nu, nm, vl⟩ := ev
 dsimp only at hk hn hm
 have hk1 : 1 ≤ kd := by omega
 have hk2 : kd ≤ 15 := by omega
 have hkb : (kd == 1) = false := beq_eq_false_iff_ne.2 (by omega)
 have Hk1 := hZ9 (show ¬ kd = 1 by omega)
 have hU : usV kd = #[.bool false, .bool true, .bool false, .bool false, .bool false] := by unfold usV; (repeat' split) <;> first | rfl | omega
 have HuA := hZ9 (show usesA kd = false by unfold usesA; simp; omega)
 have HuS := hZ9 (show usesS kd = true by unfold usesS; simp; omega)
 obtain ⟨A, hA⟩ : ∃ A, A = w.alloc (Obj.cells #[.int .i64 tm, .int .i64 kd, .int .i64 ac, .int .i64 sb, .string nu, .string nm, .int .i64 vl] 55) := ⟨_, rfl⟩
 have hbA : Below w.heap.size w A := by rw [hA]; go_grown
 have rA : A.heap[w.heap.size]? = some (Obj.cells #[.int .i64 tm, .int .i64 kd, .int .i64 ac, .int .i64 sb, .string nu, .string nm, .int .i64 vl] 55) := by rw [hA]; exact heap_alloc_new _ _
 have hzA : w.heap.size < A.heap.size := by rw [hA]; simp
 have HU := hZ9 (uses_calls kd A (by omega) (by omega))
 rw [hU] at HU
 have HT := hZ9 (fun r w' (h : r ≠ 0) (hb : Below w.heap.size w w') => form_no (last := last) (ev := ⟨tm, kd, ac, sb, nu, nm, vl⟩) h hb)
 have HId := hZ9 id_calls
 unfold evVal
 dsimp only
 have a0 := cell_of_row A _ 0 _ _ _ rA
 have a1 := cell_of_row A _ 1 _ _ _ rA
 have HA := hZ9 hA
 have HrA := hZ9 rA
 have HbA := hZ9 hbA
 clear hA rA hbA hn hm hU hk
 by_cases t0 : 0 ≤ tm
 · by_cases t1 : tm < 12622780800
   · by_cases t2 : last ≤ tm
     · go_enter Tryz.func112, Tryz.ntmps112
       go_upto_region 1 with (fail)
       rw [← HA.out]
       go_wp2_with fail
       refine HU.out.mono ?_
       rintro e w1 ⟨rfl, hb1⟩
       obtain ⟨X, hX⟩ : ∃ X, X = w1.alloc (Obj.cells #[.bool false, .bool true, .bool false, .bool false, .bool false] 174) := ⟨_, rfl⟩
       have hbX : Below w1.heap.size w1 X := by rw [hX]; go_grown
       have rX : X.heap[w1.heap.size]? = some (Obj.cells #[.bool false, .bool true, .bool false, .bool false, .bool false] 174) := by rw [hX]; exact heap_alloc_new _ _
       have rE := (hbX.block _ (by have := hb1.size; omega)).trans ((hb1.block _ hzA).trans HrA.out)
       have tQ := fun j => cell_of_row X _ j _ _ _ rE
       have e0 := tQ 0
       have e1 := tQ 1
       have e2 := tQ 2
       have e3 := tQ 3
       have e4 := tQ 4
       have e5 := tQ 5
       have e6 := tQ 6
       clear tQ
       have tQ := fun j => cell_of_row X _ j _ _ _ rX
       have u0 := tQ 0
       have u1 := tQ 1
       have u2 := tQ 2
       have u3 := tQ 3
       have u4 := tQ 4
       clear tQ
       have HwX := hZ9 (HbA.out.trans ((hb1.trans (hbX.mono hb1.size)).mono HbA.out.size))
       have HX := hZ9 hX
       clear hX hbX rX rE hb1 a0 a1
       go_upto_region 8 with (fail)
       rw [← HX.out]
       go_wp2_with (first
        | (go_at_call 150; refine (HId.out _ _).mono ?_; rintro e w2 ⟨rfl, rfl⟩))
       all_goals first
        | (go_ret; exact HT.out _ _ (by decide) (by exact HwX.out))
        | (go_ret; exact ⟨0, rfl, fun _ => ⟨by omega, by omega, t0, t1, t2, fun h => absurd (HuA.out.symm.trans h) (by decide), fun _ => by first | exact eq_no (by assumption) | assumption, fun _ => by first | exact id_yes (by assumption) | exact id_yes2 (by assumption), fun h => absurd (HuS.out.symm.trans h) (by decide), fun h => absurd h Hk1.out⟩, by exact HwX.out⟩)
     go_enter Tryz.func112, Tryz.ntmps112
     go_upto_region 1 with (fail)
     rw [← HA.out]
     go_wp2
     go_ret
     exact HT.out _ _ (by decide) HbA.out
   go_enter Tryz.func112, Tryz.ntmps112
   go_upto_region 1 with (fail)
   rw [← HA.out]
   go_wp2
   go_ret
   exact HT.out _ _ (by decide) HbA.out
 go_enter Tryz.func112, Tryz.ntmps112
 go_upto_region 1 with (fail)
 rw [← HA.out]
 go_wp2
 go_ret
 exact HT.out _ _ (by decide) HbA.out
theorem form_calls (ev : Ev) (last : Int) (w : World) (hn : ev.nu.size ≤ maxLen) (hm : ev.nm.size ≤ maxLen) : Calls Tryz.prog 112 #[evVal ev, .int .i64 last] w (FormTo last ev w) := by
 by_cases hk : 1 ≤ ev.kd ∧ ev.kd ≤ 15
 · rcases (show ev.kd = 1 ∨ ev.kd = 2 ∨ ev.kd = 3 ∨ (ev.kd = 5 ∨ ev.kd = 6) ∨ (ev.kd = 7 ∨ ev.kd = 8 ∨ ev.kd = 9) ∨ (ev.kd = 14 ∨ ev.kd = 15) ∨ (ev.kd = 4 ∨ (10 ≤ ev.kd ∧ ev.kd ≤ 13)) by omega) with h | h | h | h | h | h | h
   · exact form_1 ev last w h hn hm
   · exact form_2 ev last w h hn hm
   · exact form_3 ev last w h hn hm
   · exact form_5 ev last w h hn hm
   · exact form_7 ev last w h hn hm
   · exact form_14 ev last w h hn hm
   exact form_4 ev last w h hn hm
 have HT := hZ9 (fun r w' (h : r ≠ 0) (hb : Below w.heap.size w w') => form_no (last := last) (ev := ev) h hb)
 obtain ⟨tm, kd, ac, sb, nu, nm, vl⟩ := ev
 have hor : kd < 1 ∨ (1 ≤ kd ∧ 15 < kd) := by
  dsimp only at hk
  omega
 unfold evVal
 dsimp only
 clear hk hn hm
 rcases hor with h | ⟨h, h'⟩
 all_goals
  go_enter Tryz.func112, Tryz.ntmps112
  go_wp2
  go_ret
  exact HT.out _ _ (by decide) (by go_grown)
end Go.Proofs.YtngippiilgdnoaaGreat
