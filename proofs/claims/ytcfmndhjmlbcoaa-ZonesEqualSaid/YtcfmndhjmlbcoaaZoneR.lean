/-
  The walk of digits.Compare.
-/
import Derived.Test.YtcfmndhjmlbcoaaZoneO
import Derived.Test.YtcfmndhjmlbcoaaLaidZs
import Derived.Shelf.SlSortCmp.NoneTotal
import Derived.Shelf.Small.Strs
namespace Go.Proofs.Ytcfmndhjmlbcoaa
open Go.RowKit Go.Sort

/-- Another world, behind draws and new blocks. -/
def GrY (Y w' : World) : Prop := Below Y.heap.size Y w' ∧ Y.drawn ≤ w'.drawn
theorem GrY.drew {Y w' : World} (h : GrY Y w') : GrY Y w'.drew := ⟨h.1.drew, Nat.le_succ_of_le h.2⟩
theorem GrY.alloc {Y w' : World} (h : GrY Y w') (o : Obj) : GrY Y (w'.alloc o) := ⟨h.1.alloc h.1.size o, h.2⟩
theorem GrY.refl (Y : World) : GrY Y Y := ⟨Below.refl _ _, Nat.le_refl _⟩

set_option maxRecDepth 100000 in
set_option maxHeartbeats 3200000 in
theorem dcompare_calls (a b : ByteArray) (w : World) : Calls Try.prog 72 #[.string a, .string b] w fun e w' => e = .returned (.int .i64 (cmpD a b)) ∧ ∃ q os', w' = Go.Sort.grow (w.drewN q) os' := by
  have hkey := key_eql a b
  have Hself := Lib.hid (fun (h : a = b) => (show cmpD a b = 0 by rw [h, cmpD_self]))
  have HO := Lib.hid (orV_cmp a b)
  obtain ⟨Y, hY⟩ : ∃ Y, Y = ((w.alloc (Obj.cells #[.int .i64 a.size, .string a] 116)).alloc (Obj.cells #[.int .i64 b.size, .string b] 116)) := ⟨_, rfl⟩
  have hbY : Below w.heap.size w Y := by rw [hY]; exact ((Below.refl _ _).alloc (Nat.le_refl _) _).alloc (by simp) _
  have hdY : w.drawn ≤ Y.drawn := by rw [hY]; exact Nat.le_refl _
  have hzY : Y.heap.size = w.heap.size + 2 := by rw [hY]; simp
  have HG := Lib.hid (fun w' (h : GrY Y w') => grew_of (hbY.trans (h.1.mono hbY.size)) (Nat.le_trans hdY h.2))
  by_cases hab : sameS a b = true
  · have hz : (decide ((a.size : Int) = (b.size : Int)) && sameS a b) = true := by
      rw [hab, (sameS_iff _ _).1 hab]; simp
    have HE := Lib.hid (Hself.out ((sameS_iff _ _).1 hab))
    have HY := Lib.hid hY
    rw [hz] at hkey
    clear hab hz hY hbY hdY hzY
    go_enter Try.func72, Try.ntmps72
    go_wp2_with fail
    rw [← HY.out]
    go_ret
    exact ⟨by rw [HE.out]; rfl, HG.out _ (GrY.refl _)⟩
  · have hz : (decide ((a.size : Int) = (b.size : Int)) && sameS a b) = false := by
      rw [Bool.eq_false_iff.2 hab]; simp
    have r0 : Y.heap[w.heap.size]? = some (Obj.cells #[.int .i64 a.size, .string a] 116) := by
      rw [hY]
      exact (((Below.refl _ _).alloc (Nat.le_refl _) _ : Below _ _ _).block w.heap.size (by simp)).trans (heap_alloc_new _ _)
    have r1 : Y.heap[w.heap.size + 1]? = some (Obj.cells #[.int .i64 b.size, .string b] 116) := by
      rw [hY]
      have := heap_alloc_new (w.alloc (Obj.cells #[.int .i64 a.size, .string a] 116)) (Obj.cells #[.int .i64 b.size, .string b] 116)
      simpa using this
    have Mk := Lib.hid (show ∀ w' : World, GrY Y w' → (fun w' => GrY Y w' ∧ w'.cell? ⟨w.heap.size, 0, none⟩ = some (.int .i64 a.size) ∧ w'.cell? ⟨w.heap.size, 1, none⟩ = some (.string a) ∧ w'.cell? ⟨w.heap.size + 1, 0, none⟩ = some (.int .i64 b.size) ∧ w'.cell? ⟨w.heap.size + 1, 1, none⟩ = some (.string b)) w' from fun w' h => by
      have q0 := (h.1.block w.heap.size (by omega)).trans r0
      have q1 := (h.1.block (w.heap.size + 1) (by omega)).trans r1
      exact ⟨h, cell_of_row w' _ 0 _ _ _ q0, cell_of_row w' _ 1 _ _ _ q0, cell_of_row w' _ 0 _ _ _ q1, cell_of_row w' _ 1 _ _ _ q1⟩)
    have HY := Lib.hid hY
    rw [hz] at hkey
    clear hab hz hY hbY hdY hzY Hself r0 r1
    go_enter Try.func72, Try.ntmps72
    go_upto_region 4 with (fail)
    rw [← HY.out]
    go_region_held3 (fun w' => GrY Y w' ∧ w'.cell? ⟨w.heap.size, 0, none⟩ = some (.int .i64 a.size) ∧ w'.cell? ⟨w.heap.size, 1, none⟩ = some (.string a) ∧ w'.cell? ⟨w.heap.size + 1, 0, none⟩ = some (.int .i64 b.size) ∧ w'.cell? ⟨w.heap.size + 1, 1, none⟩ = some (.string b))
      (first
        | exact Mk.out _ (GrY.refl _).drew
        | exact Mk.out _ (GrY.alloc (And.left (by assumption)) _)
        | exact Mk.out _ (And.left (by assumption)))
      (first
        | (go_at_call 102
           refine (cmpI_calls _ _ _).mono ?_
           rintro e w4 ⟨rfl, rfl⟩)
        | (go_at_call 103
           refine (cmpS_calls _ _ _).mono ?_
           rintro e w5 ⟨rfl, rfl⟩)
        | (go_at_call 101
           refine (or_calls _ _ _ _ _ (cell_of_row _ _ 0 _ _ _ (heap_alloc_new _ _)) (cell_of_row _ _ 1 _ _ _ (heap_alloc_new _ _))).mono ?_
           rintro e w6 ⟨rfl, rfl⟩))
    go_wp2
    go_ret
    exact ⟨by rw [← HO.out]; rfl, HG.out _ ((GrY.refl _).alloc _).drew⟩
end Go.Proofs.Ytcfmndhjmlbcoaa
