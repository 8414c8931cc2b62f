/-
  The order of settlement's agreements: the walk of settle.before.
-/
import Derived.Test.YtohmdohbmmbbkaaDoorMgaj
import Derived.Test.YtohmdohbmmbbkaaDoorMgao
namespace Go.Proofs.YtohmdohbmmbbkaaDoor
open Go.RowKit Go.Sort

/-- Those that are not inbound come first. -/
def rk (b : Bool) : Int := match b with | true => 1 | false => 0
theorem rank_calls (b : Bool) (w : World) : Calls Tryd.prog 47 #[.bool b] w fun e w' => e = .returned (.int .i64 (rk b)) ∧ w = w' := by
  cases b with
  | true =>
    go_enter Tryd.func47, Tryd.ntmps47
    go_wp2
    go_ret
    exact ⟨rfl, rfl⟩
  | false =>
    go_enter Tryd.func47, Tryd.ntmps47
    go_wp2
    go_ret
    exact ⟨rfl, rfl⟩
/-- How two agreements stand to one another. -/
def befV (x y : Ag) : Int := orV3 (cmpI x.kd y.kd) (cmpI (rk x.ib) (rk y.ib)) (cmpI x.fr y.fr)

set_option maxRecDepth 100000 in
set_option maxHeartbeats 3200000 in
theorem before_calls (x y : Ag) (xa ya : Option Addr) (xn xc yn yc : Nat) (W : World) : Calls Tryd.prog 24 #[agVal x (.slice xa xn xc), agVal y (.slice ya yn yc)] W fun e w' => e = .returned (.int .i64 (befV x y)) ∧ ∃ q os', w' = Go.Sort.grow (W.drewN q) os' := by
  have HV := Lib.hid (show befV x y = orV3 (cmpI x.kd y.kd) (cmpI (rk x.ib) (rk y.ib)) (cmpI x.fr y.fr) from rfl)
  obtain ⟨xp, xk, xi, xf, xt, xst, xcp⟩ := x
  obtain ⟨yp, yk, yi, yf, yt, yst, ycp⟩ := y
  unfold agVal
  dsimp only at HV ⊢
  obtain ⟨Y, hY⟩ : ∃ Y, Y = ((W.alloc (Obj.cells #[Value.int .i64 xp, .int .i64 xk, .bool xi, .int .i64 xf, .int .i64 xt, .slice xa xn xc, .int .i64 xcp] 53)).alloc (Obj.cells #[Value.int .i64 yp, .int .i64 yk, .bool yi, .int .i64 yf, .int .i64 yt, .slice ya yn yc, .int .i64 ycp] 53)) := ⟨_, rfl⟩
  have hbY : Below W.heap.size W Y := by rw [hY]; exact ((Below.refl _ _).alloc (Nat.le_refl _) _).alloc (by simp) _
  have hdY : W.drawn ≤ Y.drawn := by rw [hY]; exact Nat.le_refl _
  have hzY : Y.heap.size = W.heap.size + 2 := by rw [hY]; simp
  have r0 : Y.heap[W.heap.size]? = some (Obj.cells #[Value.int .i64 xp, .int .i64 xk, .bool xi, .int .i64 xf, .int .i64 xt, .slice xa xn xc, .int .i64 xcp] 53) := by
    rw [hY]
    exact (((Below.refl _ _).alloc (Nat.le_refl _) _ : Below _ _ _).block W.heap.size (by simp)).trans (heap_alloc_new _ _)
  have r1 : Y.heap[W.heap.size + 1]? = some (Obj.cells #[Value.int .i64 yp, .int .i64 yk, .bool yi, .int .i64 yf, .int .i64 yt, .slice ya yn yc, .int .i64 ycp] 53) := by
    rw [hY]
    have := heap_alloc_new (W.alloc (Obj.cells #[Value.int .i64 xp, .int .i64 xk, .bool xi, .int .i64 xf, .int .i64 xt, .slice xa xn xc, .int .i64 xcp] 53)) (Obj.cells #[Value.int .i64 yp, .int .i64 yk, .bool yi, .int .i64 yf, .int .i64 yt, .slice ya yn yc, .int .i64 ycp] 53)
    simpa using this
  have HG := Lib.hid (fun w' (h : GrY Y w') => grew_of (hbY.trans (h.1.mono hbY.size)) (Nat.le_trans hdY h.2))
  have Mk := Lib.hid (show ∀ w' : World, GrY Y w' → (fun w' => GrY Y w' ∧ w'.cell? ⟨W.heap.size, 1, none⟩ = some (.int .i64 xk) ∧ w'.cell? ⟨W.heap.size, 2, none⟩ = some (.bool xi) ∧ w'.cell? ⟨W.heap.size, 3, none⟩ = some (.int .i64 xf) ∧ w'.cell? ⟨W.heap.size + 1, 1, none⟩ = some (.int .i64 yk) ∧ w'.cell? ⟨W.heap.size + 1, 2, none⟩ = some (.bool yi) ∧ w'.cell? ⟨W.heap.size + 1, 3, none⟩ = some (.int .i64 yf)) w' from fun w' h => by
    have q0 := (h.1.block W.heap.size (by omega)).trans r0
    have q1 := (h.1.block (W.heap.size + 1) (by omega)).trans r1
    exact ⟨h, cell_of_row w' _ 1 _ _ _ q0, cell_of_row w' _ 2 _ _ _ q0, cell_of_row w' _ 3 _ _ _ q0, cell_of_row w' _ 1 _ _ _ q1, cell_of_row w' _ 2 _ _ _ q1, cell_of_row w' _ 3 _ _ _ q1⟩)
  have HY := Lib.hid hY
  clear hY hbY hdY hzY r0 r1
  go_enter Tryd.func24, Tryd.ntmps24
  go_upto_region 1 with (fail)
  rw [← HY.out]
  go_region_held3 (fun w' => GrY Y w' ∧ w'.cell? ⟨W.heap.size, 1, none⟩ = some (.int .i64 xk) ∧ w'.cell? ⟨W.heap.size, 2, none⟩ = some (.bool xi) ∧ w'.cell? ⟨W.heap.size, 3, none⟩ = some (.int .i64 xf) ∧ w'.cell? ⟨W.heap.size + 1, 1, none⟩ = some (.int .i64 yk) ∧ w'.cell? ⟨W.heap.size + 1, 2, none⟩ = some (.bool yi) ∧ w'.cell? ⟨W.heap.size + 1, 3, none⟩ = some (.int .i64 yf))
    (first
      | exact Mk.out _ (GrY.refl _).drew
      | exact Mk.out _ (GrY.alloc (And.left (by assumption)) _)
      | exact Mk.out _ (And.left (by assumption)))
    (first
      | (go_at_call 46
         refine (cmpI_calls _ _ _).mono ?_
         rintro e w4 ⟨rfl, rfl⟩)
      | (go_at_call 47
         refine (rank_calls _ _).mono ?_
         rintro e w5 ⟨rfl, rfl⟩)
      | (go_at_call 45
         refine (or3_calls _ _ _ _ _ _ (cell_of_row _ _ 0 _ _ _ (heap_alloc_new _ _)) (cell_of_row _ _ 1 _ _ _ (heap_alloc_new _ _)) (cell_of_row _ _ 2 _ _ _ (heap_alloc_new _ _))).mono ?_
         rintro e w6 ⟨rfl, rfl⟩))
  go_wp2
  go_ret
  exact ⟨by rw [HV.out]; rfl, HG.out _ ((GrY.refl _).alloc _).drew⟩
end Go.Proofs.YtohmdohbmmbbkaaDoor
