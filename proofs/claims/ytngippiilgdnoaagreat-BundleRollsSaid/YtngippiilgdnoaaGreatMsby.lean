/-
  The walks of the laws' id, and of the reference's Check of a bucket that is valid.
-/
import Derived.Test.YtngippiilgdnoaaGreatMsbh
set_option maxRecDepth 100000
set_option maxHeartbeats 25600000
namespace Go.Proofs.YtngippiilgdnoaaGreat
open Go.RowKit
theorem id35_calls (x : BuX) (w : World) : Calls Tryz.prog 27 #[buVal x] w fun e w' => e = .returned (.agg #[.int .i64 x.b.sb, .string x.b.pr, .int .i64 x.b.ix, .int .i64 x.b.f, .int .i64 0]) ∧ Below w.heap.size w w' := by
 obtain ⟨W, hW, r0, r1, hw0, hz⟩ := two_rows2 w (buRow x) (Obj.cells #[.int .i64 0, .string ⟨#[]⟩, .int .i64 0, .int .i64 0, .int .i64 0] 63)
 unfold buRow at hW r0
 have HW := hZ9 hW
 have ZR := hZ9 r1
 have HF := hZ9 (below_setRow1 hw0 (Nat.le_succ _) #[.int .i64 x.b.sb, .string x.b.pr, .int .i64 x.b.ix, .int .i64 x.b.f, .int .i64 0])
 unfold buVal
 clear hW r1 hw0 hz
 have tQ := fun j => cell_of_row W _ j _ _ _ r0
 have x1 := tQ 1
 have x2 := tQ 2
 have x3 := tQ 3
 have x6 := tQ 6
 clear tQ
 clear r0
 go_enter Tryz.func27, Tryz.ntmps27
 go_upto_region 1 with (fail)
 rw [← HW.out]
 have tQ := fun j => cell_setRow_same W (w.heap.size + 1) j _ #[.int .i64 x.b.sb, .string x.b.pr, .int .i64 x.b.ix, .int .i64 x.b.f, .int .i64 0] _ _ ZR.out
 have t0 := tQ 0
 have t1 := tQ 1
 have t2 := tQ 2
 have t3 := tQ 3
 have t4 := tQ 4
 clear tQ
 repeat (first | refine wpList_store_row rfl _ _ _ rfl (w.heap.size + 1) #[.int .i64 x.b.sb, .string x.b.pr, .int .i64 x.b.ix, .int .i64 x.b.f, .int .i64 0] rfl rfl 63 _ ZR.out (by kernel_rfl) rfl (by simp [Value.oneCell']) ?_ | go_step)
 refine bodyPost_ret (v := .agg #[.int .i64 x.b.sb, .string x.b.pr, .int .i64 x.b.ix, .int .i64 x.b.f, .int .i64 0]) (by simp [results, Tryz.results27, go_sem, t0, t1, t2, t3, t4]) rfl ?_
 exact ⟨rfl, HF.out⟩
end Go.Proofs.YtngippiilgdnoaaGreat
