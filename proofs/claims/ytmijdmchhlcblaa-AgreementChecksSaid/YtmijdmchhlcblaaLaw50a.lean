/-
  The body of AgreementPrices.
-/
import Derived.Test.YtmijdmchhlcblaaAgPrice2
namespace Go.Proofs.Ytmijdmchhlcblaa
open Go.RowKit

/-- What the awake check of layer 50 says. -/
def Alive50 : Prop := ∀ w : World, Calls Try.prog 34 #[] w fun e w' => e = .returned (.bool true) ∧ Below w.heap.size w w'

set_option maxRecDepth 100000 in
set_option maxHeartbeats 1600000 in
theorem prices50_law (hA : Alive50) (a : Ag) (v : Value) (m n : Int) (w : World) (h : StepsAt w v a.st) :
    Calls Try.prog 10 #[agVal a v, .int .i64 m, .int .i64 n] w fun e w' => e = .returned (.bool true) ∧ Below w.heap.size w w' := by
  have hv := h
  obtain ⟨av, cap, rfl, hm, -⟩ := h
  unfold maxLen at hm
  obtain ⟨W, hW⟩ : ∃ W, W = w.alloc (Obj.cells #[.int .i64 a.pa, .int .i64 a.kd, .bool a.ib, .int .i64 a.fr, .int .i64 a.tt, .slice av a.st.length cap, .int .i64 a.cap] 55) := ⟨_, rfl⟩
  have hw0 : Below w.heap.size w W := by rw [hW]; go_grown
  have r2 : W.heap[w.heap.size]? = some (Obj.cells #[.int .i64 a.pa, .int .i64 a.kd, .bool a.ib, .int .i64 a.fr, .int .i64 a.tt, .slice av a.st.length cap, .int .i64 a.cap] 55) := by rw [hW]; exact heap_alloc_new _ _
  have hz2 : w.heap.size < W.heap.size := by rw [hW]; simp
  have Hr := Lib.hid r2
  have HW := Lib.hid hW
  have HA := Lib.hid hA
  have Hs := Lib.hid (hv.below hw0)
  clear hW r2 hA hv
  by_cases h8 : 8 < a.st.length
  · have h9 : decide (8 < (a.st.length : Int)) = true := decide_eq_true (by omega)
    unfold agVal
    clear Hs Hr
    go_enter Try.func10, Try.ntmps10
    go_wp2_with fail
    rw [← HW.out]
    refine (HA.out _).mono ?_
    rintro e w2 ⟨rfl, hb⟩
    go_wp2
    go_ret
    exact ⟨rfl, hw0.trans (hb.mono hw0.size)⟩
  · have h9 : decide (8 < (a.st.length : Int)) = false := decide_eq_false (by omega)
    have H1 := Lib.hid (fun w1 (hb : Below W.heap.size W w1) => agprice_calls a _ m n w1 (Hs.out.below hb))
    have H2 := Lib.hid (fun w1 (hb : Below W.heap.size W w1) => ragprice_calls a _ m n w1 (Hs.out.below hb))
    generalize agPriceL a m n = p at *
    obtain ⟨x, y⟩ := p
    unfold priceTup agVal at H1 H2
    dsimp only at H1 H2
    unfold agVal
    go_enter Try.func10, Try.ntmps10
    go_wp2_with fail
    rw [← HW.out]
    refine (H1.out W (Below.refl _ _)).mono ?_
    rintro e w1 ⟨rfl, hb1⟩
    have q := (hb1.block _ hz2).trans Hr.out
    have g0 : w1.cell? ⟨w.heap.size, 0, none⟩ = some (.int .i64 a.pa) := cell_of_row w1 _ 0 _ _ _ q
    have g1 : w1.cell? ⟨w.heap.size, 1, none⟩ = some (.int .i64 a.kd) := cell_of_row w1 _ 1 _ _ _ q
    have g2 : w1.cell? ⟨w.heap.size, 2, none⟩ = some (.bool a.ib) := cell_of_row w1 _ 2 _ _ _ q
    have g3 : w1.cell? ⟨w.heap.size, 3, none⟩ = some (.int .i64 a.fr) := cell_of_row w1 _ 3 _ _ _ q
    have g4 : w1.cell? ⟨w.heap.size, 4, none⟩ = some (.int .i64 a.tt) := cell_of_row w1 _ 4 _ _ _ q
    have g5 : w1.cell? ⟨w.heap.size, 5, none⟩ = some (.slice av a.st.length cap) := cell_of_row w1 _ 5 _ _ _ q
    have g6 : w1.cell? ⟨w.heap.size, 6, none⟩ = some (.int .i64 a.cap) := cell_of_row w1 _ 6 _ _ _ q
    clear q
    go_wp2_with fail
    refine (H2.out w1 hb1).mono ?_
    rintro e w2 ⟨rfl, hb2⟩
    have hb3 := hb1.trans (hb2.mono hb1.size)
    clear g0 g1 g2 g3 g4 g5 g6
    go_wp2_with fail
    refine (HA.out _).mono ?_
    rintro e w3 ⟨rfl, hb4⟩
    have hb5 := hb3.trans (hb4.mono hb3.size)
    go_wp2
    go_ret
    exact ⟨rfl, hw0.trans (hb5.mono hw0.size)⟩
end Go.Proofs.Ytmijdmchhlcblaa
