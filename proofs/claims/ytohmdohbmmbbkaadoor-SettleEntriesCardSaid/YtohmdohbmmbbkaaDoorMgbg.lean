/-
  The walks of the reference's Alike and of its first error of one agreement behind others.
-/
import Derived.Test.YtohmdohbmmbbkaaDoorMgbf
import Derived.Test.YtohmdohbmmbbkaaDoorMgap
import Derived.Test.YtohmdohbmmbbkaaDoorMgat
namespace Go.Proofs.YtohmdohbmmbbkaaDoor
open Go.RowKit

set_option maxRecDepth 100000 in
set_option maxHeartbeats 1600000 in
theorem alike_calls (a b : Ag) (va vb : Value) (w : World) (ha : StepsAt w va a.st) (hb : StepsAt w vb b.st) : Calls Tryd.prog 67 #[agVal a va, agVal b vb] w fun e w' => e = .returned (.bool (sameB a b)) ∧ Below w.heap.size w w' := by
  obtain ⟨av, cap, rfl, -, -⟩ := ha
  obtain ⟨bv, cap2, rfl, -, -⟩ := hb
  unfold agVal
  by_cases e1 : a.pa = b.pa
  · have t1 : (a.pa == b.pa) = true := by rw [e1]; exact beq_self_eq_true _
    by_cases e2 : a.kd = b.kd
    · have t2 : (a.kd == b.kd) = true := by rw [e2]; exact beq_self_eq_true _
      by_cases e3 : a.ib = b.ib
      · have t3 : (a.ib == b.ib) = true := by rw [e3]; exact beq_self_eq_true _
        have H := Lib.hid (show true = sameB a b by unfold sameB; simp [e1, e2, e3])
        clear e1 e2 e3
        go_enter Tryd.func67, Tryd.ntmps67
        go_wp2
        go_ret
        exact ⟨ret_bool H.out, by go_grown⟩
      · have t3 : (a.ib == b.ib) = false := beq_eq_false_iff_ne.2 e3
        have H := Lib.hid (show false = sameB a b by unfold sameB; rw [decide_eq_false e3]; simp)
        clear e1 e2 e3
        go_enter Tryd.func67, Tryd.ntmps67
        go_wp2
        go_ret
        exact ⟨ret_bool H.out, by go_grown⟩
    · have t2 : (a.kd == b.kd) = false := beq_eq_false_iff_ne.2 e2
      have H := Lib.hid (show false = sameB a b by unfold sameB; rw [decide_eq_false e2]; simp)
      clear e1 e2
      go_enter Tryd.func67, Tryd.ntmps67
      go_wp2
      go_ret
      exact ⟨ret_bool H.out, by go_grown⟩
  · have t1 : (a.pa == b.pa) = false := beq_eq_false_iff_ne.2 e1
    have H := Lib.hid (show false = sameB a b by unfold sameB; rw [decide_eq_false e1]; simp)
    clear e1
    go_enter Tryd.func67, Tryd.ntmps67
    go_wp2
    go_ret
    exact ⟨ret_bool H.out, by go_grown⟩

theorem meetB_symm (f t f2 t2 : Int) : meetB f t f2 t2 = meetB f2 t2 f t := by
  rw [Bool.eq_iff_iff, meetB_iff, meetB_iff]
  constructor
  · rintro ⟨h1, h2, h3⟩; exact ⟨h2, h1, by omega⟩
  · rintro ⟨h1, h2, h3⟩; exact ⟨h2, h1, by omega⟩
theorem sameB_symm (a b : Ag) : sameB a b = sameB b a := by
  unfold sameB
  rw [Bool.eq_iff_iff]
  simp only [Bool.and_eq_true, decide_eq_true_eq]
  constructor
  · rintro ⟨⟨h1, h2⟩, h3⟩; exact ⟨⟨h1.symm, h2.symm⟩, h3.symm⟩
  · rintro ⟨⟨h1, h2⟩, h3⟩; exact ⟨⟨h1.symm, h2.symm⟩, h3.symm⟩

/-- The first error of an agreement behind others. -/
def oneE (L : List Ag) (a : Ag) : Int := if faultE a ≠ 0 then faultE a else if L.any (meets a) = true then 10 else 0
theorem agsE_one (L : List Ag) (a : Ag) (r : List Ag) : agsE L (a :: r) = if oneE L a ≠ 0 then oneE L a else agsE (L ++ [a]) r := by
  rw [agsE]
  unfold oneE
  by_cases h1 : faultE a ≠ 0
  · rw [if_pos h1, if_pos h1, if_pos h1]
  · rw [if_neg h1, if_neg h1]
    by_cases h2 : L.any (meets a) = true
    · rw [if_pos h2, if_pos h2, if_pos (by decide)]
    · rw [if_neg h2, if_neg h2, if_neg (by decide)]

set_option maxRecDepth 100000 in
set_option maxHeartbeats 6400000 in
theorem one50_calls (L : List Ag) (a : Ag) (vl v : Value) (w : World) (hL : AgsAt w vl L) (h : StepsAt w v a.st) : Calls Tryd.prog 50 #[vl, agVal a v] w fun e w' => e = .returned (.int .i64 (oneE L a)) ∧ Below w.heap.size w w' := by
  have hv := h
  have hLL := hL
  obtain ⟨al, cl, rfl, hlc, hcl, -⟩ := hL
  have hcl := hcl.1
  unfold maxLen at hcl
  obtain ⟨av, cap, rfl, hm, -⟩ := h
  obtain ⟨W, hW⟩ : ∃ W, W = w.alloc (Obj.cells #[.int .i64 a.pa, .int .i64 a.kd, .bool a.ib, .int .i64 a.fr, .int .i64 a.tt, .slice av a.st.length cap, .int .i64 a.cap] 53) := ⟨_, rfl⟩
  have hw0 : Below w.heap.size w W := by rw [hW]; go_grown
  have hz : W.heap.size = w.heap.size + 1 := by rw [hW]; simp
  have r2 : W.heap[w.heap.size]? = some (Obj.cells #[.int .i64 a.pa, .int .i64 a.kd, .bool a.ib, .int .i64 a.fr, .int .i64 a.tt, .slice av a.st.length cap, .int .i64 a.cap] 53) := by rw [hW]; exact heap_alloc_new _ _
  have HW := Lib.hid hW
  have hz2 : w.heap.size < W.heap.size := by omega
  have Hr := Lib.hid r2
  have HvW := Lib.hid (hv.below hw0)
  have HLW := Lib.hid (hLL.below hw0)
  have H1 := Lib.hid (rvalid_calls a.fr a.tt W)
  have H2 := Lib.hid (fun w1 (hb : Below W.heap.size W w1) => rsteps_calls (.slice av a.st.length cap) a.st w1 (HvW.out.below hb))
  have hF : faultE a = if a.pa < 1 ∨ 999 < a.pa then 6 else if a.kd < 1 ∨ 5 ≤ a.kd then 7 else if validB a.fr a.tt = false then 15 else if errL a.st ≠ 0 then errL a.st else if a.cap < 0 ∨ 1125899906842624 < a.cap then 6 else 0 := rfl
  have hO : faultE a ≠ 0 → oneE L a = faultE a := fun h => if_pos h
  have hO0 : faultE a = 0 → oneE L a = if L.any (meets a) = true then 10 else 0 := fun h => if_neg (not_not_intro h)
  have HO := Lib.hid hO
  have HO0 := Lib.hid hO0
  clear hW r2 hz hv hLL hO hO0
  unfold agVal
  by_cases h1 : a.pa < 1
  · have k1 : decide (a.pa < 1) = true := decide_eq_true h1
    have hf : faultE a = 6 := by rw [hF, if_pos (Or.inl h1)]
    have HE := Lib.hid (show oneE L a = 6 by rw [HO.out (by rw [hf]; decide), hf])
    clear hf
    clear hF H1 H2
    go_enter Tryd.func50, Tryd.ntmps50
    go_wp2
    go_ret
    exact ⟨ret_int HE.out.symm, by go_grown⟩
  · have k1 : decide (a.pa < 1) = false := decide_eq_false h1
    by_cases h2 : 999 < a.pa
    · have k2 : decide (999 < a.pa) = true := decide_eq_true h2
      have hf : faultE a = 6 := by rw [hF, if_pos (Or.inr h2)]
      have HE := Lib.hid (show oneE L a = 6 by rw [HO.out (by rw [hf]; decide), hf])
      clear hf
      clear hF H1 H2
      go_enter Tryd.func50, Tryd.ntmps50
      go_wp2
      go_ret
      exact ⟨ret_int HE.out.symm, by go_grown⟩
    · have k2 : decide (999 < a.pa) = false := decide_eq_false h2
      rw [if_neg (by omega)] at hF
      by_cases h3 : a.kd < 1
      · have k3 : decide (a.kd < 1) = true := decide_eq_true h3
        have hf : faultE a = 7 := by rw [hF, if_pos (Or.inl h3)]
        have HE := Lib.hid (show oneE L a = 7 by rw [HO.out (by rw [hf]; decide), hf])
        clear hf
        clear hF H1 H2
        go_enter Tryd.func50, Tryd.ntmps50
        go_wp2
        go_ret
        exact ⟨ret_int HE.out.symm, by go_grown⟩
      · have k3 : decide (a.kd < 1) = false := decide_eq_false h3
        by_cases h4 : 5 ≤ a.kd
        · have k4 : decide (5 ≤ a.kd) = true := decide_eq_true h4
          have hf : faultE a = 7 := by rw [hF, if_pos (Or.inr h4)]
          have HE := Lib.hid (show oneE L a = 7 by rw [HO.out (by rw [hf]; decide), hf])
          clear hf
          clear hF H1 H2
          go_enter Tryd.func50, Tryd.ntmps50
          go_wp2
          go_ret
          exact ⟨ret_int HE.out.symm, by go_grown⟩
        · have k4 : decide (5 ≤ a.kd) = false := decide_eq_false h4
          rw [if_neg (by omega)] at hF
          cases hv : validB a.fr a.tt with
          | false =>
            rw [hv] at H1
            have hf : faultE a = 15 := by rw [hF, if_pos hv]
            have HE := Lib.hid (show oneE L a = 15 by rw [HO.out (by rw [hf]; decide), hf])
            clear hf
            clear hF hv H2
            go_enter Tryd.func50, Tryd.ntmps50
            go_wp2_with fail
            rw [← HW.out]
            refine H1.out.mono ?_
            rintro e w1 ⟨rfl, hb1⟩
            have hb2 := hw0.trans (hb1.mono hw0.size)
            go_wp2
            go_ret
            exact ⟨ret_int HE.out.symm, hb2⟩
          | true =>
            rw [hv] at H1
            rw [if_neg (by rw [hv]; decide)] at hF
            clear hv
            by_cases he : errL a.st = 0
            · rw [he] at H2 hF
              rw [if_neg (by decide)] at hF
              clear he
              by_cases h5 : a.cap < 0
              · have k5 : decide (a.cap < 0) = true := decide_eq_true h5
                have hf : faultE a = 6 := by rw [hF, if_pos (Or.inl h5)]
                have HE := Lib.hid (show oneE L a = 6 by rw [HO.out (by rw [hf]; decide), hf])
                clear hf
                clear hF
                go_enter Tryd.func50, Tryd.ntmps50
                go_wp2_with fail
                rw [← HW.out]
                refine H1.out.mono ?_
                rintro e w1 ⟨rfl, hb1⟩
                have hb2 := hw0.trans (hb1.mono hw0.size)
                have m := (hb1.block _ hz2).trans Hr.out
                have g0 : w1.cell? ⟨w.heap.size, 0, none⟩ = some (.int .i64 a.pa) := cell_of_row w1 _ 0 _ _ _ m
                have g1 : w1.cell? ⟨w.heap.size, 1, none⟩ = some (.int .i64 a.kd) := cell_of_row w1 _ 1 _ _ _ m
                have g2 : w1.cell? ⟨w.heap.size, 2, none⟩ = some (.bool a.ib) := cell_of_row w1 _ 2 _ _ _ m
                have g3 : w1.cell? ⟨w.heap.size, 3, none⟩ = some (.int .i64 a.fr) := cell_of_row w1 _ 3 _ _ _ m
                have g4 : w1.cell? ⟨w.heap.size, 4, none⟩ = some (.int .i64 a.tt) := cell_of_row w1 _ 4 _ _ _ m
                have g5 : w1.cell? ⟨w.heap.size, 5, none⟩ = some (.slice av a.st.length cap) := cell_of_row w1 _ 5 _ _ _ m
                have g6 : w1.cell? ⟨w.heap.size, 6, none⟩ = some (.int .i64 a.cap) := cell_of_row w1 _ 6 _ _ _ m
                clear m
                go_wp2_with fail
                refine (H2.out w1 hb1).mono ?_
                rintro e w2 ⟨rfl, hbs⟩
                have hb3 := hb1.trans (hbs.mono hb1.size)
                have hb4 := hw0.trans (hb3.mono hw0.size)
                clear g0 g1 g2 g3 g4 g5 g6
                have m := (hb3.block _ hz2).trans Hr.out
                have g0 : w2.cell? ⟨w.heap.size, 0, none⟩ = some (.int .i64 a.pa) := cell_of_row w2 _ 0 _ _ _ m
                have g1 : w2.cell? ⟨w.heap.size, 1, none⟩ = some (.int .i64 a.kd) := cell_of_row w2 _ 1 _ _ _ m
                have g2 : w2.cell? ⟨w.heap.size, 2, none⟩ = some (.bool a.ib) := cell_of_row w2 _ 2 _ _ _ m
                have g3 : w2.cell? ⟨w.heap.size, 3, none⟩ = some (.int .i64 a.fr) := cell_of_row w2 _ 3 _ _ _ m
                have g4 : w2.cell? ⟨w.heap.size, 4, none⟩ = some (.int .i64 a.tt) := cell_of_row w2 _ 4 _ _ _ m
                have g5 : w2.cell? ⟨w.heap.size, 5, none⟩ = some (.slice av a.st.length cap) := cell_of_row w2 _ 5 _ _ _ m
                have g6 : w2.cell? ⟨w.heap.size, 6, none⟩ = some (.int .i64 a.cap) := cell_of_row w2 _ 6 _ _ _ m
                clear m
                go_wp2
                go_ret
                exact ⟨ret_int HE.out.symm, hb4⟩
              · have k5 : decide (a.cap < 0) = false := decide_eq_false h5
                by_cases h6 : 1125899906842624 < a.cap
                · have k6 : decide (1125899906842624 < a.cap) = true := decide_eq_true h6
                  have hf : faultE a = 6 := by rw [hF, if_pos (Or.inr h6)]
                  have HE := Lib.hid (show oneE L a = 6 by rw [HO.out (by rw [hf]; decide), hf])
                  clear hf
                  clear hF
                  go_enter Tryd.func50, Tryd.ntmps50
                  go_wp2_with fail
                  rw [← HW.out]
                  refine H1.out.mono ?_
                  rintro e w1 ⟨rfl, hb1⟩
                  have hb2 := hw0.trans (hb1.mono hw0.size)
                  have m := (hb1.block _ hz2).trans Hr.out
                  have g0 : w1.cell? ⟨w.heap.size, 0, none⟩ = some (.int .i64 a.pa) := cell_of_row w1 _ 0 _ _ _ m
                  have g1 : w1.cell? ⟨w.heap.size, 1, none⟩ = some (.int .i64 a.kd) := cell_of_row w1 _ 1 _ _ _ m
                  have g2 : w1.cell? ⟨w.heap.size, 2, none⟩ = some (.bool a.ib) := cell_of_row w1 _ 2 _ _ _ m
                  have g3 : w1.cell? ⟨w.heap.size, 3, none⟩ = some (.int .i64 a.fr) := cell_of_row w1 _ 3 _ _ _ m
                  have g4 : w1.cell? ⟨w.heap.size, 4, none⟩ = some (.int .i64 a.tt) := cell_of_row w1 _ 4 _ _ _ m
                  have g5 : w1.cell? ⟨w.heap.size, 5, none⟩ = some (.slice av a.st.length cap) := cell_of_row w1 _ 5 _ _ _ m
                  have g6 : w1.cell? ⟨w.heap.size, 6, none⟩ = some (.int .i64 a.cap) := cell_of_row w1 _ 6 _ _ _ m
                  clear m
                  go_wp2_with fail
                  refine (H2.out w1 hb1).mono ?_
                  rintro e w2 ⟨rfl, hbs⟩
                  have hb3 := hb1.trans (hbs.mono hb1.size)
                  have hb4 := hw0.trans (hb3.mono hw0.size)
                  clear g0 g1 g2 g3 g4 g5 g6
                  have m := (hb3.block _ hz2).trans Hr.out
                  have g0 : w2.cell? ⟨w.heap.size, 0, none⟩ = some (.int .i64 a.pa) := cell_of_row w2 _ 0 _ _ _ m
                  have g1 : w2.cell? ⟨w.heap.size, 1, none⟩ = some (.int .i64 a.kd) := cell_of_row w2 _ 1 _ _ _ m
                  have g2 : w2.cell? ⟨w.heap.size, 2, none⟩ = some (.bool a.ib) := cell_of_row w2 _ 2 _ _ _ m
                  have g3 : w2.cell? ⟨w.heap.size, 3, none⟩ = some (.int .i64 a.fr) := cell_of_row w2 _ 3 _ _ _ m
                  have g4 : w2.cell? ⟨w.heap.size, 4, none⟩ = some (.int .i64 a.tt) := cell_of_row w2 _ 4 _ _ _ m
                  have g5 : w2.cell? ⟨w.heap.size, 5, none⟩ = some (.slice av a.st.length cap) := cell_of_row w2 _ 5 _ _ _ m
                  have g6 : w2.cell? ⟨w.heap.size, 6, none⟩ = some (.int .i64 a.cap) := cell_of_row w2 _ 6 _ _ _ m
                  clear m
                  go_wp2
                  go_ret
                  exact ⟨ret_int HE.out.symm, hb4⟩
                · have k6 : decide (1125899906842624 < a.cap) = false := decide_eq_false h6
                  have HE0 := Lib.hid (HO0.out (by rw [hF, if_neg (by omega)]))
                  clear hF HO HO0
                  go_enter Tryd.func50, Tryd.ntmps50
                  go_wp2_with fail
                  rw [← HW.out]
                  refine H1.out.mono ?_
                  rintro e w1 ⟨rfl, hb1⟩
                  have hb2 := hw0.trans (hb1.mono hw0.size)
                  have m := (hb1.block _ hz2).trans Hr.out
                  have g0 : w1.cell? ⟨w.heap.size, 0, none⟩ = some (.int .i64 a.pa) := cell_of_row w1 _ 0 _ _ _ m
                  have g1 : w1.cell? ⟨w.heap.size, 1, none⟩ = some (.int .i64 a.kd) := cell_of_row w1 _ 1 _ _ _ m
                  have g2 : w1.cell? ⟨w.heap.size, 2, none⟩ = some (.bool a.ib) := cell_of_row w1 _ 2 _ _ _ m
                  have g3 : w1.cell? ⟨w.heap.size, 3, none⟩ = some (.int .i64 a.fr) := cell_of_row w1 _ 3 _ _ _ m
                  have g4 : w1.cell? ⟨w.heap.size, 4, none⟩ = some (.int .i64 a.tt) := cell_of_row w1 _ 4 _ _ _ m
                  have g5 : w1.cell? ⟨w.heap.size, 5, none⟩ = some (.slice av a.st.length cap) := cell_of_row w1 _ 5 _ _ _ m
                  have g6 : w1.cell? ⟨w.heap.size, 6, none⟩ = some (.int .i64 a.cap) := cell_of_row w1 _ 6 _ _ _ m
                  clear m
                  go_wp2_with fail
                  refine (H2.out w1 hb1).mono ?_
                  rintro e w2 ⟨rfl, hbs⟩
                  have hb3 := hb1.trans (hbs.mono hb1.size)
                  have hb4 := hw0.trans (hb3.mono hw0.size)
                  clear g0 g1 g2 g3 g4 g5 g6
                  have m := (hb3.block _ hz2).trans Hr.out
                  have g0 : w2.cell? ⟨w.heap.size, 0, none⟩ = some (.int .i64 a.pa) := cell_of_row w2 _ 0 _ _ _ m
                  have g1 : w2.cell? ⟨w.heap.size, 1, none⟩ = some (.int .i64 a.kd) := cell_of_row w2 _ 1 _ _ _ m
                  have g2 : w2.cell? ⟨w.heap.size, 2, none⟩ = some (.bool a.ib) := cell_of_row w2 _ 2 _ _ _ m
                  have g3 : w2.cell? ⟨w.heap.size, 3, none⟩ = some (.int .i64 a.fr) := cell_of_row w2 _ 3 _ _ _ m
                  have g4 : w2.cell? ⟨w.heap.size, 4, none⟩ = some (.int .i64 a.tt) := cell_of_row w2 _ 4 _ _ _ m
                  have g5 : w2.cell? ⟨w.heap.size, 5, none⟩ = some (.slice av a.st.length cap) := cell_of_row w2 _ 5 _ _ _ m
                  have g6 : w2.cell? ⟨w.heap.size, 6, none⟩ = some (.int .i64 a.cap) := cell_of_row w2 _ 6 _ _ _ m
                  clear m
                  go_wp2_with fail
                  go_loopw [6] (fun i wr => ∃ q : Nat, q ≤ L.length ∧ i = .int .i64 q ∧ (L.take q).any (meets a) = false ∧ Below W.heap.size W wr) (fun i _ => L.length - (intOf i).toNat)
                  case atStart => exact ⟨0, Nat.zero_le _, rfl, rfl, hb3⟩
                  case round =>
                    obtain ⟨q, hq, rfl, hqe, hbr⟩ := hrel
                    have Hqe := Lib.hid hqe
                    have hbz := hbr.size
                    clear hqe
                    clear g0 g1 g2 g3 g4 g5 g6
                    by_cases hqk : q < L.length
                    · have hLr := HLW.out.below hbr
                      obtain ⟨al2, cl2, e2, -, -, hx⟩ := hLr
                      cases e2
                      obtain ⟨b, o, rfl, hB, hx⟩ := hx (by rintro rfl; cases hqk)
                      obtain ⟨d0, d1, d2, d3, d4, ⟨sy, d5, hsy, -⟩, d6⟩ := hx q hqk
                      have HF := Lib.hid (fun h2 => any_snoc (p := meets a) hqk Hqe.out h2)
                      have HT := Lib.hid (show meets a L[q] = true → L.any (meets a) = true from fun h2 => List.any_eq_true.2 ⟨L[q], List.getElem_mem hqk, h2⟩)
                      clear hx
                      obtain ⟨y, hy⟩ : ∃ y, y = L[q] := ⟨_, rfl⟩
                      rw [← hy] at d0 d1 d2 d3 d4 hsy d6 HF HT
                      clear hy
                      have Hsy := Lib.hid hsy
                      obtain ⟨ay, cy, rfl, -, -⟩ := hsy
                      have hq0 : (0 : Int) ≤ (q : Int) := Int.natCast_nonneg _
                      have hq1 : (q : Int) < (L.length : Int) := by omega
                      have hlu : w.heap.size < wr.heap.size := Nat.lt_of_lt_of_le hz2 hbz
                      have mr := Lib.hid ((hbr.block _ hz2).trans Hr.out)
                      have Dd := Lib.hid (And.intro d0 (And.intro d1 (And.intro d2 (And.intro d3 (And.intro d4 (And.intro d5 d6))))))
                      have Mk := Lib.hid (show ∀ w' : World, Below wr.heap.size wr w' → Below wr.heap.size wr w' ∧ w'.cell? ⟨w.heap.size, 0, none⟩ = some (.int .i64 a.pa) ∧ w'.cell? ⟨w.heap.size, 1, none⟩ = some (.int .i64 a.kd) ∧ w'.cell? ⟨w.heap.size, 2, none⟩ = some (.bool a.ib) ∧ w'.cell? ⟨w.heap.size, 3, none⟩ = some (.int .i64 a.fr) ∧ w'.cell? ⟨w.heap.size, 4, none⟩ = some (.int .i64 a.tt) ∧ w'.cell? ⟨w.heap.size, 5, none⟩ = some (.slice av a.st.length cap) ∧ w'.cell? ⟨w.heap.size, 6, none⟩ = some (.int .i64 a.cap) ∧ w'.cell? ⟨b, o + q * 7, none⟩ = some (.int .i64 y.pa) ∧ w'.cell? ⟨b, o + q * 7 + 1, none⟩ = some (.int .i64 y.kd) ∧ w'.cell? ⟨b, o + q * 7 + 2, none⟩ = some (.bool y.ib) ∧ w'.cell? ⟨b, o + q * 7 + 3, none⟩ = some (.int .i64 y.fr) ∧ w'.cell? ⟨b, o + q * 7 + 4, none⟩ = some (.int .i64 y.tt) ∧ w'.cell? ⟨b, o + q * 7 + 5, none⟩ = some (.slice ay y.st.length cy) ∧ w'.cell? ⟨b, o + q * 7 + 6, none⟩ = some (.int .i64 y.cap) from fun w' hw => by
                        have q1 := (hw.block _ hlu).trans mr.out
                        obtain ⟨d0, d1, d2, d3, d4, d5, d6⟩ := Dd.out
                        exact ⟨hw, cell_of_row w' _ 0 _ _ _ q1, cell_of_row w' _ 1 _ _ _ q1, cell_of_row w' _ 2 _ _ _ q1, cell_of_row w' _ 3 _ _ _ q1, cell_of_row w' _ 4 _ _ _ q1, cell_of_row w' _ 5 _ _ _ q1, cell_of_row w' _ 6 _ _ _ q1, (hw.cell (p := ⟨b, o + q * 7, none⟩) hB).trans d0, (hw.cell (p := ⟨b, o + q * 7 + 1, none⟩) hB).trans d1, (hw.cell (p := ⟨b, o + q * 7 + 2, none⟩) hB).trans d2, (hw.cell (p := ⟨b, o + q * 7 + 3, none⟩) hB).trans d3, (hw.cell (p := ⟨b, o + q * 7 + 4, none⟩) hB).trans d4, (hw.cell (p := ⟨b, o + q * 7 + 5, none⟩) hB).trans d5, (hw.cell (p := ⟨b, o + q * 7 + 6, none⟩) hB).trans d6⟩)
                      have HI := Lib.hid (fun w1 => rintersect_calls y.fr y.tt a.fr a.tt w1)
                      have HMV := Lib.hid (show ∃ p1 p2 : Int, meetV y.fr y.tt a.fr a.tt = .agg #[.int .i64 p1, .int .i64 p2] by
                        unfold meetV; split
                        · exact ⟨_, _, rfl⟩
                        · exact ⟨_, _, rfl⟩)
                      obtain ⟨p1, p2, hpv⟩ := HMV.out
                      rw [hpv] at HI
                      have HMS := Lib.hid (meetB_symm a.fr a.tt y.fr y.tt)
                      generalize hmt : meetB y.fr y.tt a.fr a.tt = mt at *
                      have Hmt := Lib.hid (show meetB a.fr a.tt y.fr y.tt = mt from HMS.out)
                      have HAl := Lib.hid (fun w1 (hb : Below wr.heap.size wr w1) => alike_calls y a _ _ w1 (Hsy.out.below hb) (HvW.out.below (hbr.trans (hb.mono hbz))))
                      unfold agVal at HAl
                      clear hmt hpv HMV HMS d0 d1 d2 d3 d4 d5 d6
                      go_wp2_with fail
                      go_cut [7, 8] (fun s7 s8 wx => s8 = .bool mt ∧ Below wr.heap.size wr wx)
                      case first =>
                        go_region_held3 (fun w' : World => Below wr.heap.size wr w' ∧ w'.cell? ⟨w.heap.size, 0, none⟩ = some (.int .i64 a.pa) ∧ w'.cell? ⟨w.heap.size, 1, none⟩ = some (.int .i64 a.kd) ∧ w'.cell? ⟨w.heap.size, 2, none⟩ = some (.bool a.ib) ∧ w'.cell? ⟨w.heap.size, 3, none⟩ = some (.int .i64 a.fr) ∧ w'.cell? ⟨w.heap.size, 4, none⟩ = some (.int .i64 a.tt) ∧ w'.cell? ⟨w.heap.size, 5, none⟩ = some (.slice av a.st.length cap) ∧ w'.cell? ⟨w.heap.size, 6, none⟩ = some (.int .i64 a.cap) ∧ w'.cell? ⟨b, o + q * 7, none⟩ = some (.int .i64 y.pa) ∧ w'.cell? ⟨b, o + q * 7 + 1, none⟩ = some (.int .i64 y.kd) ∧ w'.cell? ⟨b, o + q * 7 + 2, none⟩ = some (.bool y.ib) ∧ w'.cell? ⟨b, o + q * 7 + 3, none⟩ = some (.int .i64 y.fr) ∧ w'.cell? ⟨b, o + q * 7 + 4, none⟩ = some (.int .i64 y.tt) ∧ w'.cell? ⟨b, o + q * 7 + 5, none⟩ = some (.slice ay y.st.length cy) ∧ w'.cell? ⟨b, o + q * 7 + 6, none⟩ = some (.int .i64 y.cap))
                          (first
                            | exact Mk.out _ (by assumption)
                            | exact Mk.out _ (Below.refl _ _).drew
                            | exact Mk.out _ (Below.alloc (And.left (by assumption)) (Below.size (And.left (by assumption))) _)
                            | exact Mk.out _ (Below.alloc (by assumption) (Below.size (by assumption)) _)
                            | exact Mk.out _ (Below.setCell (Below.setCell (And.left (by assumption)) (by first | omega | (simp; done) | (simp; omega)) _) (by first | omega | (simp; done) | (simp; omega)) _))
                          (first
                            | (go_at_call 31
                               refine (HI.out _).mono ?_
                               rintro e w4 ⟨rfl, hb4⟩
                               have hY4 : Below wr.heap.size wr w4 := Below.trans (And.left (by assumption)) (hb4.mono (Below.size (And.left (by assumption))))
                               have hz4 := hY4.size
                               (first
                                 | (refine (fun (z0 : w4.cell? ⟨wr.heap.size, 0, none⟩ = some (.int .i64 0)) => ?_) ((hb4.cell (p := ⟨wr.heap.size, 0, none⟩) ?_).trans ?_)
                                    rotate_left
                                    · (simp; done)
                                    · (simp [go_sem]; done))
                                 | skip)
                               (first
                                 | (refine (fun (z1 : w4.cell? ⟨wr.heap.size, 1, none⟩ = some (.int .i64 0)) => ?_) ((hb4.cell (p := ⟨wr.heap.size, 1, none⟩) ?_).trans ?_)
                                    rotate_left
                                    · (simp; done)
                                    · (simp [go_sem]; done))
                                 | skip)
                               (first
                                 | (refine (fun (z2 : w4.frozen? ⟨wr.heap.size, 0, none⟩ = false) => ?_) ((hb4.frozen (p := ⟨wr.heap.size, 0, none⟩) ?_).trans ?_)
                                    rotate_left
                                    · (simp; done)
                                    · (simp [go_sem]; done))
                                 | skip)
                               (first
                                 | (refine (fun (z3 : w4.frozen? ⟨wr.heap.size, 1, none⟩ = false) => ?_) ((hb4.frozen (p := ⟨wr.heap.size, 1, none⟩) ?_).trans ?_)
                                    rotate_left
                                    · (simp; done)
                                    · (simp [go_sem]; done))
                                 | skip)
                               clear hb4))
                        all_goals
                          go_wp2_with fail
                          go_meet
                          exact ⟨rfl, And.left (by assumption)⟩
                      case rest =>
                        obtain ⟨rfl, hbc⟩ := hcut
                        cases mt with
                        | false =>
                          have HN := Lib.hid (HF.out (meets_no Hmt.out))
                          clear Mk HAl HI
                          go_wp2_with fail
                          go_big_quiet (fail)
                          go_wp2
                          exact ⟨⟨q + 1, by omega, by go_num, HN.out, below_drewN2 (hbr.trans (hbc.mono hbz)) _⟩, by simp [intOf]; omega⟩
                        | true =>
                          have HSS := Lib.hid (sameB_symm a y)
                          have HMT := Lib.hid (show meets a y = sameB y a by unfold meets; rw [Hmt.out, HSS.out]; rfl)
                          generalize sameB y a = sb at *
                          cases sb with
                          | false =>
                            have HN := Lib.hid (HF.out HMT.out)
                            go_wp2_with fail
                            go_region_held3 (fun w' : World => Below wr.heap.size wr w' ∧ w'.cell? ⟨w.heap.size, 0, none⟩ = some (.int .i64 a.pa) ∧ w'.cell? ⟨w.heap.size, 1, none⟩ = some (.int .i64 a.kd) ∧ w'.cell? ⟨w.heap.size, 2, none⟩ = some (.bool a.ib) ∧ w'.cell? ⟨w.heap.size, 3, none⟩ = some (.int .i64 a.fr) ∧ w'.cell? ⟨w.heap.size, 4, none⟩ = some (.int .i64 a.tt) ∧ w'.cell? ⟨w.heap.size, 5, none⟩ = some (.slice av a.st.length cap) ∧ w'.cell? ⟨w.heap.size, 6, none⟩ = some (.int .i64 a.cap) ∧ w'.cell? ⟨b, o + q * 7, none⟩ = some (.int .i64 y.pa) ∧ w'.cell? ⟨b, o + q * 7 + 1, none⟩ = some (.int .i64 y.kd) ∧ w'.cell? ⟨b, o + q * 7 + 2, none⟩ = some (.bool y.ib) ∧ w'.cell? ⟨b, o + q * 7 + 3, none⟩ = some (.int .i64 y.fr) ∧ w'.cell? ⟨b, o + q * 7 + 4, none⟩ = some (.int .i64 y.tt) ∧ w'.cell? ⟨b, o + q * 7 + 5, none⟩ = some (.slice ay y.st.length cy) ∧ w'.cell? ⟨b, o + q * 7 + 6, none⟩ = some (.int .i64 y.cap))
                              (first
                                | exact Mk.out _ (by assumption)
                                | exact Mk.out _ (Below.drew (by assumption)))
                              (first
                                | (go_at_call 67
                                   refine (HAl.out _ (And.left (by assumption))).mono ?_
                                   rintro e w8 ⟨rfl, hb8⟩
                                   have hY8 : Below wr.heap.size wr w8 := Below.trans (And.left (by assumption)) (hb8.mono (Below.size (And.left (by assumption))))
                                   clear hb8))
                            go_wp2
                            exact ⟨⟨q + 1, by omega, by go_num, HN.out, hbr.trans (hY8.mono hbz)⟩, by simp [intOf]; omega⟩
                          | true =>
                            have HE := Lib.hid (show oneE L a = 10 by rw [HE0.out, if_pos (HT.out HMT.out)])
                            go_wp2_with fail
                            go_region_held3 (fun w' : World => Below wr.heap.size wr w' ∧ w'.cell? ⟨w.heap.size, 0, none⟩ = some (.int .i64 a.pa) ∧ w'.cell? ⟨w.heap.size, 1, none⟩ = some (.int .i64 a.kd) ∧ w'.cell? ⟨w.heap.size, 2, none⟩ = some (.bool a.ib) ∧ w'.cell? ⟨w.heap.size, 3, none⟩ = some (.int .i64 a.fr) ∧ w'.cell? ⟨w.heap.size, 4, none⟩ = some (.int .i64 a.tt) ∧ w'.cell? ⟨w.heap.size, 5, none⟩ = some (.slice av a.st.length cap) ∧ w'.cell? ⟨w.heap.size, 6, none⟩ = some (.int .i64 a.cap) ∧ w'.cell? ⟨b, o + q * 7, none⟩ = some (.int .i64 y.pa) ∧ w'.cell? ⟨b, o + q * 7 + 1, none⟩ = some (.int .i64 y.kd) ∧ w'.cell? ⟨b, o + q * 7 + 2, none⟩ = some (.bool y.ib) ∧ w'.cell? ⟨b, o + q * 7 + 3, none⟩ = some (.int .i64 y.fr) ∧ w'.cell? ⟨b, o + q * 7 + 4, none⟩ = some (.int .i64 y.tt) ∧ w'.cell? ⟨b, o + q * 7 + 5, none⟩ = some (.slice ay y.st.length cy) ∧ w'.cell? ⟨b, o + q * 7 + 6, none⟩ = some (.int .i64 y.cap))
                              (first
                                | exact Mk.out _ (by assumption)
                                | exact Mk.out _ (Below.drew (by assumption)))
                              (first
                                | (go_at_call 67
                                   refine (HAl.out _ (And.left (by assumption))).mono ?_
                                   rintro e w8 ⟨rfl, hb8⟩
                                   have hY8 : Below wr.heap.size wr w8 := Below.trans (And.left (by assumption)) (hb8.mono (Below.size (And.left (by assumption))))
                                   clear hb8))
                            go_wp2
                            go_ret
                            exact ⟨ret_int HE.out.symm, hw0.trans ((hbr.trans (hY8.mono hbz)).mono hw0.size)⟩
                    · have hn : L.any (meets a) = false := by have := Hqe.out; rwa [List.take_of_length_le (by omega)] at this
                      have HE := Lib.hid (show oneE L a = 0 by rw [HE0.out, if_neg (by rw [hn]; decide)])
                      clear hn
                      go_wp2
                      go_ret
                      exact ⟨ret_int HE.out.symm, hw0.trans (hbr.mono hw0.size)⟩
            · have hf : faultE a = errL a.st := by rw [hF, if_pos he]
              have HE := Lib.hid (show oneE L a = errL a.st by rw [HO.out (by rw [hf]; exact he), hf])
              clear hf
              generalize errL a.st = er at *
              have hen : (er != 0) = true := by rw [bne_iff_ne]; exact he
              clear hF he HO HO0
              go_enter Tryd.func50, Tryd.ntmps50
              go_wp2_with fail
              rw [← HW.out]
              refine H1.out.mono ?_
              rintro e w1 ⟨rfl, hb1⟩
              have hb2 := hw0.trans (hb1.mono hw0.size)
              have m := (hb1.block _ hz2).trans Hr.out
              have g0 : w1.cell? ⟨w.heap.size, 0, none⟩ = some (.int .i64 a.pa) := cell_of_row w1 _ 0 _ _ _ m
              have g1 : w1.cell? ⟨w.heap.size, 1, none⟩ = some (.int .i64 a.kd) := cell_of_row w1 _ 1 _ _ _ m
              have g2 : w1.cell? ⟨w.heap.size, 2, none⟩ = some (.bool a.ib) := cell_of_row w1 _ 2 _ _ _ m
              have g3 : w1.cell? ⟨w.heap.size, 3, none⟩ = some (.int .i64 a.fr) := cell_of_row w1 _ 3 _ _ _ m
              have g4 : w1.cell? ⟨w.heap.size, 4, none⟩ = some (.int .i64 a.tt) := cell_of_row w1 _ 4 _ _ _ m
              have g5 : w1.cell? ⟨w.heap.size, 5, none⟩ = some (.slice av a.st.length cap) := cell_of_row w1 _ 5 _ _ _ m
              have g6 : w1.cell? ⟨w.heap.size, 6, none⟩ = some (.int .i64 a.cap) := cell_of_row w1 _ 6 _ _ _ m
              clear m
              go_wp2_with fail
              refine (H2.out w1 hb1).mono ?_
              rintro e w2 ⟨rfl, hbs⟩
              have hb3 := hb1.trans (hbs.mono hb1.size)
              have hb4 := hw0.trans (hb3.mono hw0.size)
              clear g0 g1 g2 g3 g4 g5 g6
              go_wp2
              go_ret
              exact ⟨ret_int HE.out.symm, hb4⟩

set_option maxRecDepth 100000 in
set_option maxHeartbeats 6400000 in
theorem ragcheck_calls (v : Value) (l : List Ag) (w : World) (h : AgsAt w v l) :
    Calls Tryd.prog 28 #[v] w fun e w' => e = .returned (.int .i64 (agCheckE l)) ∧ Below w.heap.size w w' := by
  have hh := h
  obtain ⟨av, cap, rfl, hlc, hm, -⟩ := h
  have hm := hm.1
  unfold maxLen at hm
  by_cases hbig : 4096 < l.length
  · have H := Lib.hid (show agCheckE l = 5 from if_pos hbig)
    go_enter Tryd.func28, Tryd.ntmps28
    go_wp2
    go_ret
    exact ⟨ret_int H.out.symm, Below.refl _ _⟩
  · have H := Lib.hid (show agCheckE l = agsE (l.take 0) (l.drop 0) from if_neg hbig)
    go_enter Tryd.func28, Tryd.ntmps28
    go_wp2_with fail
    go_loopw [3] (fun i wr => ∃ k : Nat, k ≤ l.length ∧ i = .int .i64 k ∧ agCheckE l = agsE (l.take k) (l.drop k) ∧ Below w.heap.size w wr) (fun i _ => l.length - (intOf i).toNat)
    case atStart => exact ⟨0, Nat.zero_le _, rfl, H.out, Below.refl _ _⟩
    case round =>
      obtain ⟨k, hk, rfl, he, hb⟩ := hrel
      have hbz := hb.size
      by_cases hlk : k < l.length
      · have hat := hh.below hb
        have HPre := Lib.hid (show AgsAt wr (.slice av k cap) (l.take k) by
          obtain ⟨av2, cap2, e2, h1, h2, hx⟩ := hat
          cases e2
          have hlt : (l.take k).length = k := by rw [List.length_take]; omega
          refine ⟨av, cap, by rw [hlt], by rw [hlt]; omega, h2, fun hne => ?_⟩
          obtain ⟨b, o, e, hB, hx⟩ := hx (by rintro rfl; cases hlk)
          refine ⟨b, o, e, hB, fun i hi => ?_⟩
          rw [List.getElem_take]
          exact hx i (by rw [hlt] at hi; omega))
        obtain ⟨av2, cap2, e2, -, -, hx⟩ := hat
        cases e2
        obtain ⟨b, o, rfl, hB, hx⟩ := hx (by rintro rfl; cases hlk)
        obtain ⟨c0, c1, c2, c3, c4, ⟨sv, c5, hsv, -⟩, c6⟩ := hx k hlk
        have hst : agCheckE l = if oneE (l.take k) l[k] ≠ 0 then oneE (l.take k) l[k] else agsE (l.take (k + 1)) (l.drop (k + 1)) := by
          rw [he, List.drop_eq_getElem_cons hlk, agsE_one, List.take_succ_eq_append_getElem hlk]
        have hk0 : (0 : Int) ≤ (k : Int) := Int.natCast_nonneg _
        have hk1 : (k : Int) < (l.length : Int) := by omega
        have hk2 : (k : Int) ≤ (l.length : Int) := by omega
        have hk3 : k ≤ cap := by omega
        have hk4 : (k : Int) ≤ (cap : Int) := by omega
        clear hx he
        obtain ⟨a, ha⟩ : ∃ a, a = l[k] := ⟨_, rfl⟩
        rw [← ha] at c0 c1 c2 c3 c4 hsv c6 hst
        clear ha
        have Hst := Lib.hid hst
        have Hsv := Lib.hid hsv
        obtain ⟨az, cz, rfl, -, -⟩ := hsv
        have Dd := Lib.hid (And.intro c0 (And.intro c1 (And.intro c2 (And.intro c3 (And.intro c4 (And.intro c5 c6))))))
        have Mk := Lib.hid (show ∀ w' : World, Below wr.heap.size wr w' → Below wr.heap.size wr w' ∧ w'.cell? ⟨b, o + k * 7, none⟩ = some (.int .i64 a.pa) ∧ w'.cell? ⟨b, o + k * 7 + 1, none⟩ = some (.int .i64 a.kd) ∧ w'.cell? ⟨b, o + k * 7 + 2, none⟩ = some (.bool a.ib) ∧ w'.cell? ⟨b, o + k * 7 + 3, none⟩ = some (.int .i64 a.fr) ∧ w'.cell? ⟨b, o + k * 7 + 4, none⟩ = some (.int .i64 a.tt) ∧ w'.cell? ⟨b, o + k * 7 + 5, none⟩ = some (.slice az a.st.length cz) ∧ w'.cell? ⟨b, o + k * 7 + 6, none⟩ = some (.int .i64 a.cap) from fun w' hw => by
          obtain ⟨d0, d1, d2, d3, d4, d5, d6⟩ := Dd.out
          exact ⟨hw, (hw.cell (p := ⟨b, o + k * 7, none⟩) hB).trans d0, (hw.cell (p := ⟨b, o + k * 7 + 1, none⟩) hB).trans d1, (hw.cell (p := ⟨b, o + k * 7 + 2, none⟩) hB).trans d2, (hw.cell (p := ⟨b, o + k * 7 + 3, none⟩) hB).trans d3, (hw.cell (p := ⟨b, o + k * 7 + 4, none⟩) hB).trans d4, (hw.cell (p := ⟨b, o + k * 7 + 5, none⟩) hB).trans d5, (hw.cell (p := ⟨b, o + k * 7 + 6, none⟩) hB).trans d6⟩)
        have Ho := Lib.hid (fun w1 (hw : Below wr.heap.size wr w1) => one50_calls (l.take k) a _ _ w1 (HPre.out.below hw) (Hsv.out.below hw))
        unfold agVal at Ho
        clear hst c0 c1 c2 c3 c4 c5 c6
        generalize oneE (l.take k) a = oe at *
        go_wp2_with fail
        go_region_held3 (fun w' : World => Below wr.heap.size wr w' ∧ w'.cell? ⟨b, o + k * 7, none⟩ = some (.int .i64 a.pa) ∧ w'.cell? ⟨b, o + k * 7 + 1, none⟩ = some (.int .i64 a.kd) ∧ w'.cell? ⟨b, o + k * 7 + 2, none⟩ = some (.bool a.ib) ∧ w'.cell? ⟨b, o + k * 7 + 3, none⟩ = some (.int .i64 a.fr) ∧ w'.cell? ⟨b, o + k * 7 + 4, none⟩ = some (.int .i64 a.tt) ∧ w'.cell? ⟨b, o + k * 7 + 5, none⟩ = some (.slice az a.st.length cz) ∧ w'.cell? ⟨b, o + k * 7 + 6, none⟩ = some (.int .i64 a.cap))
          (first
            | exact Mk.out _ (by assumption)
            | exact Mk.out _ (Below.refl _ _).drew)
          (first
            | (go_at_call 50
               refine (Ho.out _ (And.left (by assumption))).mono ?_
               rintro e w8 ⟨rfl, hb8⟩
               have hY8 : Below wr.heap.size wr w8 := Below.trans (And.left (by assumption)) (hb8.mono (Below.size (And.left (by assumption))))
               clear hb8))
        clear Mk Ho
        by_cases hz : oe = 0
        · have HE := Lib.hid (show agCheckE l = agsE (l.take (k + 1)) (l.drop (k + 1)) by rw [Hst.out, if_neg (not_not_intro hz)])
          subst hz
          go_wp2
          exact ⟨⟨k + 1, by omega, by go_num, HE.out, hb.trans (hY8.mono hbz)⟩, by simp [intOf]; omega⟩
        · have HE := Lib.hid (show agCheckE l = oe by rw [Hst.out, if_pos hz])
          have hzn : (oe != 0) = true := by rw [bne_iff_ne]; exact hz
          clear hz
          go_wp2
          go_ret
          exact ⟨ret_int HE.out.symm, hb.trans (hY8.mono hbz)⟩
      · have HE := Lib.hid (show agCheckE l = 0 by rw [he, agsE_end l _ k (by omega)])
        clear he
        go_wp2
        go_ret
        exact ⟨ret_int HE.out.symm, hb⟩
end Go.Proofs.YtohmdohbmmbbkaaDoor
