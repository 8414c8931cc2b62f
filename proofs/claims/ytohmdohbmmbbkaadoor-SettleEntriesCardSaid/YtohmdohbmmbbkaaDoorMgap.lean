/-
  The walks of the first error of one agreement, of what it is about, and of what two periods have in common.
  The plain law of lists of agreements: their first error, and the first that fits.
-/
import Derived.Test.YtohmdohbmmbbkaaDoorMgao
import Derived.Test.YtohmdohbmmbbkaaDoorMgaf
namespace Go.Proofs.YtohmdohbmmbbkaaDoor
open Go.RowKit

set_option maxRecDepth 100000 in
set_option maxHeartbeats 800000 in
theorem of_calls (a : Ag) (v : Value) (w : World) (h : StepsAt w v a.st) : Calls Tryd.prog 43 #[agVal a v] w fun e w' => e = .returned (.agg #[.int .i64 a.pa, .int .i64 a.kd, .bool a.ib]) ∧ Below w.heap.size w w' := by
  obtain ⟨av, cap, rfl, -, -⟩ := h
  unfold agVal
  go_enter Tryd.func43, Tryd.ntmps43
  go_wp2
  exact bodyPost_ret (v := .agg #[.int .i64 a.pa, .int .i64 a.kd, .bool a.ib]) (by simp [results, Tryd.results43, go_sem]) rfl ⟨rfl, by go_grown⟩

/-- The first error of an agreement alone. -/
def faultE (a : Ag) : Int :=
  if a.pa < 1 ∨ 999 < a.pa then 6 else if a.kd < 1 ∨ 5 ≤ a.kd then 7 else if validB a.fr a.tt = false then 15 else if errL a.st ≠ 0 then errL a.st else if a.cap < 0 ∨ 1125899906842624 < a.cap then 6 else 0

set_option maxRecDepth 100000 in
set_option maxHeartbeats 1600000 in
theorem fault_calls (a : Ag) (v : Value) (w : World) (h : StepsAt w v a.st) : Calls Tryd.prog 41 #[agVal a v] w fun e w' => e = .returned (.int .i64 (faultE a)) ∧ Below w.heap.size w w' := by
  have hv := h
  obtain ⟨av, cap, rfl, hm, -⟩ := h
  obtain ⟨W, hW⟩ : ∃ W, W = w.alloc (Obj.cells #[.int .i64 a.pa, .int .i64 a.kd, .bool a.ib, .int .i64 a.fr, .int .i64 a.tt, .slice av a.st.length cap, .int .i64 a.cap] 53) := ⟨_, rfl⟩
  have hw0 : Below w.heap.size w W := by rw [hW]; go_grown
  have hz : W.heap.size = w.heap.size + 1 := by rw [hW]; simp
  have r2 : W.heap[w.heap.size]? = some (Obj.cells #[.int .i64 a.pa, .int .i64 a.kd, .bool a.ib, .int .i64 a.fr, .int .i64 a.tt, .slice av a.st.length cap, .int .i64 a.cap] 53) := by rw [hW]; exact heap_alloc_new _ _
  have HW := Lib.hid hW
  have hz2 : w.heap.size < W.heap.size := by omega
  have Hr := Lib.hid r2
  have HvW := Lib.hid (hv.below hw0)
  have H1 := Lib.hid (valid_calls a.fr a.tt W)
  have H2 := Lib.hid (fun w1 (hb : Below W.heap.size W w1) => steps_calls (.slice av a.st.length cap) a.st w1 (HvW.out.below hb))
  have hF : faultE a = if a.pa < 1 ∨ 999 < a.pa then 6 else if a.kd < 1 ∨ 5 ≤ a.kd then 7 else if validB a.fr a.tt = false then 15 else if errL a.st ≠ 0 then errL a.st else if a.cap < 0 ∨ 1125899906842624 < a.cap then 6 else 0 := rfl
  clear hW r2 hz hv
  unfold agVal
  by_cases h1 : a.pa < 1
  · have k1 : decide (a.pa < 1) = true := decide_eq_true h1
    have HE := Lib.hid (show faultE a = 6 by rw [hF, if_pos (Or.inl h1)])
    clear hF H1 H2
    go_enter Tryd.func41, Tryd.ntmps41
    go_wp2
    go_ret
    exact ⟨ret_int HE.out.symm, by go_grown⟩
  · have k1 : decide (a.pa < 1) = false := decide_eq_false h1
    by_cases h2 : 999 < a.pa
    · have k2 : decide (999 < a.pa) = true := decide_eq_true h2
      have HE := Lib.hid (show faultE a = 6 by rw [hF, if_pos (Or.inr h2)])
      clear hF H1 H2
      go_enter Tryd.func41, Tryd.ntmps41
      go_wp2
      go_ret
      exact ⟨ret_int HE.out.symm, by go_grown⟩
    · have k2 : decide (999 < a.pa) = false := decide_eq_false h2
      rw [if_neg (by omega)] at hF
      by_cases h3 : a.kd < 1
      · have k3 : decide (a.kd < 1) = true := decide_eq_true h3
        have HE := Lib.hid (show faultE a = 7 by rw [hF, if_pos (Or.inl h3)])
        clear hF H1 H2
        go_enter Tryd.func41, Tryd.ntmps41
        go_wp2
        go_ret
        exact ⟨ret_int HE.out.symm, by go_grown⟩
      · have k3 : decide (a.kd < 1) = false := decide_eq_false h3
        by_cases h4 : 5 ≤ a.kd
        · have k4 : decide (5 ≤ a.kd) = true := decide_eq_true h4
          have HE := Lib.hid (show faultE a = 7 by rw [hF, if_pos (Or.inr h4)])
          clear hF H1 H2
          go_enter Tryd.func41, Tryd.ntmps41
          go_wp2
          go_ret
          exact ⟨ret_int HE.out.symm, by go_grown⟩
        · have k4 : decide (5 ≤ a.kd) = false := decide_eq_false h4
          rw [if_neg (by omega)] at hF
          cases hv : validB a.fr a.tt with
          | false =>
            rw [hv] at H1
            have HE := Lib.hid (show faultE a = 15 by rw [hF, if_pos hv])
            clear hF hv H2
            go_enter Tryd.func41, Tryd.ntmps41
            go_wp2_with fail
            rw [← HW.out]
            refine H1.out.mono ?_
            rintro e w1 ⟨rfl, hb1⟩
            have hb2 := hw0.trans (hb1.mono hw0.size)
            go_wp2
            go_ret
            exact ⟨ret_int HE.out.symm, hb2⟩
          | true =>
            rw [hv] at H1
            rw [if_neg (by rw [hv]; decide)] at hF
            clear hv
            by_cases he : errL a.st = 0
            · rw [he] at H2 hF
              rw [if_neg (by decide)] at hF
              clear he
              by_cases h5 : a.cap < 0
              · have k5 : decide (a.cap < 0) = true := decide_eq_true h5
                have HE := Lib.hid (show faultE a = 6 by rw [hF, if_pos (Or.inl h5)])
                clear hF
                go_enter Tryd.func41, Tryd.ntmps41
                go_wp2_with fail
                rw [← HW.out]
                refine H1.out.mono ?_
                rintro e w1 ⟨rfl, hb1⟩
                have hb2 := hw0.trans (hb1.mono hw0.size)
                have m := (hb1.block _ hz2).trans Hr.out
                have g0 : w1.cell? ⟨w.heap.size, 0, none⟩ = some (.int .i64 a.pa) := cell_of_row w1 _ 0 _ _ _ m
                have g1 : w1.cell? ⟨w.heap.size, 1, none⟩ = some (.int .i64 a.kd) := cell_of_row w1 _ 1 _ _ _ m
                have g2 : w1.cell? ⟨w.heap.size, 2, none⟩ = some (.bool a.ib) := cell_of_row w1 _ 2 _ _ _ m
                have g3 : w1.cell? ⟨w.heap.size, 3, none⟩ = some (.int .i64 a.fr) := cell_of_row w1 _ 3 _ _ _ m
                have g4 : w1.cell? ⟨w.heap.size, 4, none⟩ = some (.int .i64 a.tt) := cell_of_row w1 _ 4 _ _ _ m
                have g5 : w1.cell? ⟨w.heap.size, 5, none⟩ = some (.slice av a.st.length cap) := cell_of_row w1 _ 5 _ _ _ m
                have g6 : w1.cell? ⟨w.heap.size, 6, none⟩ = some (.int .i64 a.cap) := cell_of_row w1 _ 6 _ _ _ m
                clear m
                go_wp2_with fail
                refine (H2.out w1 hb1).mono ?_
                rintro e w2 ⟨rfl, hbs⟩
                have hb3 := hb1.trans (hbs.mono hb1.size)
                have hb4 := hw0.trans (hb3.mono hw0.size)
                clear g0 g1 g2 g3 g4 g5 g6
                have m := (hb3.block _ hz2).trans Hr.out
                have g0 : w2.cell? ⟨w.heap.size, 0, none⟩ = some (.int .i64 a.pa) := cell_of_row w2 _ 0 _ _ _ m
                have g1 : w2.cell? ⟨w.heap.size, 1, none⟩ = some (.int .i64 a.kd) := cell_of_row w2 _ 1 _ _ _ m
                have g2 : w2.cell? ⟨w.heap.size, 2, none⟩ = some (.bool a.ib) := cell_of_row w2 _ 2 _ _ _ m
                have g3 : w2.cell? ⟨w.heap.size, 3, none⟩ = some (.int .i64 a.fr) := cell_of_row w2 _ 3 _ _ _ m
                have g4 : w2.cell? ⟨w.heap.size, 4, none⟩ = some (.int .i64 a.tt) := cell_of_row w2 _ 4 _ _ _ m
                have g5 : w2.cell? ⟨w.heap.size, 5, none⟩ = some (.slice av a.st.length cap) := cell_of_row w2 _ 5 _ _ _ m
                have g6 : w2.cell? ⟨w.heap.size, 6, none⟩ = some (.int .i64 a.cap) := cell_of_row w2 _ 6 _ _ _ m
                clear m
                go_wp2
                go_ret
                exact ⟨ret_int HE.out.symm, hb4⟩
              · have k5 : decide (a.cap < 0) = false := decide_eq_false h5
                by_cases h6 : 1125899906842624 < a.cap
                · have k6 : decide (1125899906842624 < a.cap) = true := decide_eq_true h6
                  have HE := Lib.hid (show faultE a = 6 by rw [hF, if_pos (Or.inr h6)])
                  clear hF
                  go_enter Tryd.func41, Tryd.ntmps41
                  go_wp2_with fail
                  rw [← HW.out]
                  refine H1.out.mono ?_
                  rintro e w1 ⟨rfl, hb1⟩
                  have hb2 := hw0.trans (hb1.mono hw0.size)
                  have m := (hb1.block _ hz2).trans Hr.out
                  have g0 : w1.cell? ⟨w.heap.size, 0, none⟩ = some (.int .i64 a.pa) := cell_of_row w1 _ 0 _ _ _ m
                  have g1 : w1.cell? ⟨w.heap.size, 1, none⟩ = some (.int .i64 a.kd) := cell_of_row w1 _ 1 _ _ _ m
                  have g2 : w1.cell? ⟨w.heap.size, 2, none⟩ = some (.bool a.ib) := cell_of_row w1 _ 2 _ _ _ m
                  have g3 : w1.cell? ⟨w.heap.size, 3, none⟩ = some (.int .i64 a.fr) := cell_of_row w1 _ 3 _ _ _ m
                  have g4 : w1.cell? ⟨w.heap.size, 4, none⟩ = some (.int .i64 a.tt) := cell_of_row w1 _ 4 _ _ _ m
                  have g5 : w1.cell? ⟨w.heap.size, 5, none⟩ = some (.slice av a.st.length cap) := cell_of_row w1 _ 5 _ _ _ m
                  have g6 : w1.cell? ⟨w.heap.size, 6, none⟩ = some (.int .i64 a.cap) := cell_of_row w1 _ 6 _ _ _ m
                  clear m
                  go_wp2_with fail
                  refine (H2.out w1 hb1).mono ?_
                  rintro e w2 ⟨rfl, hbs⟩
                  have hb3 := hb1.trans (hbs.mono hb1.size)
                  have hb4 := hw0.trans (hb3.mono hw0.size)
                  clear g0 g1 g2 g3 g4 g5 g6
                  have m := (hb3.block _ hz2).trans Hr.out
                  have g0 : w2.cell? ⟨w.heap.size, 0, none⟩ = some (.int .i64 a.pa) := cell_of_row w2 _ 0 _ _ _ m
                  have g1 : w2.cell? ⟨w.heap.size, 1, none⟩ = some (.int .i64 a.kd) := cell_of_row w2 _ 1 _ _ _ m
                  have g2 : w2.cell? ⟨w.heap.size, 2, none⟩ = some (.bool a.ib) := cell_of_row w2 _ 2 _ _ _ m
                  have g3 : w2.cell? ⟨w.heap.size, 3, none⟩ = some (.int .i64 a.fr) := cell_of_row w2 _ 3 _ _ _ m
                  have g4 : w2.cell? ⟨w.heap.size, 4, none⟩ = some (.int .i64 a.tt) := cell_of_row w2 _ 4 _ _ _ m
                  have g5 : w2.cell? ⟨w.heap.size, 5, none⟩ = some (.slice av a.st.length cap) := cell_of_row w2 _ 5 _ _ _ m
                  have g6 : w2.cell? ⟨w.heap.size, 6, none⟩ = some (.int .i64 a.cap) := cell_of_row w2 _ 6 _ _ _ m
                  clear m
                  go_wp2
                  go_ret
                  exact ⟨ret_int HE.out.symm, hb4⟩
                · have k6 : decide (1125899906842624 < a.cap) = false := decide_eq_false h6
                  have HE := Lib.hid (show faultE a = 0 by rw [hF, if_neg (by omega)])
                  clear hF
                  go_enter Tryd.func41, Tryd.ntmps41
                  go_wp2_with fail
                  rw [← HW.out]
                  refine H1.out.mono ?_
                  rintro e w1 ⟨rfl, hb1⟩
                  have hb2 := hw0.trans (hb1.mono hw0.size)
                  have m := (hb1.block _ hz2).trans Hr.out
                  have g0 : w1.cell? ⟨w.heap.size, 0, none⟩ = some (.int .i64 a.pa) := cell_of_row w1 _ 0 _ _ _ m
                  have g1 : w1.cell? ⟨w.heap.size, 1, none⟩ = some (.int .i64 a.kd) := cell_of_row w1 _ 1 _ _ _ m
                  have g2 : w1.cell? ⟨w.heap.size, 2, none⟩ = some (.bool a.ib) := cell_of_row w1 _ 2 _ _ _ m
                  have g3 : w1.cell? ⟨w.heap.size, 3, none⟩ = some (.int .i64 a.fr) := cell_of_row w1 _ 3 _ _ _ m
                  have g4 : w1.cell? ⟨w.heap.size, 4, none⟩ = some (.int .i64 a.tt) := cell_of_row w1 _ 4 _ _ _ m
                  have g5 : w1.cell? ⟨w.heap.size, 5, none⟩ = some (.slice av a.st.length cap) := cell_of_row w1 _ 5 _ _ _ m
                  have g6 : w1.cell? ⟨w.heap.size, 6, none⟩ = some (.int .i64 a.cap) := cell_of_row w1 _ 6 _ _ _ m
                  clear m
                  go_wp2_with fail
                  refine (H2.out w1 hb1).mono ?_
                  rintro e w2 ⟨rfl, hbs⟩
                  have hb3 := hb1.trans (hbs.mono hb1.size)
                  have hb4 := hw0.trans (hb3.mono hw0.size)
                  clear g0 g1 g2 g3 g4 g5 g6
                  have m := (hb3.block _ hz2).trans Hr.out
                  have g0 : w2.cell? ⟨w.heap.size, 0, none⟩ = some (.int .i64 a.pa) := cell_of_row w2 _ 0 _ _ _ m
                  have g1 : w2.cell? ⟨w.heap.size, 1, none⟩ = some (.int .i64 a.kd) := cell_of_row w2 _ 1 _ _ _ m
                  have g2 : w2.cell? ⟨w.heap.size, 2, none⟩ = some (.bool a.ib) := cell_of_row w2 _ 2 _ _ _ m
                  have g3 : w2.cell? ⟨w.heap.size, 3, none⟩ = some (.int .i64 a.fr) := cell_of_row w2 _ 3 _ _ _ m
                  have g4 : w2.cell? ⟨w.heap.size, 4, none⟩ = some (.int .i64 a.tt) := cell_of_row w2 _ 4 _ _ _ m
                  have g5 : w2.cell? ⟨w.heap.size, 5, none⟩ = some (.slice av a.st.length cap) := cell_of_row w2 _ 5 _ _ _ m
                  have g6 : w2.cell? ⟨w.heap.size, 6, none⟩ = some (.int .i64 a.cap) := cell_of_row w2 _ 6 _ _ _ m
                  clear m
                  go_wp2
                  go_ret
                  exact ⟨ret_int HE.out.symm, hb4⟩
            · have HE := Lib.hid (show faultE a = errL a.st by rw [hF, if_pos he])
              generalize errL a.st = er at *
              have hen : (er != 0) = true := by rw [bne_iff_ne]; exact he
              clear hF he
              go_enter Tryd.func41, Tryd.ntmps41
              go_wp2_with fail
              rw [← HW.out]
              refine H1.out.mono ?_
              rintro e w1 ⟨rfl, hb1⟩
              have hb2 := hw0.trans (hb1.mono hw0.size)
              have m := (hb1.block _ hz2).trans Hr.out
              have g0 : w1.cell? ⟨w.heap.size, 0, none⟩ = some (.int .i64 a.pa) := cell_of_row w1 _ 0 _ _ _ m
              have g1 : w1.cell? ⟨w.heap.size, 1, none⟩ = some (.int .i64 a.kd) := cell_of_row w1 _ 1 _ _ _ m
              have g2 : w1.cell? ⟨w.heap.size, 2, none⟩ = some (.bool a.ib) := cell_of_row w1 _ 2 _ _ _ m
              have g3 : w1.cell? ⟨w.heap.size, 3, none⟩ = some (.int .i64 a.fr) := cell_of_row w1 _ 3 _ _ _ m
              have g4 : w1.cell? ⟨w.heap.size, 4, none⟩ = some (.int .i64 a.tt) := cell_of_row w1 _ 4 _ _ _ m
              have g5 : w1.cell? ⟨w.heap.size, 5, none⟩ = some (.slice av a.st.length cap) := cell_of_row w1 _ 5 _ _ _ m
              have g6 : w1.cell? ⟨w.heap.size, 6, none⟩ = some (.int .i64 a.cap) := cell_of_row w1 _ 6 _ _ _ m
              clear m
              go_wp2_with fail
              refine (H2.out w1 hb1).mono ?_
              rintro e w2 ⟨rfl, hbs⟩
              have hb3 := hb1.trans (hbs.mono hb1.size)
              have hb4 := hw0.trans (hb3.mono hw0.size)
              clear g0 g1 g2 g3 g4 g5 g6
              have m := (hb3.block _ hz2).trans Hr.out
              have g0 : w2.cell? ⟨w.heap.size, 0, none⟩ = some (.int .i64 a.pa) := cell_of_row w2 _ 0 _ _ _ m
              have g1 : w2.cell? ⟨w.heap.size, 1, none⟩ = some (.int .i64 a.kd) := cell_of_row w2 _ 1 _ _ _ m
              have g2 : w2.cell? ⟨w.heap.size, 2, none⟩ = some (.bool a.ib) := cell_of_row w2 _ 2 _ _ _ m
              have g3 : w2.cell? ⟨w.heap.size, 3, none⟩ = some (.int .i64 a.fr) := cell_of_row w2 _ 3 _ _ _ m
              have g4 : w2.cell? ⟨w.heap.size, 4, none⟩ = some (.int .i64 a.tt) := cell_of_row w2 _ 4 _ _ _ m
              have g5 : w2.cell? ⟨w.heap.size, 5, none⟩ = some (.slice av a.st.length cap) := cell_of_row w2 _ 5 _ _ _ m
              have g6 : w2.cell? ⟨w.heap.size, 6, none⟩ = some (.int .i64 a.cap) := cell_of_row w2 _ 6 _ _ _ m
              clear m
              go_wp2
              go_ret
              exact ⟨ret_int HE.out.symm, hb4⟩
end Go.Proofs.YtohmdohbmmbbkaaDoor

namespace Go.Proofs.YtohmdohbmmbbkaaDoor
open Go.RowKit

/-- Are two agreements about the same? -/
def sameB (a b : Ag) : Bool := decide (a.pa = b.pa) && decide (a.kd = b.kd) && decide (a.ib = b.ib)
/-- Does an agreement meet another about the same? -/
def meets (a b : Ag) : Bool := meetB a.fr a.tt b.fr b.tt && sameB a b

/-- The first error of agreements behind others. -/
def agsE : List Ag → List Ag → Int
  | _, [] => 0
  | L, a :: r => if faultE a ≠ 0 then faultE a else if L.any (meets a) = true then 10 else agsE (L ++ [a]) r
def agCheckE (l : List Ag) : Int := if 4096 < l.length then 5 else agsE [] l

theorem agsE_step (l : List Ag) (k : Nat) (h : k < l.length) : agsE (l.take k) (l.drop k) = if faultE l[k] ≠ 0 then faultE l[k] else if (l.take k).any (meets l[k]) = true then 10 else agsE (l.take (k + 1)) (l.drop (k + 1)) := by
  rw [List.drop_eq_getElem_cons h, agsE, List.take_succ_eq_append_getElem h]
theorem agsE_end (l L : List Ag) (k : Nat) (h : l.length ≤ k) : agsE L (l.drop k) = 0 := by
  rw [List.drop_of_length_le h]; rfl

/-- How many agreements are of a kind. -/
def cnt (L : List Ag) (j : Nat) : Nat := (L.filter fun b : Ag => decide (b.kd = (j : Int))).length
theorem cnt_snoc (l : List Ag) (k j : Nat) (h : k < l.length) : cnt (l.take (k + 1)) j = cnt (l.take k) j + if l[k].kd = (j : Int) then 1 else 0 := by
  unfold cnt
  rw [List.take_succ_eq_append_getElem h, List.filter_append, List.length_append]
  congr 1
  by_cases hk : l[k].kd = (j : Int) <;> simp [hk]
theorem cnt_le (L : List Ag) (j : Nat) : cnt L j ≤ L.length := List.length_filter_le _ _
theorem cnt_none {L : List Ag} {j : Nat} {a : Ag} (h : cnt L j = 0) (ha : a.kd = (j : Int)) : L.any (meets a) = false := by
  rw [List.any_eq_false]
  intro b hb hm
  unfold cnt at h
  have h0 := List.length_eq_zero_iff.1 h
  have : b ∈ L.filter fun b : Ag => decide (b.kd = (j : Int)) := by
    refine List.mem_filter.2 ⟨hb, ?_⟩
    unfold meets sameB at hm
    simp only [Bool.and_eq_true, decide_eq_true_eq] at hm
    simp only [decide_eq_true_eq]
    rw [← hm.2.1.2, ha]
  rw [h0] at this
  cases this
theorem faultE_kind {a : Ag} (h : faultE a = 0) : ∃ j : Nat, a.kd = (j : Int) ∧ 1 ≤ j ∧ j < 5 := by
  unfold faultE at h
  by_cases h1 : a.pa < 1 ∨ 999 < a.pa
  · rw [if_pos h1] at h; cases h
  · rw [if_neg h1] at h
    by_cases h2 : a.kd < 1 ∨ 5 ≤ a.kd
    · rw [if_pos h2] at h; cases h
    · exact ⟨a.kd.toNat, by omega, by omega, by omega⟩
theorem any_snoc {L : List Ag} {p : Ag → Bool} {j : Nat} (h : j < L.length) (h1 : (L.take j).any p = false) (h2 : p L[j] = false) : (L.take (j + 1)).any p = false := by
  rw [List.take_succ_eq_append_getElem h, List.any_append, h1]; simp [h2]
theorem any_at {L : List Ag} {p : Ag → Bool} {j k : Nat} (h : j < k) (hk : k ≤ L.length) (h2 : p (L[j]'(by omega)) = true) : (L.take k).any p = true := by
  refine List.any_eq_true.2 ⟨L[j]'(by omega), ?_, h2⟩
  rw [List.mem_take_iff_getElem]
  exact ⟨j, by omega, rfl⟩
theorem meets_no {a b : Ag} (h : meetB a.fr a.tt b.fr b.tt = false) : meets a b = false := by unfold meets; rw [h]; rfl
theorem meets_pa {a b : Ag} (h : a.pa ≠ b.pa) : meets a b = false := by unfold meets sameB; rw [decide_eq_false h]; simp
theorem meets_kd {a b : Ag} (h : a.kd ≠ b.kd) : meets a b = false := by unfold meets sameB; rw [decide_eq_false h]; simp
theorem meets_ib {a b : Ag} (h : a.ib ≠ b.ib) : meets a b = false := by unfold meets sameB; rw [decide_eq_false h]; simp
theorem meets_yes {a b : Ag} (h : meetB a.fr a.tt b.fr b.tt = true) (h1 : a.pa = b.pa) (h2 : a.kd = b.kd) (h3 : a.ib = b.ib) : meets a b = true := by unfold meets sameB; rw [h]; simp [h1, h2, h3]
end Go.Proofs.YtohmdohbmmbbkaaDoor
