/-
  The walks of the calendar: the date of a day, the month of an instant, its cycle, the cycles of a period.
-/
import Derived.Test.YtngippiilgdnoaaGreatMgaw
import Derived.Test.YtngippiilgdnoaaGreatMgam
import Derived.Laws.Tables
namespace Go.Proofs.YtngippiilgdnoaaGreat
open Go.RowKit

theorem pers_of_rec {w : World} {v : Value} {l : List (Int × Int)} (h : RecAt perCells 2 w v l) : PersAt w v l := by
  obtain ⟨av, cap, rfl, h1, h2, h3⟩ := h
  refine ⟨av, cap, rfl, h1, h2, fun hne => ?_⟩
  obtain ⟨b, o, rfl, hB, hx⟩ := h3 hne
  exact ⟨b, o, rfl, hB, fun i hi => ⟨hx i hi 0 (by decide), hx i hi 1 (by decide)⟩⟩
theorem rec_of_pers {w : World} {v : Value} {l : List (Int × Int)} (h : PersAt w v l) : RecAt perCells 2 w v l := by
  obtain ⟨av, cap, rfl, h1, h2, h3⟩ := h
  refine ⟨av, cap, rfl, h1, h2, fun hne => ?_⟩
  obtain ⟨b, o, rfl, hB, hx⟩ := h3 hne
  refine ⟨b, o, rfl, hB, fun i hi j hj => ?_⟩
  obtain ⟨x0, x1⟩ := hx i hi
  match j, hj with
  | 0, _ => exact x0
  | 1, _ => exact x1
theorem row_set {w : World} {g i : Nat} {cs : Array Value} {t : TypeId} {fr : Nat × Nat} (v : Value) (hg : w.heap[g]? = some (.cells cs t fr)) : (w.setCell ⟨g, i, none⟩ v).heap[g]? = some (.cells (cs.setIfInBounds i v) t fr) := by
  rw [setCell_eq_setRow w g i cs t fr v hg]
  exact setRow_heap w g cs _ t fr hg
theorem row_other {w : World} {g k i : Nat} {v : Value} {o : Obj} (hk : w.heap[k]? = some o) (h : k ≠ g) : (w.setCell ⟨g, i, none⟩ v).heap[k]? = some o :=
  (Below.heap_setCell _ _ _ _ h).trans hk

/-- The date of a day. -/
def DateTo (day : Int) (w : World) (e : Ending) (w' : World) : Prop := ∃ mm : Int, 0 ≤ mm ∧ mm ≤ 4799 ∧ dm mm ≤ day ∧ day < dm (mm + 1) ∧ e = .returned (.agg #[.int .i64 (2000 + mm / 12), .int .i64 (mm % 12 + 1), .int .i64 (day - dm mm + 1)]) ∧ Below w.heap.size w w'
theorem date_to {day y m : Int} {w w' : World} (hy0 : 2000 ≤ y) (hy : y ≤ 2399) (hm1 : 1 ≤ m) (hm2 : m ≤ 12) (h0 : 0 ≤ day - bef y - cum y m) (h1 : day - bef y - cum y m < lenM y m) (hb : Below w.heap.size w w') : DateTo day w (.returned (.agg #[.int .i64 y, .int .i64 m, .int .i64 (day - bef y - cum y m + 1)])) w' := by
  have e1 : (12 * (y - 2000) + m - 1) / 12 = y - 2000 := by omega
  have e2 : (12 * (y - 2000) + m - 1) % 12 = m - 1 := by omega
  have hd : dm (12 * (y - 2000) + m - 1) = bef y + cum y m := by unfold dm; rw [e1, e2, show 2000 + (y - 2000) = y by omega, show m - 1 + 1 = m by omega]
  have hs := dm_succ (12 * (y - 2000) + m - 1) (by omega)
  rw [e1, e2, show 2000 + (y - 2000) = y by omega, show m - 1 + 1 = m by omega] at hs
  refine ⟨12 * (y - 2000) + m - 1, by omega, by omega, by omega, by omega, ?_, hb⟩
  rw [e1, e2, hd, show 2000 + (y - 2000) = y by omega, show m - 1 + 1 = m by omega, show day - (bef y + cum y m) + 1 = day - bef y - cum y m + 1 by omega]

set_option maxRecDepth 100000 in
set_option maxHeartbeats 6400000 in
theorem date_calls (day : Int) (w : World) (h0 : 0 ≤ day) (h1 : day < 146097) : Calls Tryz.prog 143 #[.int .i64 day] w (DateTo day w) := by
  have HB := Lib.hid (fun y w h h' => before_calls y w h h')
  have HD := Lib.hid (fun y m w h h1 h2 => days_calls y m w h h1 h2)
  have HE := Lib.hid (fun y m w w' => @date_to day y m w w')
  have hg := bef_bd (2000 + day / 366) (by omega)
  have hg2 : bef (2000 + day / 366) ≤ day := by omega
  have HG := Lib.hid hg2
  have H24 := Lib.hid (show bef 2400 = 146097 by decide)
  obtain ⟨A, hA⟩ : ∃ A, A = w.alloc (Obj.cells #[Value.int .i64 0, .int .i64 0, .int .i64 0] 201) := ⟨_, rfl⟩
  have rA : A.heap[w.heap.size]? = some (Obj.cells #[Value.int .i64 0, .int .i64 0, .int .i64 0] 201) := by rw [hA]; exact heap_alloc_new _ _
  have hzA : A.heap.size = w.heap.size + 1 := by rw [hA]; simp
  have hbA : Below w.heap.size w A := by rw [hA]; go_grown
  obtain ⟨B, hB⟩ : ∃ B, B = A.alloc (Obj.cells #[Value.int .i64 (2000 + day / 366), .int .i64 1, .int .i64 0] 201) := ⟨_, rfl⟩
  have hbB : Below A.heap.size A B := by rw [hB]; go_grown
  have rB0 := (hbB.block w.heap.size (by omega)).trans rA
  have hAw : w.heap.size < A.heap.size := by omega
  have rB1 : B.heap[A.heap.size]? = some (Obj.cells #[Value.int .i64 (2000 + day / 366), .int .i64 1, .int .i64 0] 201) := by rw [hB]; exact heap_alloc_new _ _
  have hwB := hbA.trans (hbB.mono hbA.size)
  have HA := Lib.hid hA
  have HBw := Lib.hid hB
  have HR0 := Lib.hid rB0
  have HR1 := Lib.hid rB1
  have HwB := Lib.hid hwB
  clear hg hg2 hA rA hzA hbA hB hbB rB0 rB1 hwB
  go_enter Tryz.func143, Tryz.ntmps143
  go_upto_region 3 with (fail)
  rw [← HA.out]
  go_wp2_with fail
  rw [← HBw.out]
  go_loopg [20] 399 (fun g _ wx => ∃ y : Int, 2000 ≤ y ∧ y ≤ 2399 ∧ 2399 ≤ y + g ∧ bef y ≤ day ∧ wx.heap[w.heap.size]? = some (Obj.cells #[Value.int .i64 0, .int .i64 0, .int .i64 0] 201) ∧ wx.heap[A.heap.size]? = some (Obj.cells #[Value.int .i64 y, .int .i64 1, .int .i64 0] 201) ∧ Below w.heap.size w wx)
  case atStart => exact ⟨2000 + day / 366, by omega, by omega, by omega, HG.out, HR0.out, HR1.out, HwB.out⟩
  case round =>
    obtain ⟨wo, rfl⟩ : ∃ wo : World, wo = wr := ⟨_, rfl⟩
    obtain ⟨y, hy0, hy1, hyg, hyb, hr, hd, hb⟩ := hrel
    have HBy := Lib.hid (HB.out (y + 1) wo (by omega) (by omega))
    have hlt : A.heap.size < wo.heap.size := (Array.getElem?_eq_some_iff.1 hd).1
    have d0 := cell_of_row wo _ 0 _ _ _ hd
    have d1 := cell_of_row wo _ 1 _ _ _ hd
    have f0 := frozen_of_row wo _ 0 _ _ hd
    have Hr := Lib.hid hr
    have Hd := Lib.hid hd
    have Hb := Lib.hid hb
    by_cases hc : bef (y + 1) ≤ day
    · have hy2 : y + 1 ≤ 2399 := by
        refine Classical.byContradiction fun hn => ?_
        rw [show y + 1 = 2400 by omega, H24.out] at hc
        omega
      cases gk with
      | zero => omega
      | succ gk =>
        have Hhc := Lib.hid hc
        obtain ⟨b1, hb1⟩ : ∃ b1, b1 = bef (y + 1) := ⟨_, rfl⟩
        rw [← hb1] at HBy hc
        clear hr hd hb hyb hb1
        go_wp2_with fail
        refine HBy.out.mono ?_
        rintro e w1 ⟨rfl, rfl⟩
        go_wp2_with fail
        go_roundg gk
        case measure => omega
        case rel => exact ⟨y + 1, by omega, hy2, by omega, Hhc.out, row_other Hr.out (by omega), row_set _ Hd.out, Hb.out.setCell (Nat.le_of_lt hAw) _⟩
    · have Hby := Lib.hid (HB.out y wo (by omega) (by omega))
      have HS := Lib.hid (bef_succ y hy0)
      have hbb := bef_bd y hy0
      have Hyb := Lib.hid hyb
      have Hc := Lib.hid hc
      have hlp := lp_bd y
      generalize bef (y + 1) = b1 at *
      obtain ⟨b0, hb0⟩ : ∃ b0, b0 = bef y := ⟨_, rfl⟩
      rw [← hb0] at Hby HS hbb Hyb
      have Hb0 := Lib.hid hb0
      clear hr hd hb hyb hb0
      have hyb := Hyb.out
      have k0 : decide (b1 ≤ day) = false := decide_eq_false hc
      go_wp2_with fail
      refine HBy.out.mono ?_
      rintro e w1 ⟨rfl, rfl⟩
      go_wp2_with fail
      refine Hby.out.mono ?_
      rintro e w1 ⟨rfl, rfl⟩
      go_wp2_with fail
      go_loopg [0] 12 (fun g r wx => ∃ m : Int, 1 ≤ m ∧ m ≤ 12 ∧ 12 ≤ m + g ∧ r = .int .i64 (day - b0 - cum y m) ∧ 0 ≤ day - b0 - cum y m ∧ wx.heap[w.heap.size]? = some (Obj.cells #[Value.int .i64 0, .int .i64 0, .int .i64 0] 201) ∧ wx.heap[A.heap.size]? = some (Obj.cells #[Value.int .i64 y, .int .i64 m, .int .i64 0] 201) ∧ Below w.heap.size w wx)
      case atStart => exact ⟨1, by omega, by omega, by omega, by simp [cum], by simp [cum]; omega, Hr.out, Hd.out, Hb.out⟩
      case round =>
        obtain ⟨wi, rfl⟩ : ∃ wi : World, wi = wr := ⟨_, rfl⟩
        obtain ⟨m, hm1, hm2, hmg, rfl, hrest, hr, hd, hb⟩ := hrel
        have HDm := Lib.hid (HD.out y m · (by omega) hm1 hm2)
        have HCs := Lib.hid (cum_succ y m hm1 hm2)
        have h13 := cum_13 y
        have hlt2 : A.heap.size < wi.heap.size := (Array.getElem?_eq_some_iff.1 hd).1
        have hll := lenM_bd y m
        have hcb := cum_bd y m
        have hm12 : m = 12 → day - b0 - cum y m < lenM y m := by
          rintro rfl
          have hq := HCs.out
          rw [show (12 : Int) + 1 = 13 by rfl] at hq
          have hS := HS.out
          omega
        have HE2 := Lib.hid (fun (w' : World) hl => HE.out y m w w' hy0 hy1 hm1 hm2 (by rw [← Hb0.out]; exact hrest) (by rw [← Hb0.out]; exact hl))
        rw [← Hb0.out] at HE2
        obtain ⟨ln, hln⟩ : ∃ ln, ln = lenM y m := ⟨_, rfl⟩
        obtain ⟨cu, hcu⟩ : ∃ cu, cu = cum y m := ⟨_, rfl⟩
        rw [← hln] at HDm HCs hll hm12 HE2
        rw [← hcu] at HCs hrest hcb hm12 HE2
        rw [← hcu]
        have d0 := cell_of_row wi _ 0 _ _ _ hd
        have d1 := cell_of_row wi _ 1 _ _ _ hd
        have f1 := frozen_of_row wi _ 1 _ _ hd
        have hlc : y = y := rfl
        clear hlc
        have Hr := Lib.hid hr
        have Hd := Lib.hid hd
        have Hb := Lib.hid hb
        have Hcu := Lib.hid hcu
        have Hm12 := Lib.hid hm12
        clear hr hb hln hcu h13 hm12 HS
        by_cases hc : ln ≤ day - b0 - cu
        · have hmlt : m < 12 := by
            refine Classical.byContradiction fun hn => ?_
            have := Hm12.out (by omega)
            omega
          cases gk with
          | zero => omega
          | succ gk =>
            clear hd
            go_wp2_with fail
            refine (HDm.out wi).mono ?_
            rintro e w1 ⟨rfl, hb1⟩
            have Hd1 := Lib.hid ((hb1.block _ hlt2).trans Hd.out)
            have Hr1 := Lib.hid ((hb1.block _ (by omega)).trans Hr.out)
            have Hbw := Lib.hid (Hb.out.trans (hb1.mono Hb.out.size))
            have hlt3 : A.heap.size < w1.heap.size := by have := hb1.size; omega
            have d0 := cell_of_row w1 _ 0 _ _ _ Hd1.out
            have d1 := cell_of_row w1 _ 1 _ _ _ Hd1.out
            clear hb1
            go_wp2_with fail
            refine (HDm.out w1).mono ?_
            rintro e w2 ⟨rfl, hb1⟩
            have Hd2 := Lib.hid ((hb1.block _ hlt3).trans Hd1.out)
            have Hr2 := Lib.hid ((hb1.block _ (by omega)).trans Hr1.out)
            have Hb2 := Lib.hid (Hbw.out.trans (hb1.mono Hbw.out.size))
            have d0 := cell_of_row w2 _ 0 _ _ _ Hd2.out
            have d1 := cell_of_row w2 _ 1 _ _ _ Hd2.out
            have f1 := frozen_of_row w2 _ 1 _ _ Hd2.out
            clear hb1
            go_wp2
            go_roundg gk
            case measure => omega
            case rel => exact ⟨m + 1, by omega, by omega, by omega, by rw [HCs.out]; simp only [Value.int.injEq, true_and]; omega, by rw [HCs.out]; omega, row_other Hr2.out (by omega), row_set _ Hd2.out, Hb2.out.setCell (Nat.le_of_lt hAw) _⟩
        · have HE3 := Lib.hid (fun w' => HE2.out w' (by omega))
          clear hd HE2
          go_wp2_with fail
          refine (HDm.out wi).mono ?_
          rintro e w1 ⟨rfl, hb1⟩
          have Hd1 := Lib.hid ((hb1.block _ hlt2).trans Hd.out)
          have Hr1 := Lib.hid ((hb1.block _ (by omega)).trans Hr.out)
          have Hbw := Lib.hid (Hb.out.trans (hb1.mono Hb.out.size))
          have hlt3 : A.heap.size < w1.heap.size := by have := hb1.size; omega
          have d0 := cell_of_row w1 _ 0 _ _ _ Hd1.out
          have d1 := cell_of_row w1 _ 1 _ _ _ Hd1.out
          have d2 := cell_of_row w1 _ 2 _ _ _ Hd1.out
          have f2 := frozen_of_row w1 _ 2 _ _ Hd1.out
          have r0 := cell_of_row w1 _ 0 _ _ _ Hr1.out
          have r1 := cell_of_row w1 _ 1 _ _ _ Hr1.out
          have r2 := cell_of_row w1 _ 2 _ _ _ Hr1.out
          have rf0 := frozen_of_row w1 _ 0 _ _ Hr1.out
          have rf1 := frozen_of_row w1 _ 1 _ _ Hr1.out
          have rf2 := frozen_of_row w1 _ 2 _ _ Hr1.out
          have hne1 : ¬ A.heap.size = w.heap.size := by omega
          have hne2 : ¬ w.heap.size = A.heap.size := by omega
          clear hb1
          go_wp2
          refine bodyPost_ret (v := .agg #[.int .i64 y, .int .i64 m, .int .i64 (day - b0 - cu + 1)]) (by simp [results, Tryz.results143, go_sem, r0, r1, r2]) rfl (HE3.out _ ?_)
          exact ((((Hbw.out.setCell (Nat.le_of_lt hAw) _).setCell (by simp) _).setCell (by simp) _).setCell (by simp) _)
end Go.Proofs.YtngippiilgdnoaaGreat
