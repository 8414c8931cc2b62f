/-
  The walk of settle.Statement.
  The walk of the reference's Statement.
  The walks of a rounded amount and of a statement's entry.
  The walk of settle.Entry, whatever the text of a number is.
-/
import Derived.Test.YtohmdohbmmbbkaaDoorMgbp
import Derived.Deep.LoopGhost
import Derived.Deep.RegionHeld3
import Derived.Deep.DeepCutAuto
import Derived.WalkMore
import Derived.Laws.CopyRow
import Derived.Laws.Tables
import Derived.Laws.ResultCell
import Derived.Test.YtohmdohbmmbbkaaDoorMgbg
import Derived.Deep.AppendLies
namespace Go.Proofs.YtohmdohbmmbbkaaDoor
open Go.RowKit

theorem Box5.set5 {w : World} {g : Nat} {u0 u1 u2 u3 u4 : Value} {t : TypeId} (h : Box5 w g u0 u1 u2 u3 u4 t) (v0 v1 v2 v3 v4 : Value) : Box5 (((((w.setCell ⟨g, 0, none⟩ v0).setCell ⟨g, 1, none⟩ v1).setCell ⟨g, 2, none⟩ v2).setCell ⟨g, 3, none⟩ v3).setCell ⟨g, 4, none⟩ v4) g v0 v1 v2 v3 v4 t := by
  unfold Box5 at *
  have h0 := heap_setCell_same w g 0 _ t v0 h
  have h1 := heap_setCell_same _ g 1 _ t v1 h0
  have h2 := heap_setCell_same _ g 2 _ t v2 h1
  have h3 := heap_setCell_same _ g 3 _ t v3 h2
  have h4 := heap_setCell_same _ g 4 _ t v4 h3
  exact h4
/-- The loop's worlds: the charges so far. -/
def ChR (so : List Ag) (us : List Us) (pa mf mt : Int) (V : World) (B k : Nat) (wx : World) : Prop :=
  ∃ (vch : Value) (cs : List Chg) (net : Int), wx.heap[B]? = some (Obj.cells #[Value.int .i64 pa, .int .i64 mf, .int .i64 mt, vch, .int .i64 net] 32) ∧ wx.ownsRow (B + 1) 49 5 vch cs.length (cs.flatMap chCells) ∧ Below B V wx ∧
    stL (cntU pa mf mt us) (so.drop k) cs net = stL (cntU pa mf mt us) so [] 0 ∧ cs.length ≤ k ∧ -(1125899906842624 * (k : Int)) ≤ net ∧ net ≤ 1125899906842624 * (k : Int)
theorem own_set5 {w : World} {base : Nat} {e : TypeId} {sz n g : Nat} {v : Value} {xs : List Value} (h : w.ownsRow base e sz v n xs) (hg : g < base) (v0 v1 v2 v3 v4 : Value) : (((((w.setCell ⟨g, 0, none⟩ v0).setCell ⟨g, 1, none⟩ v1).setCell ⟨g, 2, none⟩ v2).setCell ⟨g, 3, none⟩ v3).setCell ⟨g, 4, none⟩ v4).ownsRow base e sz v n xs :=
  ownsRow_setCell_below (ownsRow_setCell_below (ownsRow_setCell_below (ownsRow_setCell_below (ownsRow_setCell_below h (a := ⟨g, 0, none⟩) hg v0) (a := ⟨g, 1, none⟩) hg v1) (a := ⟨g, 2, none⟩) hg v2) (a := ⟨g, 3, none⟩) hg v3) (a := ⟨g, 4, none⟩) hg v4
theorem own_down {w : World} {b b' : Nat} {e : TypeId} {sz n : Nat} {v : Value} {xs : List Value} (h : w.ownsRow b e sz v n xs) (hb : b' ≤ b) : w.ownsRow b' e sz v n xs := by
  obtain ⟨h1, h2⟩ := h
  refine ⟨h1, ?_⟩
  rcases h2 with h2 | ⟨g, cap, cur, hv, hg, r⟩
  · exact Or.inl h2
  · exact Or.inr ⟨g, cap, cur, hv, Nat.le_trans hb hg, r⟩
theorem below_setRow1 {B g : Nat} {a w : World} (h : Below B a w) (hg : B ≤ g) (cs : Array Value) : Below B a (w.setRow g cs) :=
  h.trans ⟨rfl, rfl, rfl, by simp, fun k hk => setRow_other _ _ _ _ (by omega)⟩
theorem own_setRow1 {w : World} {base : Nat} {e : TypeId} {sz n g : Nat} {v : Value} {xs : List Value} (h : w.ownsRow base e sz v n xs) (hg : g < base) (cs : Array Value) : (w.setRow g cs).ownsRow base e sz v n xs := by
  obtain ⟨h1, h2⟩ := h
  refine ⟨h1, ?_⟩
  rcases h2 with h2 | ⟨g', cap, cur, hv, hg', hh, r⟩
  · exact Or.inl h2
  · exact Or.inr ⟨g', cap, cur, hv, hg', by rw [setRow_other _ _ _ _ (by omega)]; exact hh, r⟩
theorem ret_stm {R : Ending → World → Prop} {a : Act} {w : World} {g : Nat} {v0 v1 v2 v3 v4 e : Value} (hd : a.defers = []) (h8 : a.tmps.getD 8 undef = .pointer (some ⟨g, 0, none⟩)) (h9 : a.tmps.getD 9 undef = e)
    (c0 : w.cell? ⟨g, 0, none⟩ = some v0) (c1 : w.cell? ⟨g, 1, none⟩ = some v1) (c2 : w.cell? ⟨g, 2, none⟩ = some v2) (c3 : w.cell? ⟨g, 3, none⟩ = some v3) (c4 : w.cell? ⟨g, 4, none⟩ = some v4)
    (hR : R (.returned (.tuple #[.agg #[v0, v1, v2, v3, v4], e])) w) : bodyPost Tryd.prog Tryd.f9 R Exit.ret a w := by
  refine ⟨hd, _, ?_, hR⟩
  rw [results_cell_tmp rfl, h8, h9]
  go_simp

set_option maxRecDepth 100000 in
set_option maxHeartbeats 12800000 in
theorem statement_calls (vl vu : Value) (l : List Ag) (us : List Us) (pa mf mt : Int) (w : World) (hl : AgsAt w vl l) (hu : UssAt w vu us) (hll : l.length ≤ 19) (hul : us.length ≤ 40) :
    Calls Tryd.prog 9 #[vl, vu, .int .i64 pa, .agg #[.int .i64 mf, .int .i64 mt]] w (StTo (stmE l us pa mf mt) w) := by
  obtain ⟨Z, hZ⟩ : ∃ Z, Z = w.alloc (Obj.cells #[Value.int .i64 mf, .int .i64 mt] 25) := ⟨_, rfl⟩
  have hwz : Below w.heap.size w Z := by rw [hZ]; exact (Below.refl _ _).alloc (Nat.le_refl _) _
  have rz : Z.heap[w.heap.size]? = some (Obj.cells #[Value.int .i64 mf, .int .i64 mt] 25) := by rw [hZ]; exact heap_alloc_new _ _
  have hzZ : Z.heap.size = w.heap.size + 1 := by rw [hZ]; simp
  obtain ⟨W, hW⟩ : ∃ W, W = Z.alloc (Obj.cells #[Value.int .i64 0, .int .i64 0, .int .i64 0, .slice none 0 0, .int .i64 0] 32) := ⟨_, rfl⟩
  have hzw : Below Z.heap.size Z W := by rw [hW]; exact (Below.refl _ _).alloc (Nat.le_refl _) _
  have rw0 : W.heap[w.heap.size + 1]? = some (Obj.cells #[Value.int .i64 0, .int .i64 0, .int .i64 0, .slice none 0 0, .int .i64 0] 32) := by rw [hW, ← hzZ]; exact heap_alloc_new _ _
  have hzW : W.heap.size = w.heap.size + 2 := by rw [hW]; simp [hzZ]
  have hwW : Below w.heap.size w W := hwz.trans (hzw.mono hwz.size)
  have Hl := Lib.hid (hl.below hwW)
  have Hu := Lib.hid (hu.below hwW)
  have rz' := (hzw.block _ (by omega)).trans rz
  have HW := Lib.hid hW
  have HZ := Lib.hid hZ
  have Hrz := Lib.hid rz'
  have Hrw := Lib.hid rw0
  have HwW := Lib.hid hwW
  have HAg := Lib.hid (agcheck_calls vl l W Hl.out)
  obtain ⟨er, her⟩ : ∃ er, er = agCheckE l := ⟨_, rfl⟩
  rw [← her] at HAg
  clear hZ hW hwz hzw rz rz' rw0 hwW
  go_enter Tryd.func9, Tryd.ntmps9
  go_upto_region 1 with (fail)
  rw [← HZ.out, ← HW.out]
  go_wp2_with fail
  refine HAg.out.mono ?_
  rintro e w2 ⟨rfl, hb2⟩
  have Hw2 := Lib.hid (HwW.out.trans (hb2.mono HwW.out.size))
  have Hl2 := Lib.hid (Hl.out.below hb2)
  have Hu2 := Lib.hid (Hu.out.below hb2)
  have Hrz2 := Lib.hid ((hb2.block _ (by omega)).trans Hrz.out)
  have Hrw2 := Lib.hid ((hb2.block _ (by omega)).trans Hrw.out)
  have hz2 := hb2.size
  have Her := Lib.hid her
  clear her hb2
  by_cases he : er = 0
  · have heb : (er != 0) = false := bne_eq_false_iff_eq.2 he
    by_cases h1 : pa < 1
    · have k1 : decide (pa < 1) = true := decide_eq_true h1
      have HR := Lib.hid (show stmE l us pa mf mt = (6, stm0) by unfold stmE; rw [if_neg (by rw [← Her.out, he]; simp), if_pos h1])
      go_upto_region 5 with (fail)
      repeat (first | refine wpList_store_row rfl _ _ _ rfl (w.heap.size + 1) #[.int .i64 0, .int .i64 0, .int .i64 0, .slice none 0 0, .int .i64 0] rfl rfl 32 _ Hrw2.out (by kernel_rfl) rfl (by simp [Value.oneCell']) ?_ | go_step)
      obtain ⟨t0, t1, t2, t3, t4, -⟩ := Box5.cells (t := 32) (setRow_heap w2 _ _ #[.int .i64 0, .int .i64 0, .int .i64 0, .slice none 0 0, .int .i64 0] _ _ Hrw2.out)
      refine ret_stm (g := w.heap.size + 1) rfl rfl rfl t0 t1 t2 t3 t4 ?_
      rw [HR.out]
      exact ⟨_, rfl, World.ownsRow_nil _ _ _ _, below_setRow1 Hw2.out (by omega) _⟩
    · have k1 : decide (pa < 1) = false := decide_eq_false h1
      by_cases h2 : 999 < pa
      · have k2 : decide (999 < pa) = true := decide_eq_true h2
        have HR := Lib.hid (show stmE l us pa mf mt = (6, stm0) by unfold stmE; rw [if_neg (by rw [← Her.out, he]; simp), if_neg h1, if_pos h2])
        go_upto_region 5 with (fail)
        repeat (first | refine wpList_store_row rfl _ _ _ rfl (w.heap.size + 1) #[.int .i64 0, .int .i64 0, .int .i64 0, .slice none 0 0, .int .i64 0] rfl rfl 32 _ Hrw2.out (by kernel_rfl) rfl (by simp [Value.oneCell']) ?_ | go_step)
        obtain ⟨t0, t1, t2, t3, t4, -⟩ := Box5.cells (t := 32) (setRow_heap w2 _ _ #[.int .i64 0, .int .i64 0, .int .i64 0, .slice none 0 0, .int .i64 0] _ _ Hrw2.out)
        refine ret_stm (g := w.heap.size + 1) rfl rfl rfl t0 t1 t2 t3 t4 ?_
        rw [HR.out]
        exact ⟨_, rfl, World.ownsRow_nil _ _ _ _, below_setRow1 Hw2.out (by omega) _⟩
      · have k2 : decide (999 < pa) = false := decide_eq_false h2
        obtain ⟨vb, hvb⟩ : ∃ vb, vb = validB mf mt := ⟨_, rfl⟩
        have HV := Lib.hid (valid_calls mf mt w2)
        rw [← hvb] at HV
        have HVb := Lib.hid hvb
        have p0 := cell_of_row w2 _ 0 _ _ _ Hrz2.out
        have p1 := cell_of_row w2 _ 1 _ _ _ Hrz2.out
        clear hvb
        go_wp2_with fail
        refine HV.out.mono ?_
        rintro e w3 ⟨rfl, hb3⟩
        have Hw3 := Lib.hid (Hw2.out.trans (hb3.mono Hw2.out.size))
        have Hl3 := Lib.hid (Hl2.out.below hb3)
        have Hu3 := Lib.hid (Hu2.out.below hb3)
        have Hrz3 := Lib.hid ((hb3.block _ (by omega)).trans Hrz2.out)
        have Hrw3 := Lib.hid ((hb3.block _ (by omega)).trans Hrw2.out)
        have hz3 := hb3.size
        clear hb3 p0 p1
        cases vb with
        | false =>
          have HR := Lib.hid (show stmE l us pa mf mt = (8, stm0) by unfold stmE; rw [if_neg (by rw [← Her.out, he]; simp), if_neg (by omega), if_neg (by omega), if_pos HVb.out.symm])
          go_upto_region 7 with (fail)
          repeat (first | refine wpList_store_row rfl _ _ _ rfl (w.heap.size + 1) #[.int .i64 0, .int .i64 0, .int .i64 0, .slice none 0 0, .int .i64 0] rfl rfl 32 _ Hrw3.out (by kernel_rfl) rfl (by simp [Value.oneCell']) ?_ | go_step)
          obtain ⟨t0, t1, t2, t3, t4, -⟩ := Box5.cells (t := 32) (setRow_heap w3 _ _ #[.int .i64 0, .int .i64 0, .int .i64 0, .slice none 0 0, .int .i64 0] _ _ Hrw3.out)
          refine ret_stm (g := w.heap.size + 1) rfl rfl rfl t0 t1 t2 t3 t4 ?_
          rw [HR.out]
          exact ⟨_, rfl, World.ownsRow_nil _ _ _ _, below_setRow1 Hw3.out (by omega) _⟩
        | true =>
          have HR := Lib.hid (show stmE l us pa mf mt = stmL pa mf mt (stL (cntU pa mf mt us) (oursL pa l) [] 0) by unfold stmE; rw [if_neg (by rw [← Her.out, he]; simp), if_neg (by omega), if_neg (by omega), if_neg (by rw [← HVb.out]; simp)])
          have HC := Lib.hid (clone_calls vl l w3 Hl3.out (by omega))
          go_wp2_with fail
          refine HC.out.mono ?_
          rintro e w4 ⟨vc, R, rfl, hRl, hown4, hrd4, hb4⟩
          have hRn : R.length = l.length := by rw [← hRl, List.length_map]
          have HS := Lib.hid (stable_calls w3.heap.size w4 vc R hown4 hrd4 hb4.size (by omega))
          have Hb4 := Lib.hid hb4
          have HRl := Lib.hid hRl
          have HRn := Lib.hid hRn
          clear hb4 hRl hRn hown4 hrd4 HC
          go_wp2_with fail
          refine HS.out.mono ?_
          rintro e w5 ⟨rfl, hb5, S, hperm, hpw, hags⟩
          have hb35 : Below w3.heap.size w3 w5 := Hb4.out.trans hb5
          obtain ⟨so, hso⟩ : ∃ so, so = S.map (·.1) := ⟨_, rfl⟩
          rw [← hso] at hags
          have Hso := Lib.hid (show so.Perm l by rw [hso, ← HRl.out]; exact hperm.map _)
          have Hsrt := Lib.hid (show Srt so by rw [hso]; exact List.pairwise_map.2 hpw)
          have hson : so.length ≤ 19 := by have := Hso.out.length_eq; omega
          have Hw5 := Lib.hid (Hw3.out.trans (hb35.mono Hw3.out.size))
          have Hu5 := Lib.hid (Hu3.out.below hb35)
          have Hrz5 := Lib.hid ((hb35.block _ (by omega)).trans Hrz3.out)
          have Hrw5 := Lib.hid ((hb35.block _ (by omega)).trans Hrw3.out)
          have hz5 := hb35.size
          have Ha5 := Lib.hid hags
          have HG := Lib.hid (gather_calls vc vu so us pa mf mt w5 hags Hu5.out hul)
          have p0 := cell_of_row w5 _ 0 _ _ _ Hrz5.out
          have p1 := cell_of_row w5 _ 1 _ _ _ Hrz5.out
          clear hb5 hb35 hperm hpw hags hso HS
          go_wp2_with fail
          refine HG.out.mono ?_
          rintro e w6 ⟨bm, rfl, hT, hb6⟩
          have Hw6 := Lib.hid (Hw5.out.trans (hb6.mono Hw5.out.size))
          have Hrz6 := Lib.hid ((hb6.block _ (by omega)).trans Hrz5.out)
          have Hrw6 := Lib.hid ((hb6.block _ (by omega)).trans Hrw5.out)
          have Ha6 := Lib.hid (Ha5.out.below hb6)
          have hz6 := hb6.size
          obtain ⟨V, hV⟩ : ∃ V, V = w6.alloc (Obj.cells #[Value.int .i64 pa, .int .i64 mf, .int .i64 mt, .slice none 0 0, .int .i64 0] 32) := ⟨_, rfl⟩
          have hbV : Below w6.heap.size w6 V := by rw [hV]; exact (Below.refl _ _).alloc (Nat.le_refl _) _
          have hVn : V.heap[w6.heap.size]? = some (Obj.cells #[Value.int .i64 pa, .int .i64 mf, .int .i64 mt, .slice none 0 0, .int .i64 0] 32) := by rw [hV]; exact heap_alloc_new _ _
          have hzV : V.heap.size = w6.heap.size + 1 := by rw [hV]; simp
          have HT6 := Lib.hid hT
          have HbV := Lib.hid hbV
          have HaV := Lib.hid (Ha6.out.below hbV)
          have HrzV := Lib.hid ((hbV.block _ (by omega)).trans Hrz6.out)
          have HrwV := Lib.hid ((hbV.block _ (by omega)).trans Hrw6.out)
          have HwV := Lib.hid (Hw6.out.trans (hbV.mono Hw6.out.size))
          have HVn := Lib.hid hVn
          have HV := Lib.hid hV
          have p0 := cell_of_row w6 _ 0 _ _ _ Hrz6.out
          have p1 := cell_of_row w6 _ 1 _ _ _ Hrz6.out
          clear hT hb6 hbV hVn hV HG
          go_upto_region 12 with (fail)
          rw [← HV.out]
          clear p0 p1
          obtain ⟨sa, sc, rfl, hsl, hsm, -⟩ := Ha6.out
          have hsm := hsm.1
          unfold maxLen at hsm
          go_wp2_with fail
          go_loopg [51] so.length (fun g i wx => ∃ k : Nat, k + g = so.length ∧ i = .int .i64 k ∧ ChR so us pa mf mt V w6.heap.size k wx)
          case atStart => exact ⟨0, by omega, rfl, .slice none 0 0, [], 0, HVn.out, World.ownsRow_nil _ _ _ _, Below.refl _ _, by rw [List.drop_zero], Nat.le_refl _, by omega, by omega⟩
          case round =>
            obtain ⟨k, hkg, rfl, hr⟩ := hrel
            have Hr := Lib.hid hr
            clear hr
            cases gk with
            | zero =>
              have hkz : ¬ ((k : Int) < (so.length : Int)) := by omega
              obtain ⟨vch, cs, net, hrow, hown, hbr, hst, -, hn1, hn2⟩ := Hr.out
              rw [List.drop_of_length_le (by omega), stm_so (Her.out.symm.trans he) Hso.out Hsrt.out] at hst
              rw [← hst] at HR
              obtain ⟨ab, hab⟩ : ∃ ab, ab = amB net := ⟨_, rfl⟩
              have HAm := Lib.hid (amvalid_calls net wr)
              rw [← hab] at HAm
              have o4 := cell_of_row wr _ 4 _ _ _ hrow
              have Hrow := Lib.hid hrow
              have Hown := Lib.hid hown
              have Hab := Lib.hid hab
              have Hwr := Lib.hid (HwV.out.trans (hbr.mono (by omega)))
              have Hrwr := Lib.hid ((hbr.block _ (by omega)).trans HrwV.out)
              clear hrow hown hab hst hbr
              go_wp2_with fail
              refine HAm.out.mono ?_
              rintro e w7 ⟨rfl, hb7⟩
              have hBr : w6.heap.size < wr.heap.size := (Array.getElem?_eq_some_iff.1 Hrow.out).1
              have hsr := Hwr.out.size
              have Hrow7 := Lib.hid ((hb7.block _ hBr).trans Hrow.out)
              have Hrw7 := Lib.hid ((hb7.block _ (by omega)).trans Hrwr.out)
              have Hw7 := Lib.hid (Hwr.out.trans (hb7.mono (by omega)))
              have Hown7 := Lib.hid (ownsRow_below Hown.out hb7)
              clear hb7 o4
              cases ab with
              | false =>
                have HE := Lib.hid (HR.out.trans (show stmL pa mf mt (0, cs, net) = (6, stm0) by unfold stmL; rw [if_neg (by simp), if_neg (by rw [← Hab.out]; simp)]))
                go_upto_region 26 with (fail)
                repeat (first | refine wpList_store_row rfl _ _ _ rfl (w.heap.size + 1) #[.int .i64 0, .int .i64 0, .int .i64 0, .slice none 0 0, .int .i64 0] rfl rfl 32 _ Hrw7.out (by kernel_rfl) rfl (by simp [Value.oneCell']) ?_ | go_step)
                obtain ⟨t0, t1, t2, t3, t4, -⟩ := Box5.cells (t := 32) (setRow_heap w7 _ _ #[.int .i64 0, .int .i64 0, .int .i64 0, .slice none 0 0, .int .i64 0] _ _ Hrw7.out)
                refine ret_stm (g := w.heap.size + 1) rfl rfl rfl t0 t1 t2 t3 t4 ?_
                rw [HE.out]
                exact ⟨_, rfl, World.ownsRow_nil _ _ _ _, below_setRow1 Hw7.out (by omega) _⟩
              | true =>
                have HE := Lib.hid (HR.out.trans (show stmL pa mf mt (0, cs, net) = (0, ⟨pa, mf, mt, cs, net⟩) by unfold stmL; rw [if_neg (by simp), if_pos (by rw [← Hab.out])]))
                obtain ⟨q0, q1, q2, q3, q4, -⟩ := Box5.cells (t := 32) Hrow7.out
                obtain ⟨vca, vcc, rfl⟩ : ∃ a c, vch = .slice a cs.length c := by
                  rcases Hown7.out.2 with ⟨hv, h0⟩ | ⟨g', cap', cur, hv, -⟩
                  · exact ⟨none, 0, by rw [hv, h0]⟩
                  · exact ⟨_, _, hv⟩
                go_upto_region 27 with (fail)
                repeat (first | refine wpList_store_row rfl _ _ _ rfl (w.heap.size + 1) #[.int .i64 pa, .int .i64 mf, .int .i64 mt, .slice vca cs.length vcc, .int .i64 net] rfl rfl 32 _ Hrw7.out (by kernel_rfl) rfl (by simp [Value.oneCell']) ?_ | go_step)
                obtain ⟨t0, t1, t2, t3, t4, -⟩ := Box5.cells (t := 32) (setRow_heap w7 _ _ #[.int .i64 pa, .int .i64 mf, .int .i64 mt, .slice vca cs.length vcc, .int .i64 net] _ _ Hrw7.out)
                refine ret_stm (g := w.heap.size + 1) rfl rfl rfl t0 t1 t2 t3 t4 ?_
                rw [HE.out]
                exact ⟨_, rfl, own_down (own_setRow1 Hown7.out (by have := Hw6.out.size; omega) _) (by have := Hw6.out.size; omega), below_setRow1 Hw7.out (by omega) _⟩
            | succ g0 =>
              have hlt : k < so.length := by omega
              have hk1 : (k : Int) < (so.length : Int) := by omega
              have hk0 : (0 : Int) ≤ (k : Int) := Int.natCast_nonneg _
              obtain ⟨vch, cs, net, hrow, hown, hbr, hst, hcl, hn1, hn2⟩ := Hr.out
              have hb6r : Below w6.heap.size w6 wr := HbV.out.trans (hbr.mono (by omega))
              have hBr : w6.heap.size < wr.heap.size := (Array.getElem?_eq_some_iff.1 hrow).1
              obtain ⟨sa2, sc2, e2, -, -, hx⟩ := Ha6.out
              cases e2
              obtain ⟨bs, os, rfl, hBs, hx⟩ := hx (by rintro rfl; cases hlt)
              obtain ⟨d0, d1, d2, d3, d4, ⟨sv, d5, hsv, -⟩, d6⟩ := hx k hlt
              have d0 := (hb6r.cell (p := ⟨bs, _, none⟩) hBs).trans d0
              have d1 := (hb6r.cell (p := ⟨bs, _, none⟩) hBs).trans d1
              have d2 := (hb6r.cell (p := ⟨bs, _, none⟩) hBs).trans d2
              have d3 := (hb6r.cell (p := ⟨bs, _, none⟩) hBs).trans d3
              have d4 := (hb6r.cell (p := ⟨bs, _, none⟩) hBs).trans d4
              have d5 := (hb6r.cell (p := ⟨bs, _, none⟩) hBs).trans d5
              have d6 := (hb6r.cell (p := ⟨bs, _, none⟩) hBs).trans d6
              have Hsv := Lib.hid (hsv.below hb6r)
              obtain ⟨xa, xc, rfl, -, -⟩ := hsv
              obtain ⟨hgv, hgh⟩ := gather_val (OneFit.of_check (pa := pa) (Her.out.symm.trans he) Hso.out) us (pa := pa) (mf := mf) (mt := mt) k hlt
              have HTr := Lib.hid (HT6.out.below hb6r)
              have HSt := Lib.hid (show stL (cntU pa mf mt us) (so.drop k) cs net = (if (cntU pa mf mt us so[k]).1 = 0 then stL (cntU pa mf mt us) (so.drop (k + 1)) cs net else if (agPriceL so[k] 0 (cntU pa mf mt us so[k]).2).2 ≠ 0 then ((agPriceL so[k] 0 (cntU pa mf mt us so[k]).2).2, [], 0) else
                  stL (cntU pa mf mt us) (so.drop (k + 1)) (cs ++ [⟨so[k].kd, so[k].ib, (cntU pa mf mt us so[k]).1, (cntU pa mf mt us so[k]).2, (agPriceL so[k] 0 (cntU pa mf mt us so[k]).2).1⟩]) (if so[k].ib = true then net + (agPriceL so[k] 0 (cntU pa mf mt us so[k]).2).1 else net - (agPriceL so[k] 0 (cntU pa mf mt us so[k]).2).1)) by
                rw [List.drop_eq_getElem_cons hlt, stL])
              have HAll := Lib.hid ((stm_so (pa := pa) (mf := mf) (mt := mt) (us := us) (Her.out.symm.trans he) Hso.out Hsrt.out).symm.trans hst.symm)
              have Hst := Lib.hid hst
              clear hx hsl hst
              have HLk := Lib.hid (fun w' (hb : Below wr.heap.size wr w') => (show (Instr.lookup 64 (.map (some bm)) (.int .i64 (k : Int)) true).run Tryd.prog w' = .ok (.tuple #[.agg #[.int .i64 (cntU pa mf mt us so[k]).1, .int .i64 (cntU pa mf mt us so[k]).2], .bool (decide ((cntU pa mf mt us so[k]).1 ≠ 0))]) w' by have h := look_tot_ok (HTr.out.below hb) k (by omega); rw [hgv, hgh] at h; exact h))
              clear hgv hgh
              generalize hcu : cntU pa mf mt us so[k] = cu at *
              clear hcu
              obtain ⟨cc, cv⟩ := cu
              dsimp only at HSt HLk
              obtain ⟨isb, hisb⟩ : ∃ isb, isb = decide (cc ≠ 0) := ⟨_, rfl⟩
              rw [← hisb] at HLk
              have HIsb := Lib.hid hisb
              clear hisb
              have HPr := Lib.hid (fun w' (hb : Below wr.heap.size wr w') => agprice_calls so[k] _ 0 cv w' (Hsv.out.below hb))
              have HPc := Lib.hid (fun (h : (agPriceL so[k] 0 cv).2 = 0) => price_charge (a := so[k]) (n := cv) h)
              unfold priceTup agVal at HPr
              generalize hsk : so[k] = ag at *
              clear hsk
              obtain ⟨xp, xk, xi, xf, xt, xst, xcp⟩ := ag
              dsimp only at d0 d1 d2 d3 d4 d5 d6 HSt HPr HPc Hsv
              obtain ⟨pr, hpr⟩ : ∃ pr, pr = agPriceL ⟨xp, xk, xi, xf, xt, xst, xcp⟩ 0 cv := ⟨_, rfl⟩
              rw [← hpr] at HSt HPr HPc
              clear hpr
              obtain ⟨px, pe⟩ := pr
              dsimp only at HSt HPr HPc
              obtain ⟨X, hX⟩ : ∃ X, X = wr.alloc (Obj.cells #[Value.int .i64 xp, .int .i64 xk, .bool xi, .int .i64 xf, .int .i64 xt, .slice xa xst.length xc, .int .i64 xcp] 53) := ⟨_, rfl⟩
              have hbX : Below wr.heap.size wr X := by rw [hX]; exact (Below.refl _ _).alloc (Nat.le_refl _) _
              have rX : X.heap[wr.heap.size]? = some (Obj.cells #[Value.int .i64 xp, .int .i64 xk, .bool xi, .int .i64 xf, .int .i64 xt, .slice xa xst.length xc, .int .i64 xcp] 53) := by rw [hX]; exact heap_alloc_new _ _
              have hzX : X.heap.size = wr.heap.size + 1 := by rw [hX]; simp
              obtain ⟨Y, hY⟩ : ∃ Y, Y = X.alloc (Obj.cells #[Value.int .i64 cc, .int .i64 cv] 67) := ⟨_, rfl⟩
              have hbY : Below X.heap.size X Y := by rw [hY]; exact (Below.refl _ _).alloc (Nat.le_refl _) _
              have rY : Y.heap[X.heap.size]? = some (Obj.cells #[Value.int .i64 cc, .int .i64 cv] 67) := by rw [hY]; exact heap_alloc_new _ _
              have hzY : Y.heap.size = wr.heap.size + 2 := by rw [hY]; simp [hzX]
              have hbrY : Below wr.heap.size wr Y := hbX.trans (hbY.mono hbX.size)
              have rXY := (hbY.block _ (by omega)).trans rX
              have hlk := HLk.out X hbX
              have HX := Lib.hid hX
              have HY := Lib.hid hY
              have Hrow := Lib.hid hrow
              have Hown := Lib.hid hown
              have HbrY := Lib.hid hbrY
              have HM := Lib.hid (show ∀ w', Below Y.heap.size Y w' → w'.heap[wr.heap.size]? = some (Obj.cells #[Value.int .i64 xp, .int .i64 xk, .bool xi, .int .i64 xf, .int .i64 xt, .slice xa xst.length xc, .int .i64 xcp] 53) ∧ w'.heap[X.heap.size]? = some (Obj.cells #[Value.int .i64 cc, .int .i64 cv] 67) ∧ w'.heap[w6.heap.size]? = some (Obj.cells #[Value.int .i64 pa, .int .i64 mf, .int .i64 mt, vch, .int .i64 net] 32) from fun w' hb => ⟨(hb.block _ (by omega)).trans rXY, (hb.block _ (by omega)).trans rY, (hb.block _ (by omega)).trans ((hbrY.block _ hBr).trans hrow)⟩)
              have HbVr := Lib.hid hbr
              have HbVY := Lib.hid (hbr.trans (hbrY.mono (by omega)))
              have HownY := Lib.hid (ownsRow_below hown hbrY)
              have HzX := Lib.hid hzX
              have HzY := Lib.hid hzY
              have HBr := Lib.hid hBr
              have Hn1 := Lib.hid hn1
              have Hn2 := Lib.hid hn2
              have Hcl := Lib.hid hcl
              have Hz6 := Lib.hid hz6
              have HzV := Lib.hid hzV
              clear hX hY hrow hown hbr hbX hbY rX rY rXY hbrY hb6r hzX hzY hBr hn1 hn2 hcl hz6 hzV
              go_upto_region 15 with (fail)
              rw [← HX.out]
              clear d0 d1 d2 d3 d4 d5 d6
              go_upto_region 16 with (fail)
              rw [← HY.out]
              clear hlk
              by_cases hc : cc = 0
              · obtain rfl : isb = false := by rw [HIsb.out]; simp [hc]
                have HE := Lib.hid (HSt.out.symm.trans Hst.out |> fun h => (if_pos hc).symm.trans h)
                clear hc
                go_wp2
                go_roundg g0
                case measure => omega
                case rel => exact ⟨k + 1, by omega, by first | rfl | simp, vch, cs, net, (HM.out Y (Below.refl _ _)).2.2, HownY.out, HbVY.out, HE.out, by have := Hcl.out; omega, by have := Hn1.out; omega, by have := Hn2.out; omega⟩
              · obtain rfl : isb = true := by rw [HIsb.out]; simp [hc]
                have HSt2 := Lib.hid (HSt.out.trans (if_neg hc))
                have HPY := Lib.hid (HPr.out Y HbrY.out)
                obtain ⟨r0, r1, r2⟩ := HM.out Y (Below.refl _ _)
                have z0 := cell_of_row Y _ 0 _ _ _ r0
                have z1 := cell_of_row Y _ 1 _ _ _ r0
                have z2 := cell_of_row Y _ 2 _ _ _ r0
                have z3 := cell_of_row Y _ 3 _ _ _ r0
                have z4 := cell_of_row Y _ 4 _ _ _ r0
                have z5 := cell_of_row Y _ 5 _ _ _ r0
                have z6 := cell_of_row Y _ 6 _ _ _ r0
                have y1 := cell_of_row Y _ 1 _ _ _ r1
                clear hc r0 r1 r2
                go_wp2_with fail
                refine HPY.out.mono ?_
                rintro e w8 ⟨rfl, hb8⟩
                have HMw := Lib.hid (fun w' (h : Below w8.heap.size w8 w') => HM.out w' (hb8.trans (h.mono hb8.size)))
                have HbV8 := Lib.hid (HbVY.out.trans (hb8.mono (by have := HBr.out; have := HbrY.out.size; omega)))
                have Hown8 := Lib.hid (ownsRow_below HownY.out hb8)
                have Hb8 := Lib.hid hb8
                clear z0 z1 z2 z3 z4 z5 z6 y1 hb8
                by_cases hpe : pe = 0
                · have hpb : (pe != 0) = false := bne_eq_false_iff_eq.2 hpe
                  obtain ⟨hp0, hp1⟩ := HPc.out hpe
                  have HSt3 := Lib.hid (HSt2.out.trans (if_neg (fun h => h hpe)))
                  clear hpe
                  obtain ⟨r0, r1, r2⟩ := HMw.out w8 (Below.refl _ _)
                  have z1 := cell_of_row w8 _ 1 _ _ _ r0
                  have z2 := cell_of_row w8 _ 2 _ _ _ r0
                  have y0 := cell_of_row w8 _ 0 _ _ _ r1
                  have y1 := cell_of_row w8 _ 1 _ _ _ r1
                  have o3 := cell_of_row w8 _ 3 _ _ _ r2
                  clear r0 r1 r2
                  obtain ⟨i0, hi, hz0, hz1, hz2⟩ := info_parts Tryd.chInfo
                  have Hi := Lib.hid (And.intro hi (And.intro hz0 (And.intro hz1 hz2)))
                  clear hi hz0 hz1 hz2
                  obtain ⟨cha, chc, rfl⟩ : ∃ a c, vch = .slice a cs.length c := by
                    rcases Hown8.out.2 with ⟨hv, h0⟩ | ⟨g', cap', cur, hv, -⟩
                    · exact ⟨none, 0, by rw [hv, h0]⟩
                    · exact ⟨_, _, hv⟩
                  have HBox := Lib.hid (fun w9 (hg : (w8.alloc (Obj.cells #[.int .i64 xk, .bool xi, .int .i64 cc, .int .i64 cv, .int .i64 px] 49)).grownBy w9 (Value.slice cha cs.length chc).ownBlock) => show w9.heap[wr.heap.size]? = _ from (hg.block wr.heap.size (by simp; have := Hb8.out.size; have := HzY.out; omega) (fun e => by have := (ownsRow_block Hown.out _ e.symm).2; omega)).trans ((Below.heap_alloc _ _ _ (by have := Hb8.out.size; have := HzY.out; omega)).trans (HMw.out w8 (Below.refl _ _)).1))
                  have HOut := Lib.hid (HMw.out w8 (Below.refl _ _)).2.2
                  have q6 := Hz6.out
                  have qV := HzV.out
                  have qB := HBr.out
                  have qY := HbrY.out.size
                  have q8 := Hb8.out.size
                  have hcl := Hcl.out
                  go_upto_region 20 with (fail)
                  go_wp2_with (at_builtin; refine wpList_append_own _ rfl _ _ 30 rfl (w6.heap.size + 1) 49 i0 _ 5 40 Tryd.underlying30 Hi.out.1 Hi.out.2.1 Hi.out.2.2.1 Hi.out.2.2.2 rfl (by decide) _ _ _ rfl (Hown8.out.alloc _) ⟨w8.heap.size, 0, none⟩ 1 1 [.int .i64 xk, .bool xi, .int .i64 cc, .int .i64 cv, .int .i64 px] rfl rfl (World.news_of_block (cs := #[.int .i64 xk, .bool xi, .int .i64 cc, .int .i64 cv, .int .i64 px]) (t := 49) (fr := (0, 0)) (heap_alloc_new _ _)) ?aq2 ?aq3 ?aq4 ?aq5 ?_)
                  case aq2 => simp [Value.oneCell']
                  case aq3 => unfold maxLen; omega
                  case aq4 => omega
                  case aq5 => (try simp); omega
                  intro v2 w9 hown9 hgrow _
                  obtain ⟨va2, vc2, rfl, -, -⟩ := own_shape hown9
                  have Hown9 := Lib.hid hown9
                  have rX9 := HBox.out w9 hgrow
                  have hb9 : Below (w6.heap.size + 1) w8 w9 := ((Below.refl (w6.heap.size + 1) w8).alloc (by omega) (Obj.cells #[.int .i64 xk, .bool xi, .int .i64 cc, .int .i64 cv, .int .i64 px] 49)).grown hgrow (by simp; omega) (fun g hg => (ownsRow_block Hown8.out g hg).1)
                  have rB9 := (hb9.block w6.heap.size (by omega)).trans HOut.out
                  have p3 := cell_of_row w9 _ 3 _ _ _ rB9
                  have fz3 : w9.frozen? ⟨w6.heap.size, 3, none⟩ = false := by simp [World.frozen?, rB9]
                  have rX9 := Lib.hid rX9
                  obtain ⟨w10, hw10⟩ : ∃ w10, w10 = w9.setCell ⟨w6.heap.size, 3, none⟩ (.slice va2 (cs.length + 1) vc2) := ⟨_, rfl⟩
                  have rB10 : w10.heap[w6.heap.size]? = some (Obj.cells #[Value.int .i64 pa, .int .i64 mf, .int .i64 mt, .slice va2 (cs.length + 1) vc2, .int .i64 net] 32) := by rw [hw10]; exact heap_setCell_same w9 _ 3 _ _ _ rB9
                  have rX10 : w10.heap[wr.heap.size]? = some (Obj.cells #[Value.int .i64 xp, .int .i64 xk, .bool xi, .int .i64 xf, .int .i64 xt, .slice xa xst.length xc, .int .i64 xcp] 53) := by rw [hw10]; exact (Below.heap_setCell _ _ _ _ (by show wr.heap.size ≠ w6.heap.size; omega)).trans rX9.out
                  have Hown10 : RowKit.Hid (w10.ownsRow (w6.heap.size + 1) 49 5 (.slice va2 (cs.length + 1) vc2) (cs.length + 1) (cs.flatMap chCells ++ [.int .i64 xk, .bool xi, .int .i64 cc, .int .i64 cv, .int .i64 px])) := Lib.hid (by rw [hw10]; exact ownsRow_setCell_below Hown9.out (by show w6.heap.size < _; omega) _)
                  have Hb10 := Lib.hid (show Below w6.heap.size V w10 by rw [hw10]; exact (HbV8.out.trans (hb9.mono (by omega))).setCell (Nat.le_refl _) _)
                  have Hw10 := Lib.hid hw10
                  have HrB10 := Lib.hid rB10
                  clear hown9 hgrow hb9 rB9 hw10
                  go_upto_region 21 with (fail)
                  rw [← Hw10.out]
                  clear p3 fz3 z1 z2 y0 y1 o3
                  have z2 := cell_of_row w10 _ 2 _ _ _ rX10
                  have o4 := cell_of_row w10 _ 4 _ _ _ rB10
                  have f4 : w10.frozen? ⟨w6.heap.size, 4, none⟩ = false := by simp [World.frozen?, rB10]
                  have qn1 := Hn1.out
                  have qn2 := Hn2.out
                  clear rX10 rB10
                  cases xi with
                  | true =>
                    have hws : IntKind.i64.wrap (net + px) = net + px := IntWalk.i64_in _ (by omega)
                    have HE := Lib.hid (HSt3.out.symm.trans Hst.out)
                    go_wp2
                    go_roundg g0
                    case measure => omega
                    case rel => exact ⟨k + 1, by omega, by first | rfl | simp, .slice va2 (cs.length + 1) vc2, cs ++ [⟨xk, true, cc, cv, px⟩], net + px, heap_setCell_same _ _ 4 _ _ _ HrB10.out, by rw [List.length_append, List.flatMap_append]; exact ownsRow_setCell_below Hown10.out (by show w6.heap.size < _; omega) _, Hb10.out.setCell (Nat.le_refl _) _, by rw [← HE.out, if_pos (by first | rfl | trivial)], by rw [List.length_append]; simp; omega, by omega, by omega⟩
                  | false =>
                    have hws : IntKind.i64.wrap (net - px) = net - px := IntWalk.i64_in _ (by omega)
                    have HE := Lib.hid (HSt3.out.symm.trans Hst.out)
                    go_wp2
                    go_roundg g0
                    case measure => omega
                    case rel => exact ⟨k + 1, by omega, by first | rfl | simp, .slice va2 (cs.length + 1) vc2, cs ++ [⟨xk, false, cc, cv, px⟩], net - px, heap_setCell_same _ _ 4 _ _ _ HrB10.out, by rw [List.length_append, List.flatMap_append]; exact ownsRow_setCell_below Hown10.out (by show w6.heap.size < _; omega) _, Hb10.out.setCell (Nat.le_refl _) _, by rw [← HE.out, if_neg (by simp)], by rw [List.length_append]; simp; omega, by omega, by omega⟩
                · have hpb : (pe != 0) = true := bne_iff_ne.2 hpe
                  have HE := Lib.hid (HR.out.trans (show stmL pa mf mt (stL (cntU pa mf mt us) (oursL pa l) [] 0) = (pe, stm0) by rw [HAll.out, HSt2.out, if_pos hpe]; unfold stmL; rw [if_pos hpe]))
                  have q6 := Hz6.out
                  have qV := HzV.out
                  have qB := HBr.out
                  have qY := HbrY.out.size
                  have qr := HbVr.out.size
                  have Hw8 := Lib.hid (HwV.out.trans (HbV8.out.mono (by omega)))
                  have Hrw8 := Lib.hid ((Hb8.out.block _ (by omega)).trans ((HbrY.out.block _ (by omega)).trans ((HbVr.out.block _ (by omega)).trans HrwV.out)))
                  clear hpe
                  go_upto_region 19 with (fail)
                  repeat (first | refine wpList_store_row rfl _ _ _ rfl (w.heap.size + 1) #[.int .i64 0, .int .i64 0, .int .i64 0, .slice none 0 0, .int .i64 0] rfl rfl 32 _ Hrw8.out (by kernel_rfl) rfl (by simp [Value.oneCell']) ?_ | go_step)
                  obtain ⟨t0, t1, t2, t3, t4, -⟩ := Box5.cells (t := 32) (setRow_heap w8 _ _ #[.int .i64 0, .int .i64 0, .int .i64 0, .slice none 0 0, .int .i64 0] _ _ Hrw8.out)
                  refine ret_stm (g := w.heap.size + 1) rfl rfl rfl t0 t1 t2 t3 t4 ?_
                  rw [HE.out]
                  exact ⟨_, rfl, World.ownsRow_nil _ _ _ _, below_setRow1 Hw8.out (by omega) _⟩
  · have heb : (er != 0) = true := bne_iff_ne.2 he
    have HR := Lib.hid (show stmE l us pa mf mt = (er, stm0) by unfold stmE; rw [if_pos (by rw [← Her.out]; exact he), Her.out])
    go_upto_region 3 with (fail)
    repeat (first | refine wpList_store_row rfl _ _ _ rfl (w.heap.size + 1) #[.int .i64 0, .int .i64 0, .int .i64 0, .slice none 0 0, .int .i64 0] rfl rfl 32 _ Hrw2.out (by kernel_rfl) rfl (by simp [Value.oneCell']) ?_ | go_step)
    obtain ⟨t0, t1, t2, t3, t4, -⟩ := Box5.cells (t := 32) (setRow_heap w2 _ _ #[.int .i64 0, .int .i64 0, .int .i64 0, .slice none 0 0, .int .i64 0] _ _ Hrw2.out)
    refine ret_stm (g := w.heap.size + 1) rfl rfl rfl t0 t1 t2 t3 t4 ?_
    rw [HR.out]
    exact ⟨_, rfl, World.ownsRow_nil _ _ _ _, below_setRow1 Hw2.out (by omega) _⟩
end Go.Proofs.YtohmdohbmmbbkaaDoor

namespace Go.Proofs.YtohmdohbmmbbkaaDoor
open Go.RowKit

/-- What Count says of an agreement of a partner's, in the period that it has in common with a month, is what gather says. -/
theorem cntR_yes {pa mf mt : Int} {a : Ag} (hpa : a.pa = pa) (hm : meetB a.fr a.tt mf mt = true) (us : List Us) : cntR pa a.kd a.ib (max a.fr mf) (min a.tt mt) us = cntU pa mf mt us a := by
  obtain ⟨v1, v2, v3⟩ := (meetB_iff _ _ _ _).1 hm
  have v1' := (validB_iff _ _).1 v1
  have v2' := (validB_iff _ _).1 v2
  have e : ∀ u : Us, hitU pa a.kd a.ib (max a.fr mf) (min a.tt mt) u = (mineU pa mf mt u && fitA pa u a) := by
    intro u
    have v3' : validB (max a.fr mf) (min a.tt mt) = true := (validB_iff _ _).2 (by omega)
    have c : containsB (max a.fr mf) (min a.tt mt) u.st = (containsB mf mt u.st && containsB a.fr a.tt u.st) := by
      unfold containsB
      rw [v1, v2, v3']
      rw [Bool.eq_iff_iff]
      simp only [Bool.true_and, Bool.and_eq_true, decide_eq_true_eq]
      omega
    unfold hitU mineU fitA fitsB
    rw [c, decide_eq_true hpa]
    rw [Bool.eq_iff_iff]
    simp only [Bool.true_and, Bool.and_eq_true, decide_eq_true_eq, beq_iff_eq]
    constructor
    · rintro ⟨⟨⟨h1, h2⟩, h3⟩, h4, h5⟩; exact ⟨⟨h1, h4⟩, ⟨h2.symm, h3.symm⟩, h5⟩
    · rintro ⟨⟨h1, h4⟩, ⟨h2, h3⟩, h5⟩; exact ⟨⟨⟨h1, h2.symm⟩, h3.symm⟩, h4, h5⟩
  unfold cntR cntU cntS
  simp only [e]
theorem cntU_no {pa mf mt : Int} {a : Ag} (hm : meetB a.fr a.tt mf mt = false) (us : List Us) : (cntU pa mf mt us a).1 = 0 := by
  induction us using snocInd with
  | h0 => rfl
  | h1 us u ih =>
    rw [cntU_snoc]
    unfold cntS
    rw [if_neg, ih]
    intro hh
    simp only [Bool.and_eq_true] at hh
    obtain ⟨h1, h2⟩ := hh
    unfold mineU at h1
    unfold fitA fitsB at h2
    simp only [Bool.and_eq_true, decide_eq_true_eq] at h1 h2
    have h1 := h1.2
    have h2 := h2.2
    unfold containsB at h1 h2
    simp only [Bool.and_eq_true, decide_eq_true_eq] at h1 h2
    have : meetB a.fr a.tt mf mt = true := (meetB_iff _ _ _ _).2 ⟨h2.1.1, h1.1.1, by omega⟩
    rw [this] at hm
    cases hm
theorem ours_pa {pa : Int} {l : List Ag} {a : Ag} (h : a ∈ oursL pa l) : a.pa = pa := by
  have := ((oursL_ok pa l).1.mem_iff).1 h
  exact of_decide_eq_true (List.mem_filter.1 this).2
theorem two_cells {w : World} {g : Nat} {x y : Value} (u v : Value) (z0 : w.cell? ⟨g, 0, none⟩ = some x) (z1 : w.cell? ⟨g, 1, none⟩ = some y) :
    ((w.setCell ⟨g, 0, none⟩ u).setCell ⟨g, 1, none⟩ v).cell? ⟨g, 0, none⟩ = some u ∧ ((w.setCell ⟨g, 0, none⟩ u).setCell ⟨g, 1, none⟩ v).cell? ⟨g, 1, none⟩ = some v ∧ g < ((w.setCell ⟨g, 0, none⟩ u).setCell ⟨g, 1, none⟩ v).heap.size := by
  have hg : g < w.heap.size := by
    rcases Nat.lt_or_ge g w.heap.size with h | h
    · exact h
    · simp [World.cell?, Array.getElem?_eq_none h] at z0
  have q0 := World.cell?_setCell_other (w := w) (a := ⟨g, 0, none⟩) (b := ⟨g, 1, none⟩) (v := u) (by simp)
  have z1' := q0.trans z1
  have q1 := World.cell?_setCell_other (w := w.setCell ⟨g, 0, none⟩ u) (a := ⟨g, 1, none⟩) (b := ⟨g, 0, none⟩) (v := v) (by simp)
  refine ⟨q1.trans (World.cell?_setCell_same (w := w) (a := ⟨g, 0, none⟩) (v := u) z0), World.cell?_setCell_same (w := w.setCell ⟨g, 0, none⟩ u) (a := ⟨g, 1, none⟩) (v := v) z1', ?_⟩
  simpa [World.setCell] using hg
/-- The loop's worlds: the charges so far; what was there when the loop began lies as it lay, but for the block of what is returned. -/
def ChS (ol : List Ag) (us : List Us) (pa mf mt : Int) (V : World) (B : Nat) (w4 : World) (k : Nat) (wx : World) : Prop :=
  ∃ (vch : Value) (cs : List Chg) (net : Int), wx.heap[B]? = some (Obj.cells #[Value.int .i64 pa, .int .i64 mf, .int .i64 mt, vch, .int .i64 net] 32) ∧ wx.ownsRow w4.heap.size 49 5 vch cs.length (cs.flatMap chCells) ∧ Below B V wx ∧
    (∀ g, B < g → g < w4.heap.size → wx.heap[g]? = w4.heap[g]?) ∧ w4.heap.size ≤ wx.heap.size ∧
    stL (cntU pa mf mt us) (ol.drop k) cs net = stL (cntU pa mf mt us) ol [] 0 ∧ cs.length ≤ k ∧ -(1125899906842624 * (k : Int)) ≤ net ∧ net ≤ 1125899906842624 * (k : Int)

theorem ret_rstm {R : Ending → World → Prop} {a : Act} {w : World} {g : Nat} {v0 v1 v2 v3 v4 e : Value} (hd : a.defers = []) (h8 : a.tmps.getD 8 undef = .pointer (some ⟨g, 0, none⟩)) (h9 : a.tmps.getD 9 undef = e)
    (c0 : w.cell? ⟨g, 0, none⟩ = some v0) (c1 : w.cell? ⟨g, 1, none⟩ = some v1) (c2 : w.cell? ⟨g, 2, none⟩ = some v2) (c3 : w.cell? ⟨g, 3, none⟩ = some v3) (c4 : w.cell? ⟨g, 4, none⟩ = some v4)
    (hR : R (.returned (.tuple #[.agg #[v0, v1, v2, v3, v4], e])) w) : bodyPost Tryd.prog Tryd.f10 R Exit.ret a w := by
  refine ⟨hd, _, ?_, hR⟩
  rw [results_cell_tmp rfl, h8, h9]
  go_simp

set_option maxRecDepth 100000 in
set_option maxHeartbeats 12800000 in
theorem rstatement_calls (vl vu : Value) (l : List Ag) (us : List Us) (pa mf mt : Int) (w : World) (hl : AgsAt w vl l) (hu : UssAt w vu us) (hll : l.length ≤ 19) (hul : us.length ≤ 40) :
    Calls Tryd.prog 10 #[vl, vu, .int .i64 pa, .agg #[.int .i64 mf, .int .i64 mt]] w (StTo (stmE l us pa mf mt) w) := by
  obtain ⟨Z, hZ⟩ : ∃ Z, Z = w.alloc (Obj.cells #[Value.int .i64 mf, .int .i64 mt] 25) := ⟨_, rfl⟩
  have hwz : Below w.heap.size w Z := by rw [hZ]; exact (Below.refl _ _).alloc (Nat.le_refl _) _
  have rz : Z.heap[w.heap.size]? = some (Obj.cells #[Value.int .i64 mf, .int .i64 mt] 25) := by rw [hZ]; exact heap_alloc_new _ _
  have hzZ : Z.heap.size = w.heap.size + 1 := by rw [hZ]; simp
  obtain ⟨W, hW⟩ : ∃ W, W = Z.alloc (Obj.cells #[Value.int .i64 0, .int .i64 0, .int .i64 0, .slice none 0 0, .int .i64 0] 32) := ⟨_, rfl⟩
  have hzw : Below Z.heap.size Z W := by rw [hW]; exact (Below.refl _ _).alloc (Nat.le_refl _) _
  have rw0 : W.heap[w.heap.size + 1]? = some (Obj.cells #[Value.int .i64 0, .int .i64 0, .int .i64 0, .slice none 0 0, .int .i64 0] 32) := by rw [hW, ← hzZ]; exact heap_alloc_new _ _
  have hzW : W.heap.size = w.heap.size + 2 := by rw [hW]; simp [hzZ]
  have hwW : Below w.heap.size w W := hwz.trans (hzw.mono hwz.size)
  have Hl := Lib.hid (hl.below hwW)
  have Hu := Lib.hid (hu.below hwW)
  have rz' := (hzw.block _ (by omega)).trans rz
  have HW := Lib.hid hW
  have HZ := Lib.hid hZ
  have Hrz := Lib.hid rz'
  have Hrw := Lib.hid rw0
  have HwW := Lib.hid hwW
  have HAg := Lib.hid (ragcheck_calls vl l W Hl.out)
  obtain ⟨er, her⟩ : ∃ er, er = agCheckE l := ⟨_, rfl⟩
  rw [← her] at HAg
  clear hZ hW hwz hzw rz rz' rw0 hwW
  go_enter Tryd.func10, Tryd.ntmps10
  go_upto_region 1 with (fail)
  rw [← HZ.out, ← HW.out]
  go_wp2_with fail
  refine HAg.out.mono ?_
  rintro e w2 ⟨rfl, hb2⟩
  have Hw2 := Lib.hid (HwW.out.trans (hb2.mono HwW.out.size))
  have Hl2 := Lib.hid (Hl.out.below hb2)
  have Hu2 := Lib.hid (Hu.out.below hb2)
  have Hrz2 := Lib.hid ((hb2.block _ (by omega)).trans Hrz.out)
  have Hrw2 := Lib.hid ((hb2.block _ (by omega)).trans Hrw.out)
  have hz2 := hb2.size
  have Her := Lib.hid her
  clear her hb2
  by_cases he : er = 0
  · have heb : (er != 0) = false := bne_eq_false_iff_eq.2 he
    by_cases h1 : pa < 1
    · have k1 : decide (pa < 1) = true := decide_eq_true h1
      have HR := Lib.hid (show stmE l us pa mf mt = (6, stm0) by unfold stmE; rw [if_neg (by rw [← Her.out, he]; simp), if_pos h1])
      go_upto_region 5 with (fail)
      repeat (first | refine wpList_store_row rfl _ _ _ rfl (w.heap.size + 1) #[.int .i64 0, .int .i64 0, .int .i64 0, .slice none 0 0, .int .i64 0] rfl rfl 32 _ Hrw2.out (by kernel_rfl) rfl (by simp [Value.oneCell']) ?_ | go_step)
      obtain ⟨t0, t1, t2, t3, t4, -⟩ := Box5.cells (t := 32) (setRow_heap w2 _ _ #[.int .i64 0, .int .i64 0, .int .i64 0, .slice none 0 0, .int .i64 0] _ _ Hrw2.out)
      refine ret_rstm (g := w.heap.size + 1) rfl rfl rfl t0 t1 t2 t3 t4 ?_
      rw [HR.out]
      exact ⟨_, rfl, World.ownsRow_nil _ _ _ _, below_setRow1 Hw2.out (by omega) _⟩
    · have k1 : decide (pa < 1) = false := decide_eq_false h1
      by_cases h2 : 999 < pa
      · have k2 : decide (999 < pa) = true := decide_eq_true h2
        have HR := Lib.hid (show stmE l us pa mf mt = (6, stm0) by unfold stmE; rw [if_neg (by rw [← Her.out, he]; simp), if_neg h1, if_pos h2])
        go_upto_region 5 with (fail)
        repeat (first | refine wpList_store_row rfl _ _ _ rfl (w.heap.size + 1) #[.int .i64 0, .int .i64 0, .int .i64 0, .slice none 0 0, .int .i64 0] rfl rfl 32 _ Hrw2.out (by kernel_rfl) rfl (by simp [Value.oneCell']) ?_ | go_step)
        obtain ⟨t0, t1, t2, t3, t4, -⟩ := Box5.cells (t := 32) (setRow_heap w2 _ _ #[.int .i64 0, .int .i64 0, .int .i64 0, .slice none 0 0, .int .i64 0] _ _ Hrw2.out)
        refine ret_rstm (g := w.heap.size + 1) rfl rfl rfl t0 t1 t2 t3 t4 ?_
        rw [HR.out]
        exact ⟨_, rfl, World.ownsRow_nil _ _ _ _, below_setRow1 Hw2.out (by omega) _⟩
      · have k2 : decide (999 < pa) = false := decide_eq_false h2
        obtain ⟨vb, hvb⟩ : ∃ vb, vb = validB mf mt := ⟨_, rfl⟩
        have HV := Lib.hid (rvalid_calls mf mt w2)
        rw [← hvb] at HV
        have HVb := Lib.hid hvb
        have p0 := cell_of_row w2 _ 0 _ _ _ Hrz2.out
        have p1 := cell_of_row w2 _ 1 _ _ _ Hrz2.out
        clear hvb
        go_wp2_with fail
        refine HV.out.mono ?_
        rintro e w3 ⟨rfl, hb3⟩
        have Hw3 := Lib.hid (Hw2.out.trans (hb3.mono Hw2.out.size))
        have Hl3 := Lib.hid (Hl2.out.below hb3)
        have Hu3 := Lib.hid (Hu2.out.below hb3)
        have Hrz3 := Lib.hid ((hb3.block _ (by omega)).trans Hrz2.out)
        have Hrw3 := Lib.hid ((hb3.block _ (by omega)).trans Hrw2.out)
        have hz3 := hb3.size
        clear hb3 p0 p1
        cases vb with
        | false =>
          have HR := Lib.hid (show stmE l us pa mf mt = (8, stm0) by unfold stmE; rw [if_neg (by rw [← Her.out, he]; simp), if_neg (by omega), if_neg (by omega), if_pos HVb.out.symm])
          go_upto_region 7 with (fail)
          repeat (first | refine wpList_store_row rfl _ _ _ rfl (w.heap.size + 1) #[.int .i64 0, .int .i64 0, .int .i64 0, .slice none 0 0, .int .i64 0] rfl rfl 32 _ Hrw3.out (by kernel_rfl) rfl (by simp [Value.oneCell']) ?_ | go_step)
          obtain ⟨t0, t1, t2, t3, t4, -⟩ := Box5.cells (t := 32) (setRow_heap w3 _ _ #[.int .i64 0, .int .i64 0, .int .i64 0, .slice none 0 0, .int .i64 0] _ _ Hrw3.out)
          refine ret_rstm (g := w.heap.size + 1) rfl rfl rfl t0 t1 t2 t3 t4 ?_
          rw [HR.out]
          exact ⟨_, rfl, World.ownsRow_nil _ _ _ _, below_setRow1 Hw3.out (by omega) _⟩
        | true =>
          have HR := Lib.hid (show stmE l us pa mf mt = stmL pa mf mt (stL (cntU pa mf mt us) (oursL pa l) [] 0) by unfold stmE; rw [if_neg (by rw [← Her.out, he]; simp), if_neg (by omega), if_neg (by omega), if_neg (by rw [← HVb.out]; simp)])
          obtain ⟨V, hV⟩ : ∃ V, V = w3.alloc (Obj.cells #[Value.int .i64 pa, .int .i64 mf, .int .i64 mt, .slice none 0 0, .int .i64 0] 32) := ⟨_, rfl⟩
          have hbV : Below w3.heap.size w3 V := by rw [hV]; exact (Below.refl _ _).alloc (Nat.le_refl _) _
          have hVn : V.heap[w3.heap.size]? = some (Obj.cells #[Value.int .i64 pa, .int .i64 mf, .int .i64 mt, .slice none 0 0, .int .i64 0] 32) := by rw [hV]; exact heap_alloc_new _ _
          have hzV : V.heap.size = w3.heap.size + 1 := by rw [hV]; simp
          have HbV := Lib.hid hbV
          have HuV := Lib.hid (Hu3.out.below hbV)
          have HrzV := Lib.hid ((hbV.block _ (by omega)).trans Hrz3.out)
          have HrwV := Lib.hid ((hbV.block _ (by omega)).trans Hrw3.out)
          have HwV := Lib.hid (Hw3.out.trans (hbV.mono Hw3.out.size))
          have HVn := Lib.hid hVn
          have HV := Lib.hid hV
          have HO := Lib.hid (ours_calls vl l pa w3 V Hl3.out hbV (by omega))
          have p0 := cell_of_row w3 _ 0 _ _ _ Hrz3.out
          have p1 := cell_of_row w3 _ 1 _ _ _ Hrz3.out
          clear hbV hVn hV
          go_upto_region 9 with (fail)
          rw [← HV.out]
          clear p0 p1
          go_wp2_with fail
          refine HO.out.mono ?_
          rintro e w4 ⟨vo, N, rfl, hown4, hNm, hNs, hNl, hb4⟩
          obtain ⟨ol, hol⟩ : ∃ ol, ol = oursL pa l := ⟨_, rfl⟩
          rw [← hol] at hNm HR
          have hNo : N.length = ol.length := by rw [← hNm, List.length_map]
          have Hpa := Lib.hid (show ∀ a ∈ ol, a.pa = pa from fun a ha => ours_pa (l := l) (hol ▸ ha))
          have HNm := Lib.hid hNm
          have HNs := Lib.hid hNs
          have Hown4 := Lib.hid hown4
          have Hb4 := Lib.hid hb4
          have hb3V : w3.heap.size ≤ V.heap.size := by omega
          have HB4 := Lib.hid (hb4.block w3.heap.size (by omega))
          have hz4 := hb4.size
          obtain ⟨ao, co, rfl, hco, hcm⟩ := own_shape hown4
          unfold maxLen at hcm
          have hN19 : N.length ≤ 19 := by omega
          obtain ⟨n, hn⟩ : ∃ n, n = N.length := ⟨_, rfl⟩
          have Hn := Lib.hid hn
          have HNo := Lib.hid hNo
          rw [← hn] at hN19 hco ⊢
          clear hn hol hNm hNs hown4 hb4 hNo hNl HO
          go_wp2_with fail
          go_loopg [13] n (fun g i wx => ∃ k : Nat, k + g = n ∧ i = .int .i64 k ∧ ChS ol us pa mf mt V w3.heap.size w4 k wx)
          case atStart => exact ⟨0, by omega, rfl, .slice none 0 0, [], 0, HB4.out.trans HVn.out, World.ownsRow_nil _ _ _ _, (Hb4.out.mono (by omega)), fun _ _ _ => rfl, Nat.le_refl _, by rw [List.drop_zero], Nat.le_refl _, by omega, by omega⟩
          case round =>
            obtain ⟨k, hkg, rfl, hr⟩ := hrel
            have Hr := Lib.hid hr
            clear hr
            cases gk with
            | zero =>
              have hkz : ¬ ((k : Int) < (n : Int)) := by omega
              obtain ⟨vch, cs, net, hrow, hown, hbr, hkeep, hsz, hst, -, hn1, hn2⟩ := Hr.out
              rw [List.drop_of_length_le (by have := Hn.out; have := HNo.out; omega)] at hst
              rw [← hst] at HR
              obtain ⟨ab, hab⟩ : ∃ ab, ab = amB net := ⟨_, rfl⟩
              have HAm := Lib.hid (ramvalid_calls net wr)
              rw [← hab] at HAm
              have o4 := cell_of_row wr _ 4 _ _ _ hrow
              have Hrow := Lib.hid hrow
              have Hown := Lib.hid hown
              have Hab := Lib.hid hab
              have Hwr := Lib.hid (HwV.out.trans (hbr.mono (by omega)))
              have Hrwr := Lib.hid ((hbr.block _ (by omega)).trans HrwV.out)
              clear hrow hown hab hst hbr hkeep
              go_wp2_with fail
              refine HAm.out.mono ?_
              rintro e w7 ⟨rfl, hb7⟩
              have hBr : w3.heap.size < wr.heap.size := (Array.getElem?_eq_some_iff.1 Hrow.out).1
              have hsr := Hwr.out.size
              have Hrow7 := Lib.hid ((hb7.block _ hBr).trans Hrow.out)
              have Hrw7 := Lib.hid ((hb7.block _ (by omega)).trans Hrwr.out)
              have Hw7 := Lib.hid (Hwr.out.trans (hb7.mono (by omega)))
              have Hown7 := Lib.hid (ownsRow_below Hown.out hb7)
              clear hb7 o4
              cases ab with
              | false =>
                have HE := Lib.hid (HR.out.trans (show stmL pa mf mt (0, cs, net) = (6, stm0) by unfold stmL; rw [if_neg (by simp), if_neg (by rw [← Hab.out]; simp)]))
                go_upto_region 24 with (fail)
                repeat (first | refine wpList_store_row rfl _ _ _ rfl (w.heap.size + 1) #[.int .i64 0, .int .i64 0, .int .i64 0, .slice none 0 0, .int .i64 0] rfl rfl 32 _ Hrw7.out (by kernel_rfl) rfl (by simp [Value.oneCell']) ?_ | go_step)
                obtain ⟨t0, t1, t2, t3, t4, -⟩ := Box5.cells (t := 32) (setRow_heap w7 _ _ #[.int .i64 0, .int .i64 0, .int .i64 0, .slice none 0 0, .int .i64 0] _ _ Hrw7.out)
                refine ret_rstm (g := w.heap.size + 1) rfl rfl rfl t0 t1 t2 t3 t4 ?_
                rw [HE.out]
                exact ⟨_, rfl, World.ownsRow_nil _ _ _ _, below_setRow1 Hw7.out (by omega) _⟩
              | true =>
                have HE := Lib.hid (HR.out.trans (show stmL pa mf mt (0, cs, net) = (0, ⟨pa, mf, mt, cs, net⟩) by unfold stmL; rw [if_neg (by simp), if_pos (by rw [← Hab.out])]))
                obtain ⟨q0, q1, q2, q3, q4, -⟩ := Box5.cells (t := 32) Hrow7.out
                obtain ⟨vca, vcc, rfl, -, -⟩ := own_shape Hown7.out
                go_upto_region 25 with (fail)
                repeat (first | refine wpList_store_row rfl _ _ _ rfl (w.heap.size + 1) #[.int .i64 pa, .int .i64 mf, .int .i64 mt, .slice vca cs.length vcc, .int .i64 net] rfl rfl 32 _ Hrw7.out (by kernel_rfl) rfl (by simp [Value.oneCell']) ?_ | go_step)
                obtain ⟨t0, t1, t2, t3, t4, -⟩ := Box5.cells (t := 32) (setRow_heap w7 _ _ #[.int .i64 pa, .int .i64 mf, .int .i64 mt, .slice vca cs.length vcc, .int .i64 net] _ _ Hrw7.out)
                refine ret_rstm (g := w.heap.size + 1) rfl rfl rfl t0 t1 t2 t3 t4 ?_
                rw [HE.out]
                exact ⟨_, rfl, own_down (own_setRow1 Hown7.out (by omega) _) (by omega), below_setRow1 Hw7.out (by omega) _⟩
            | succ g0 =>
              have hlt : k < n := by omega
              have hk1 : (k : Int) < (n : Int) := by omega
              have hk0 : (0 : Int) ≤ (k : Int) := Int.natCast_nonneg _
              obtain ⟨vch, cs, net, hrow, hown, hbr, hkeep, hsz, hst, hcl, hn1, hn2⟩ := Hr.out
              have hlN : k < N.length := by have := Hn.out; omega
              have hlo : k < ol.length := by have := HNo.out; omega
              obtain ⟨g, rfl⟩ : ∃ g, ao = some ⟨g, 0, none⟩ := by
                rcases Hown4.out.2 with ⟨h1, h2⟩ | ⟨g, cap', cur, hv, -⟩
                · omega
                · simp only [Value.slice.injEq] at hv
                  exact ⟨g, hv.1⟩
              have hgB := (ownsRow_block Hown4.out g rfl)
              have hge := hkeep g (by omega) (by omega)
              have hgr : g < wr.heap.size := by omega
              have hzr := fun j (hj : j < 7) => (World.cell?_of_block (a := ⟨g, _, none⟩) hge).trans ((Hown4.out.cellAt (k * 7 + j) (by omega)).trans (flat_get agxCells 7 (fun _ => rfl) N k j hlN hj))
              obtain ⟨hsr, hsn⟩ := HNs.out N[k] (List.getElem_mem hlN)
              have hbr3 : Below w3.heap.size w3 wr := HbV.out.trans (hbr.mono (by omega))
              have Hsv := Lib.hid (hsr.below hbr3)
              have hpk := Hpa.out ol[k] (List.getElem_mem hlo)
              have hrk : N[k].1 = ol[k] := by
                have := HNm.out
                subst this
                exact (List.getElem_map ..).symm
              have HSt := Lib.hid (show stL (cntU pa mf mt us) (ol.drop k) cs net = (if (cntU pa mf mt us ol[k]).1 = 0 then stL (cntU pa mf mt us) (ol.drop (k + 1)) cs net else if (agPriceL ol[k] 0 (cntU pa mf mt us ol[k]).2).2 ≠ 0 then ((agPriceL ol[k] 0 (cntU pa mf mt us ol[k]).2).2, [], 0) else
                  stL (cntU pa mf mt us) (ol.drop (k + 1)) (cs ++ [⟨ol[k].kd, ol[k].ib, (cntU pa mf mt us ol[k]).1, (cntU pa mf mt us ol[k]).2, (agPriceL ol[k] 0 (cntU pa mf mt us ol[k]).2).1⟩]) (if ol[k].ib = true then net + (agPriceL ol[k] 0 (cntU pa mf mt us ol[k]).2).1 else net - (agPriceL ol[k] 0 (cntU pa mf mt us ol[k]).2).1)) by
                rw [List.drop_eq_getElem_cons hlo, stL])
              have Hst := Lib.hid hst
              rw [← hrk] at HSt hpk
              clear hst hrk hsr hsn
              generalize N[k] = r at *
              obtain ⟨⟨xp, xk, xi, xf, xt, xst, xcp⟩, ⟨xa, xn, xc⟩⟩ := r
              unfold agxCells agxV at hzr
              unfold agxV at Hsv
              dsimp only at hzr HSt Hsv hpk
              have d0 := hzr 0 (by omega)
              have d1 := hzr 1 (by omega)
              have d2 := hzr 2 (by omega)
              have d3 := hzr 3 (by omega)
              have d4 := hzr 4 (by omega)
              have d5 := hzr 5 (by omega)
              have d6 := hzr 6 (by omega)
              have d0 : wr.cell? ⟨g, k * 7, none⟩ = some (.int .i64 xp) := d0
              have rzr := (hbr.block _ (by omega)).trans HrzV.out
              have Hur := Lib.hid (Hu3.out.below hbr3)
              have Hrow := Lib.hid hrow
              have Hown := Lib.hid hown
              have Hbr := Lib.hid hbr
              have Hkeep := Lib.hid hkeep
              have hBr : w3.heap.size < wr.heap.size := (Array.getElem?_eq_some_iff.1 hrow).1
              have HI := Lib.hid (fun w1 => rintersect_calls xf xt mf mt w1)
              have HMV := Lib.hid (show ∃ p1 p2 : Int, meetV xf xt mf mt = .agg #[.int .i64 p1, .int .i64 p2] ∧ (meetB xf xt mf mt = true → p1 = max xf mf ∧ p2 = min xt mt) by
                unfold meetV; split
                · exact ⟨_, _, rfl, fun _ => ⟨rfl, rfl⟩⟩
                · rename_i h
                  exact ⟨_, _, rfl, fun h2 => absurd h2 h⟩)
              obtain ⟨p1, p2, hpv, hp12⟩ := HMV.out
              rw [hpv] at HI
              have HCy := Lib.hid (fun (h : meetB xf xt mf mt = true) => cntR_yes (a := ⟨xp, xk, xi, xf, xt, xst, xcp⟩) hpk h us)
              have HCn := Lib.hid (fun (h : meetB xf xt mf mt = false) => cntU_no (pa := pa) (a := ⟨xp, xk, xi, xf, xt, xst, xcp⟩) h us)
              have Hp12 := Lib.hid hp12
              dsimp only at HCy
              obtain ⟨mb, hmb⟩ : ∃ mb, mb = meetB xf xt mf mt := ⟨_, rfl⟩
              rw [← hmb] at HI HCy HCn Hp12
              have HCt := Lib.hid (fun w1 (hb : Below wr.heap.size wr w1) => rcount_calls vu us pa xk xi p1 p2 w1 (Hur.out.below hb) hul)
              have Dd := Lib.hid (And.intro d0 (And.intro d1 (And.intro d2 (And.intro d3 (And.intro d4 (And.intro d5 d6))))))
              have Hrz := Lib.hid rzr
              have hzlt : w.heap.size < wr.heap.size := by omega
              have Mk := Lib.hid (show ∀ w' : World, Below wr.heap.size wr w' → Below wr.heap.size wr w' ∧ w'.cell? ⟨w.heap.size, 0, none⟩ = some (.int .i64 mf) ∧ w'.cell? ⟨w.heap.size, 1, none⟩ = some (.int .i64 mt) ∧ w'.cell? ⟨g, k * 7 + 3, none⟩ = some (.int .i64 xf) ∧ w'.cell? ⟨g, k * 7 + 4, none⟩ = some (.int .i64 xt) from fun w' hw => by
                have q1 := (hw.block _ hzlt).trans Hrz.out
                obtain ⟨d0, d1, d2, d3, d4, d5, d6⟩ := Dd.out
                exact ⟨hw, cell_of_row w' _ 0 _ _ _ q1, cell_of_row w' _ 1 _ _ _ q1, (hw.cell (p := ⟨g, _, none⟩) hgr).trans d3, (hw.cell (p := ⟨g, _, none⟩) hgr).trans d4⟩)
              have HgB := Lib.hid hgB
              have Hsz := Lib.hid hsz
              have Hcl := Lib.hid hcl
              have Hn1 := Lib.hid hn1
              have Hn2 := Lib.hid hn2
              have Hz4 := Lib.hid hz4
              have HzV := Lib.hid hzV
              clear hpv hp12 hmb d0 d1 d2 d3 d4 d5 d6 rzr hrow hown hbr hbr3 hkeep hzr hge HMV hpk hgB hsz hcl hn1 hn2
              have hrr := Below.refl wr.heap.size wr
              go_upto_region 13 with (fail)
              go_cut [14, 15] (fun s14 s15 wx => ∃ bx : Nat, s14 = .pointer (some ⟨bx, 0, none⟩) ∧ s15 = .bool mb ∧ Below wr.heap.size wr wx ∧ wx.cell? ⟨bx, 0, none⟩ = some (.int .i64 p1) ∧ wx.cell? ⟨bx, 1, none⟩ = some (.int .i64 p2) ∧ bx < wx.heap.size)
              case first =>
                go_region_held3 (fun w' : World => Below wr.heap.size wr w' ∧ w'.cell? ⟨w.heap.size, 0, none⟩ = some (.int .i64 mf) ∧ w'.cell? ⟨w.heap.size, 1, none⟩ = some (.int .i64 mt) ∧ w'.cell? ⟨g, k * 7 + 3, none⟩ = some (.int .i64 xf) ∧ w'.cell? ⟨g, k * 7 + 4, none⟩ = some (.int .i64 xt))
                  (first
                    | exact Mk.out _ (by assumption)
                    | exact Mk.out _ (Below.refl _ _).drew
                    | exact Mk.out _ (Below.alloc (And.left (by assumption)) (Below.size (And.left (by assumption))) _)
                    | exact Mk.out _ (Below.alloc (by assumption) (Below.size (by assumption)) _)
                    | exact Mk.out _ (Below.setCell (Below.setCell (And.left (by assumption)) (by first | omega | (simp; done) | (simp; omega)) _) (by first | omega | (simp; done) | (simp; omega)) _)
                    | exact Mk.out _ (Below.setCell (Below.setCell (Below.alloc (And.left (by assumption)) (Below.size (And.left (by assumption))) _) (by first | omega | (simp; done) | (simp; omega)) _) (by first | omega | (simp; done) | (simp; omega)) _))
                  (first
                    | (go_at_call 31
                       refine (HI.out _).mono ?_
                       rintro e w5 ⟨rfl, hb5⟩
                       have hY5 : Below wr.heap.size wr w5 := Below.trans (And.left (by assumption)) (hb5.mono (Below.size (And.left (by assumption))))
                       have hz5 := hY5.size
                       (first
                         | (refine (fun (z0 : w5.cell? ⟨wr.heap.size, 0, none⟩ = some (.int .i64 0)) => ?_) ((hb5.cell (p := ⟨wr.heap.size, 0, none⟩) ?_).trans ?_)
                            rotate_left
                            · (simp; done)
                            · (simp [go_sem]; done))
                         | skip)
                       (first
                         | (refine (fun (z1 : w5.cell? ⟨wr.heap.size, 1, none⟩ = some (.int .i64 0)) => ?_) ((hb5.cell (p := ⟨wr.heap.size, 1, none⟩) ?_).trans ?_)
                            rotate_left
                            · (simp; done)
                            · (simp [go_sem]; done))
                         | skip)
                       (first
                         | (refine (fun (z2 : w5.frozen? ⟨wr.heap.size, 0, none⟩ = false) => ?_) ((hb5.frozen (p := ⟨wr.heap.size, 0, none⟩) ?_).trans ?_)
                            rotate_left
                            · (simp; done)
                            · (simp [go_sem]; done))
                         | skip)
                       (first
                         | (refine (fun (z3 : w5.frozen? ⟨wr.heap.size, 1, none⟩ = false) => ?_) ((hb5.frozen (p := ⟨wr.heap.size, 1, none⟩) ?_).trans ?_)
                            rotate_left
                            · (simp; done)
                            · (simp [go_sem]; done))
                         | skip)
                       clear hb5))
                all_goals
                  go_wp2_with fail
                  go_meet
                  first
                    | exact ⟨_, rfl, rfl, hY5.alloc hz5 _, cell_of_row _ _ 0 _ _ _ (heap_alloc_new _ _), cell_of_row _ _ 1 _ _ _ (heap_alloc_new _ _), by simp⟩
                    | (obtain ⟨q0, q1, q2⟩ := two_cells (w := w5) (g := wr.heap.size) (.int .i64 p1) (.int .i64 p2) z0 z1
                       exact ⟨_, rfl, rfl, Below.setCell (Below.setCell hY5 (Nat.le_refl _) _) (Nat.le_refl _) _, q0, q1, q2⟩)
              case rest =>
                obtain ⟨bx, rfl, rfl, hbx, hx0, hx1, hxl⟩ := hcut
                obtain ⟨w5, rfl⟩ : ∃ w5 : World, w5 = wc := ⟨_, rfl⟩
                clear HI Mk
                obtain ⟨cp, hcp⟩ : ∃ cp, cp = cntR pa xk xi p1 p2 us := ⟨_, rfl⟩
                have Hcp := Lib.hid hcp
                rw [← hcp] at HCt
                clear hcp
                obtain ⟨cc, cv⟩ := cp
                unfold CntTo at HCt
                dsimp only at HCt
                obtain ⟨d0, d1, d2, d3, d4, d5, d6⟩ := Dd.out
                have hgw5 : g < w5.heap.size := by have := hbx.size; omega
                have e1 := (hbx.cell (p := ⟨g, k * 7 + 1, none⟩) hgr).trans d1
                have e2 := (hbx.cell (p := ⟨g, k * 7 + 2, none⟩) hgr).trans d2
                have f1 := fun p : BelowOf w5 => BelowOf.cell (a := ⟨g, _, none⟩) hgw5 e1 p
                have f2 := fun p : BelowOf w5 => BelowOf.cell (a := ⟨g, _, none⟩) hgw5 e2 p
                have x0 := fun p : BelowOf w5 => BelowOf.cell (a := ⟨bx, _, none⟩) hxl hx0 p
                have x1 := fun p : BelowOf w5 => BelowOf.cell (a := ⟨bx, _, none⟩) hxl hx1 p
                have Hbx := Lib.hid hbx
                have HCt5 := Lib.hid (fun p : BelowOf w5 => HCt.out p.w (Hbx.out.trans (p.h.mono Hbx.out.size)))
                have hr5 := Below.refl w5.heap.size w5
                clear d0 d1 d2 d3 d4 d5 d6 e1 e2 hx0 hx1 hxl hgw5 hbx HCt
                go_upto_region 14 with (fail)
                refine wp_region_quiet_below hr5 (by kernel_rfl) (by kernel_rfl) ?_
                repeat (go_big_quiet_step (first | (go_at_call 32; refine calls_below_of (HCt5.out _) (fun e w' h => h))))
                refine wpQuiet_nil ?_
                intro wa hw'
                have hYa : Below w5.heap.size w5 wa := by obtain ⟨pq, rfl⟩ := hw'; exact pq.h
                have Hba := Lib.hid (Hbx.out.trans (hYa.mono Hbx.out.size))
                clear hw' hYa f1 f2 x0 x1 hr5 HCt5
                have HRowA := Lib.hid ((Hba.out.block w3.heap.size hBr).trans Hrow.out)
                have HOwnA := Lib.hid (ownsRow_below Hown.out Hba.out)
                have HbrA := Lib.hid (Hbr.out.trans (Hba.out.mono (by omega)))
                have HkeepA := Lib.hid (show ∀ g, w3.heap.size < g → g < w4.heap.size → wa.heap[g]? = w4.heap[g]? from fun g h1 h2 => (Hba.out.block g (by have := Hsz.out; omega)).trans (Hkeep.out g h1 h2))
                have HszA := Lib.hid (show w4.heap.size ≤ wa.heap.size by have := Hsz.out; have := Hba.out.size; omega)
                by_cases hskip : mb = false ∨ cc = 0
                · have HE := Lib.hid (HSt.out.symm.trans Hst.out |> fun h => (if_pos (show (cntU pa mf mt us ⟨xp, xk, xi, xf, xt, xst, xcp⟩).1 = 0 by
                    cases mb with
                    | false => exact HCn.out rfl
                    | true =>
                      obtain ⟨e1, e2⟩ := Hp12.out rfl
                      have h1 := HCy.out rfl
                      rw [← e1, ← e2, ← Hcp.out] at h1
                      rw [← h1]
                      exact hskip.resolve_left (by simp))).symm.trans h)
                  cases mb with
                  | false =>
                    clear hskip
                    go_wp2
                    go_roundg g0
                    case measure => omega
                    case rel => exact ⟨k + 1, by omega, by first | rfl | simp, vch, cs, net, HRowA.out, HOwnA.out, HbrA.out, HkeepA.out, HszA.out, HE.out, by have := Hcl.out; omega, by have := Hn1.out; omega, by have := Hn2.out; omega⟩
                  | true =>
                    obtain rfl : cc = 0 := hskip.resolve_left (by simp)
                    clear hskip
                    go_wp2
                    go_roundg g0
                    case measure => omega
                    case rel => exact ⟨k + 1, by omega, by first | rfl | simp, vch, cs, net, HRowA.out, HOwnA.out, HbrA.out, HkeepA.out, HszA.out, HE.out, by have := Hcl.out; omega, by have := Hn1.out; omega, by have := Hn2.out; omega⟩
                · obtain rfl : mb = true := by
                    cases mb with
                    | false => exact absurd (Or.inl rfl) hskip
                    | true => rfl
                  have hcc : ¬ cc = 0 := fun e => hskip (Or.inr e)
                  have HcU := Lib.hid (show cntU pa mf mt us ⟨xp, xk, xi, xf, xt, xst, xcp⟩ = (cc, cv) by
                    obtain ⟨e1, e2⟩ := Hp12.out rfl
                    have h1 := HCy.out rfl
                    rw [← e1, ← e2, ← Hcp.out] at h1
                    exact h1.symm)
                  rw [HcU.out] at HSt
                  dsimp only at HSt
                  have HSt2 := Lib.hid (HSt.out.trans (if_neg hcc))
                  have hccb : (cc == 0) = false := beq_eq_false_iff_ne.2 hcc
                  have HPr := Lib.hid (fun w' (hb : Below wr.heap.size wr w') => ragprice_calls ⟨xp, xk, xi, xf, xt, xst, xcp⟩ _ 0 cv w' (Hsv.out.below hb))
                  have HPc := Lib.hid (fun (h : (agPriceL ⟨xp, xk, xi, xf, xt, xst, xcp⟩ 0 cv).2 = 0) => price_charge (a := ⟨xp, xk, xi, xf, xt, xst, xcp⟩) (n := cv) h)
                  unfold priceTup agVal at HPr
                  dsimp only at HPr
                  obtain ⟨pr, hpr⟩ : ∃ pr, pr = agPriceL ⟨xp, xk, xi, xf, xt, xst, xcp⟩ 0 cv := ⟨_, rfl⟩
                  rw [← hpr] at HSt2 HPr HPc
                  clear hpr hcc hskip HSt HCy HCn Hp12
                  obtain ⟨px, pe⟩ := pr
                  dsimp only at HSt2 HPr HPc
                  have HPA := Lib.hid (HPr.out wa Hba.out)
                  obtain ⟨d0, d1, d2, d3, d4, d5, d6⟩ := Dd.out
                  have e0 := (Hba.out.cell (p := ⟨g, k * 7, none⟩) hgr).trans d0
                  have e1 := (Hba.out.cell (p := ⟨g, k * 7 + 1, none⟩) hgr).trans d1
                  have e2 := (Hba.out.cell (p := ⟨g, k * 7 + 2, none⟩) hgr).trans d2
                  have e3 := (Hba.out.cell (p := ⟨g, k * 7 + 3, none⟩) hgr).trans d3
                  have e4 := (Hba.out.cell (p := ⟨g, k * 7 + 4, none⟩) hgr).trans d4
                  have e5 := (Hba.out.cell (p := ⟨g, k * 7 + 5, none⟩) hgr).trans d5
                  have e6 := (Hba.out.cell (p := ⟨g, k * 7 + 6, none⟩) hgr).trans d6
                  clear d0 d1 d2 d3 d4 d5 d6
                  go_wp2_with fail
                  refine HPA.out.mono ?_
                  rintro e w8 ⟨rfl, hb8⟩
                  have Hb8 := Lib.hid (Hba.out.trans (hb8.mono Hba.out.size))
                  clear e0 e1 e2 e3 e4 e5 e6 hb8
                  by_cases hpe : pe = 0
                  · have hpb : (pe != 0) = false := bne_eq_false_iff_eq.2 hpe
                    obtain ⟨hp0, hp1⟩ := HPc.out hpe
                    have HSt3 := Lib.hid (HSt2.out.trans (if_neg (fun h => h hpe)))
                    clear hpe
                    obtain ⟨i0, hi, hz0, hz1, hz2⟩ := info_parts Tryd.chInfo
                    have Hi := Lib.hid (And.intro hi (And.intro hz0 (And.intro hz1 hz2)))
                    clear hi hz0 hz1 hz2
                    obtain ⟨cha, chc, rfl, -, -⟩ := own_shape Hown.out
                    have HRow8 := Lib.hid ((Hb8.out.block w3.heap.size hBr).trans Hrow.out)
                    have HOwn8 := Lib.hid (ownsRow_below Hown.out Hb8.out)
                    have Hbr8 := Lib.hid (Hbr.out.trans (Hb8.out.mono (by omega)))
                    have q8 := Hb8.out.size
                    have qs := Hsz.out
                    have Hkeep8 := Lib.hid (show ∀ g, w3.heap.size < g → g < w4.heap.size → w8.heap[g]? = w4.heap[g]? from fun g h1 h2 => (Hb8.out.block g (by omega)).trans (Hkeep.out g h1 h2))
                    have hG8 := Lib.hid (Hb8.out.block g hgr)
                    obtain ⟨d0, d1, d2, d3, d4, d5, d6⟩ := Dd.out
                    have z1 := (World.cell?_of_block (a := ⟨g, k * 7 + 1, none⟩) hG8.out).trans d1
                    have z2 := (World.cell?_of_block (a := ⟨g, k * 7 + 2, none⟩) hG8.out).trans d2
                    have o3 := cell_of_row w8 _ 3 _ _ _ HRow8.out
                    have hgB1 := HgB.out.1
                    have hgB2 := HgB.out.2
                    have hz4 := Hz4.out
                    have hzV := HzV.out
                    have hcl := Hcl.out
                    have hg8 : g < w8.heap.size := by omega
                    have hB8 : w3.heap.size < w8.heap.size := by omega
                    have Mk := Lib.hid (show ∀ w' : World, (w'.heap[w3.heap.size]? = w8.heap[w3.heap.size]? ∧ w'.heap[g]? = w8.heap[g]?) → w'.cell? ⟨w3.heap.size, 3, none⟩ = some (.slice cha cs.length chc) ∧ w'.cell? ⟨g, k * 7 + 1, none⟩ = some (.int .i64 xk) ∧ w'.cell? ⟨g, k * 7 + 2, none⟩ = some (.bool xi) from fun w' h => ⟨(World.cell?_of_block (a := ⟨w3.heap.size, 3, none⟩) h.1).trans o3, (World.cell?_of_block (a := ⟨g, _, none⟩) h.2).trans z1, (World.cell?_of_block (a := ⟨g, _, none⟩) h.2).trans z2⟩)
                    have HGrow := Lib.hid (show ∀ (wb w9 : World), wb.heap = (w8.alloc (Obj.cells #[.int .i64 xk, .bool xi, .int .i64 cc, .int .i64 cv, .int .i64 px] 49)).heap → wb.grownBy w9 (Value.slice cha cs.length chc).ownBlock → ∀ q, q < w4.heap.size → w9.heap[q]? = w8.heap[q]? from fun wb w9 e hg q hq => (hg.block q (by rw [e]; simp; omega) (fun e => by have := (ownsRow_block Hown.out _ e.symm).1; omega)).trans (by rw [e]; exact Below.heap_alloc _ _ _ (by omega)))
                    clear d0 d1 d2 d3 d4 d5 d6
                    go_upto_region 19 with (fail)
                    go_cut [112] (fun s112 wx => ∃ vv : Value, wx.heap[w3.heap.size]? = some (Obj.cells #[Value.int .i64 pa, .int .i64 mf, .int .i64 mt, vv, .int .i64 net] 32) ∧ wx.ownsRow w4.heap.size 49 5 vv (cs.length + 1) (cs.flatMap chCells ++ [.int .i64 xk, .bool xi, .int .i64 cc, .int .i64 cv, .int .i64 px]) ∧ Below w3.heap.size V wx ∧ (∀ q, w3.heap.size < q → q < w4.heap.size → wx.heap[q]? = w4.heap[q]?) ∧ w4.heap.size ≤ wx.heap.size)
                    case first =>
                      go_region_law
                        ((refine step_append_lies _ (by rfl) _ _ _ (by rfl) w4.heap.size 49 i0 _ 5 40 Tryd.underlying30 Hi.out.1 Hi.out.2.1 Hi.out.2.2.1 Hi.out.2.2.2 rfl (by omega) (Value.slice cha cs.length chc) cs.length (cs.flatMap chCells) (by rfl) ((HOwn8.out.alloc _).drew) ⟨w8.heap.size, 0, none⟩ 1 1 [.int .i64 xk, .bool xi, .int .i64 cc, .int .i64 cv, .int .i64 px] (by rfl) (by rfl) (World.news_of_block (cs := #[.int .i64 xk, .bool xi, .int .i64 cc, .int .i64 cv, .int .i64 px]) (t := 49) (fr := (0, 0)) (heap_alloc_new w8 _)) (by simp [Value.oneCell']) (by omega) (by unfold maxLen; omega) (by omega) (by simp; omega) (w8.heap.size + 1) (by simp) ?_; intro gg capg w9 hown9 hgrow9 hat9 hlt9
                          have hk9 := Lib.hid (HGrow.out (World.drew _) w9 rfl hgrow9)
                          have hG9 : w9.heap[w3.heap.size]? = w8.heap[w3.heap.size]? ∧ w9.heap[g]? = w8.heap[g]? := ⟨hk9.out _ (by omega), hk9.out _ (by omega)⟩
                          have rB9 := hG9.1.trans HRow8.out
                          have p3 := cell_of_row w9 _ 3 _ _ _ rB9
                          have fz3 : w9.frozen? ⟨w3.heap.size, 3, none⟩ = false := by simp [World.frozen?, rB9]))
                      all_goals
                        clear p3 fz3 z1 z2 o3
                        go_wp2_with fail
                        go_meet
                        have hbG9 : Below w3.heap.size w8 w9 := ((((Below.refl w3.heap.size w8).alloc (by omega) (Obj.cells #[.int .i64 xk, .bool xi, .int .i64 cc, .int .i64 cv, .int .i64 px] 49)).drew).grown hgrow9 (by simp; omega) (fun g hg => by have := (ownsRow_block Hown.out _ hg).1; omega))
                        exact ⟨_, heap_setCell_same w9 _ 3 _ _ _ rB9, ownsRow_setCell_below hown9 (by show w3.heap.size < _; omega) _, (Hbr8.out.trans hbG9).setCell (Nat.le_refl _) _, fun q h1 h2 => (Below.heap_setCell _ _ _ _ (by show q ≠ w3.heap.size; omega)).trans ((hk9.out q h2).trans (Hkeep8.out q h1 h2)), by have := hbG9.size; simp [World.setCell]; omega⟩
                    case rest =>
                      obtain ⟨vv, rB10, hown10, hb10, hk10, hs10'⟩ := hcut
                      obtain ⟨w10, rfl⟩ : ∃ w10 : World, w10 = wc := ⟨_, rfl⟩
                      obtain ⟨va10, vc10, rfl, -, -⟩ := own_shape hown10
                      have HK10 := Lib.hid hk10
                      have Hb10 := Lib.hid hb10
                      have Hown10 := Lib.hid hown10
                      have e2 := (World.cell?_of_block (a := ⟨g, k * 7 + 2, none⟩) ((HK10.out g (by omega) hgB2).trans (Hkeep.out g (by omega) hgB2).symm)).trans Dd.out.2.2.1
                      have o4 := cell_of_row w10 _ 4 _ _ _ rB10
                      have f4 : w10.frozen? ⟨w3.heap.size, 4, none⟩ = false := by simp [World.frozen?, rB10]
                      have HrB10 := Lib.hid rB10
                      have qn1 := Hn1.out
                      have qn2 := Hn2.out
                      clear rB10 hown10 hb10 hk10 z1 z2 o3
                      cases xi with
                      | true =>
                        have hws : IntKind.i64.wrap (net + px) = net + px := IntWalk.i64_in _ (by omega)
                        have HE := Lib.hid (HSt3.out.symm.trans Hst.out)
                        go_wp2
                        go_roundg g0
                        case measure => omega
                        case rel => exact ⟨k + 1, by omega, by first | rfl | simp, .slice va10 (cs.length + 1) vc10, cs ++ [⟨xk, true, cc, cv, px⟩], net + px, heap_setCell_same _ _ 4 _ _ _ HrB10.out, by rw [List.length_append, List.flatMap_append]; exact ownsRow_setCell_below Hown10.out (by show w3.heap.size < _; omega) _, Hb10.out.setCell (Nat.le_refl _) _, fun q h1 h2 => (Below.heap_setCell _ _ _ _ (by show q ≠ w3.heap.size; omega)).trans (HK10.out q h1 h2), by simpa [World.setCell] using hs10', by rw [← HE.out, if_pos (by first | rfl | trivial)], by rw [List.length_append]; simp; omega, by omega, by omega⟩
                      | false =>
                        have hws : IntKind.i64.wrap (net - px) = net - px := IntWalk.i64_in _ (by omega)
                        have HE := Lib.hid (HSt3.out.symm.trans Hst.out)
                        go_wp2
                        go_roundg g0
                        case measure => omega
                        case rel => exact ⟨k + 1, by omega, by first | rfl | simp, .slice va10 (cs.length + 1) vc10, cs ++ [⟨xk, false, cc, cv, px⟩], net - px, heap_setCell_same _ _ 4 _ _ _ HrB10.out, by rw [List.length_append, List.flatMap_append]; exact ownsRow_setCell_below Hown10.out (by show w3.heap.size < _; omega) _, Hb10.out.setCell (Nat.le_refl _) _, fun q h1 h2 => (Below.heap_setCell _ _ _ _ (by show q ≠ w3.heap.size; omega)).trans (HK10.out q h1 h2), by simpa [World.setCell] using hs10', by rw [← HE.out, if_neg (by simp)], by rw [List.length_append]; simp; omega, by omega, by omega⟩
                  · have hpb : (pe != 0) = true := bne_iff_ne.2 hpe
                    have HE := Lib.hid (HR.out.trans (show stmL pa mf mt (stL (cntU pa mf mt us) ol [] 0) = (pe, stm0) by rw [← Hst.out, HSt2.out, if_pos hpe]; unfold stmL; rw [if_pos hpe]))
                    have q8 := Hb8.out.size
                    have Hw8 := Lib.hid (HwV.out.trans ((Hbr.out.trans (Hb8.out.mono (by omega))).mono (by omega)))
                    have Hrw8 := Lib.hid ((Hb8.out.block _ (by omega)).trans ((Hbr.out.block _ (by omega)).trans HrwV.out))
                    clear hpe
                    go_upto_region 18 with (fail)
                    repeat (first | refine wpList_store_row rfl _ _ _ rfl (w.heap.size + 1) #[.int .i64 0, .int .i64 0, .int .i64 0, .slice none 0 0, .int .i64 0] rfl rfl 32 _ Hrw8.out (by kernel_rfl) rfl (by simp [Value.oneCell']) ?_ | go_step)
                    obtain ⟨t0, t1, t2, t3, t4, -⟩ := Box5.cells (t := 32) (setRow_heap w8 _ _ #[.int .i64 0, .int .i64 0, .int .i64 0, .slice none 0 0, .int .i64 0] _ _ Hrw8.out)
                    refine ret_rstm (g := w.heap.size + 1) rfl rfl rfl t0 t1 t2 t3 t4 ?_
                    rw [HE.out]
                    exact ⟨_, rfl, World.ownsRow_nil _ _ _ _, below_setRow1 Hw8.out (by omega) _⟩
  · have heb : (er != 0) = true := bne_iff_ne.2 he
    have HR := Lib.hid (show stmE l us pa mf mt = (er, stm0) by unfold stmE; rw [if_pos (by rw [← Her.out]; exact he), Her.out])
    go_upto_region 3 with (fail)
    repeat (first | refine wpList_store_row rfl _ _ _ rfl (w.heap.size + 1) #[.int .i64 0, .int .i64 0, .int .i64 0, .slice none 0 0, .int .i64 0] rfl rfl 32 _ Hrw2.out (by kernel_rfl) rfl (by simp [Value.oneCell']) ?_ | go_step)
    obtain ⟨t0, t1, t2, t3, t4, -⟩ := Box5.cells (t := 32) (setRow_heap w2 _ _ #[.int .i64 0, .int .i64 0, .int .i64 0, .slice none 0 0, .int .i64 0] _ _ Hrw2.out)
    refine ret_rstm (g := w.heap.size + 1) rfl rfl rfl t0 t1 t2 t3 t4 ?_
    rw [HR.out]
    exact ⟨_, rfl, World.ownsRow_nil _ _ _ _, below_setRow1 Hw2.out (by omega) _⟩
end Go.Proofs.YtohmdohbmmbbkaaDoor

namespace Go.Proofs.YtohmdohbmmbbkaaDoor
open Go.RowKit

/-- An amount in minor units. -/
def roundV (a : Int) : Int := if 5000 ≤ a.tmod 10000 then a.tdiv 10000 + 1 else if a.tmod 10000 ≤ -5000 then a.tdiv 10000 - 1 else a.tdiv 10000
theorem round_parts (a : Int) (h1 : -1125899906842624 ≤ a) (h2 : a ≤ 1125899906842624) : -1125899906842624 ≤ a.tdiv 10000 ∧ a.tdiv 10000 ≤ 1125899906842624 ∧ -10000 < a.tmod 10000 ∧ a.tmod 10000 < 10000 := by
  have e := Int.mul_tdiv_add_tmod a 10000
  rcases Int.le_total 0 a with h | h
  · have := Int.tmod_nonneg 10000 h
    have := Int.tmod_lt_of_pos a (show (0 : Int) < 10000 by decide)
    omega
  · have h3 : 0 ≤ -a := by omega
    have := Int.tmod_nonneg 10000 h3
    have := Int.tmod_lt_of_pos (-a) (show (0 : Int) < 10000 by decide)
    rw [Int.neg_tmod] at *
    omega
theorem roundV_bd (a : Int) (h1 : -1125899906842624 ≤ a) (h2 : a ≤ 1125899906842624) : -1125899906842625 ≤ roundV a ∧ roundV a ≤ 1125899906842625 := by
  have := round_parts a h1 h2
  unfold roundV
  split
  · omega
  · split <;> omega

set_option maxRecDepth 100000 in
set_option maxHeartbeats 3200000 in
theorem rounded_calls (a : Int) (w : World) (h1 : -1125899906842624 ≤ a) (h2 : a ≤ 1125899906842624) : Calls Tryd.prog 34 #[.int .i64 a] w fun e w' => e = .returned (.int .i64 (roundV a)) ∧ Below w.heap.size w w' := by
  obtain ⟨b1, b2, b3, b4⟩ := round_parts a h1 h2
  have HV := Lib.hid (show roundV a = if 5000 ≤ a.tmod 10000 then a.tdiv 10000 + 1 else if a.tmod 10000 ≤ -5000 then a.tdiv 10000 - 1 else a.tdiv 10000 from rfl)
  have HB := Lib.hid (Below.refl w.heap.size w)
  obtain ⟨q, hq⟩ : ∃ q, a.tdiv 10000 = q := ⟨_, rfl⟩
  obtain ⟨r, hr⟩ : ∃ r, a.tmod 10000 = r := ⟨_, rfl⟩
  rw [hq, hr] at HV
  rw [hq] at b1 b2
  rw [hr] at b3 b4
  have w1 : IntKind.i64.wrap (a.tdiv 10000) = q := by rw [hq]; exact IntWalk.i64_in _ (by omega)
  have w2 : IntKind.i64.wrap (a.tmod 10000) = r := by rw [hr]; exact IntWalk.i64_in _ (by omega)
  have w3 : IntKind.i64.wrap (q + 1) = q + 1 := IntWalk.i64_in _ (by omega)
  have w4 : IntKind.i64.wrap (q - 1) = q - 1 := IntWalk.i64_in _ (by omega)
  by_cases c1 : 5000 ≤ r
  · have HE := Lib.hid (HV.out.trans (if_pos c1))
    rw [HE.out]
    have c2 : ¬ r ≤ -5000 := by omega
    go_enter Tryd.func34, Tryd.ntmps34
    go_wp2
    go_ret
    exact ⟨rfl, HB.out⟩
  · have HE := Lib.hid (HV.out.trans (if_neg c1))
    by_cases c2 : r ≤ -5000
    · have HE2 := Lib.hid (HE.out.trans (if_pos c2))
      rw [HE2.out]
      go_enter Tryd.func34, Tryd.ntmps34
      go_wp2
      go_ret
      exact ⟨rfl, HB.out⟩
    · have HE2 := Lib.hid (HE.out.trans (if_neg c2))
      rw [HE2.out]
      go_enter Tryd.func34, Tryd.ntmps34
      go_wp2
      go_ret
      exact ⟨rfl, HB.out⟩
end Go.Proofs.YtohmdohbmmbbkaaDoor

namespace Go.Proofs.YtohmdohbmmbbkaaDoor
open Go.RowKit

abbrev sSett : ByteArray := { data := #[115, 101, 116, 116, 108, 101, 109, 101, 110, 116] }
abbrev sPart : ByteArray := { data := #[112, 97, 114, 116, 110, 101, 114, 58] }
abbrev sReve : ByteArray := { data := #[114, 101, 118, 101, 110, 117, 101] }
/-- The posts of a rounded net. -/
def postsL (s : ByteArray) (n : Int) : List (ByteArray × Int) := if n = 0 then [] else [(sPart ++ s, n), (sReve, -n)]
def poCells (p : ByteArray × Int) : List Value := [.string p.1, .int .i64 p.2]
/-- What Entry returns: the posts lie in a row of its own. -/
def EntTo (s : ByteArray) (n t : Int) (w : World) (e : Ending) (w' : World) : Prop :=
  ∃ vp, e = .returned (.agg #[.int .i64 t, .string sSett, vp]) ∧ w'.ownsRow w.heap.size 43 2 vp (postsL s n).length ((postsL s n).flatMap poCells) ∧ Below w.heap.size w w'
theorem own_two {w : World} {base : Nat} (hb : base ≤ w.heap.size) (a b c d : Value) (t : TypeId) : (w.alloc (Obj.cells #[a, b, c, d] t)).ownsRow base t 2 (.slice (some ⟨w.heap.size, 0, none⟩) 2 2) 2 [a, b, c, d] :=
  ⟨rfl, Or.inr ⟨w.heap.size, 2, _, rfl, hb, heap_alloc_new _ _, Nat.le_refl _, by decide, rfl, rfl⟩⟩
theorem set_row3 {w : World} {g : Nat} {x y z : Value} {t : TypeId} (h : w.heap[g]? = some (Obj.cells #[x, y, z] t)) (a b c : Value) : (((w.setCell ⟨g, 0, none⟩ a).setCell ⟨g, 1, none⟩ b).setCell ⟨g, 2, none⟩ c).heap[g]? = some (Obj.cells #[a, b, c] t) := by
  have h0 := heap_setCell_same w g 0 _ t a h
  have h1 := heap_setCell_same _ g 1 _ t b h0
  have h2 := heap_setCell_same _ g 2 _ t c h1
  exact h2

theorem ownsRow_set4 {w : World} {base : Nat} {e : TypeId} {sz n : Nat} {v : Value} {xs : List Value} (h : w.ownsRow base e sz v n xs) (a : Addr) (x : Value) (hne : ∀ g, v.ownBlock = some g → g ≠ a.block) : (w.setCell a x).ownsRow base e sz v n xs := by
  obtain ⟨h1, h2⟩ := h
  refine ⟨h1, ?_⟩
  rcases h2 with h2 | ⟨g, cap, cur, rfl, hg, hh, r⟩
  · exact Or.inl h2
  · exact Or.inr ⟨g, cap, cur, rfl, hg, by rw [Below.heap_setCell _ _ _ _ (hne g rfl)]; exact hh, r⟩
theorem results_cell1 {fn : Func} {p : Tmp} {ty : TypeId} (h : fn.results = #[.cell p ty]) (tmps : Array Value) (P : Program) (w : World) :
    (results fn tmps).run P w = ((asAddr (tmps.getD p undef)).run P w).andThen fun a w₁ => (loadVar ty a).run P w₁ := by
  simp only [results, h]
  simp [Sem.run_bind, Result.andThen]
theorem ret_ent {R : Ending → World → Prop} {a : Act} {w : World} {g : Nat} {v0 v1 v2 : Value} (hd : a.defers = []) (h4 : a.tmps.getD 4 undef = .pointer (some ⟨g, 0, none⟩))
    (c0 : w.cell? ⟨g, 0, none⟩ = some v0) (c1 : w.cell? ⟨g, 1, none⟩ = some v1) (c2 : w.cell? ⟨g, 2, none⟩ = some v2) (hR : R (.returned (.agg #[v0, v1, v2])) w) : bodyPost Tryd.prog Tryd.f13 R Exit.ret a w := by
  refine ⟨hd, _, ?_, hR⟩
  rw [results_cell1 rfl, h4]
  go_simp
theorem row3_cells {w : World} {g : Nat} {x y z : Value} {t : TypeId} (h : w.heap[g]? = some (Obj.cells #[x, y, z] t)) : w.cell? ⟨g, 0, none⟩ = some x ∧ w.cell? ⟨g, 1, none⟩ = some y ∧ w.cell? ⟨g, 2, none⟩ = some z ∧ w.frozen? ⟨g, 0, none⟩ = false ∧ w.frozen? ⟨g, 1, none⟩ = false ∧ w.frozen? ⟨g, 2, none⟩ = false :=
  ⟨cell_of_row w _ 0 _ _ _ h, cell_of_row w _ 1 _ _ _ h, cell_of_row w _ 2 _ _ _ h, by simp [World.frozen?, h], by simp [World.frozen?, h], by simp [World.frozen?, h]⟩
theorem below_set3 {B g : Nat} {a w : World} (h : Below B a w) (hg : B ≤ g) (v0 v1 v2 : Value) : Below B a (((w.setCell ⟨g, 0, none⟩ v0).setCell ⟨g, 1, none⟩ v1).setCell ⟨g, 2, none⟩ v2) :=
  ((h.setCell hg v0).setCell hg v1).setCell hg v2

set_option maxRecDepth 100000 in
set_option maxHeartbeats 6400000 in
theorem entry_calls (pa mf mt net t : Int) (ca : Option Addr) (cn cc : Nat) (s : ByteArray) (w : World) (hs : s.size ≤ 1000) (h1 : -1125899906842624 ≤ net) (h2 : net ≤ 1125899906842624)
    (hI : ∀ w', Below w.heap.size w w' → Calls Tryd.prog 35 #[.int .i64 pa] w' fun e w'' => e = .returned (.string s) ∧ Below w'.heap.size w' w'') :
    Calls Tryd.prog 13 #[.agg #[.int .i64 pa, .int .i64 mf, .int .i64 mt, .slice ca cn cc, .int .i64 net], .int .i64 t] w (EntTo s (roundV net) t w) := by
  obtain ⟨Z, hZ⟩ : ∃ Z, Z = (w.alloc (Obj.cells #[Value.int .i64 pa, .int .i64 mf, .int .i64 mt, .slice ca cn cc, .int .i64 net] 32)).alloc (Obj.cells #[Value.int .i64 0, .string ⟨#[]⟩, .slice none 0 0] 40) := ⟨_, rfl⟩
  obtain ⟨W, hW⟩ : ∃ W, W = Z.alloc (Obj.cells #[Value.int .i64 t, .string sSett, .slice none 0 0] 40) := ⟨_, rfl⟩
  have hzZ : Z.heap.size = w.heap.size + 2 := by rw [hZ]; simp
  have hzW : W.heap.size = w.heap.size + 3 := by rw [hW]; simp [hzZ]
  have hbZ : Below w.heap.size w Z := by rw [hZ]; go_grown
  have hbW : Below Z.heap.size Z W := by rw [hW]; exact (Below.refl _ _).alloc (Nat.le_refl _) _
  have r0 : Z.heap[w.heap.size]? = some (Obj.cells #[Value.int .i64 pa, .int .i64 mf, .int .i64 mt, .slice ca cn cc, .int .i64 net] 32) := by
    rw [hZ, Below.heap_alloc _ _ _ (by simp)]
    exact heap_alloc_new _ _
  have r1 : Z.heap[w.heap.size + 1]? = some (Obj.cells #[Value.int .i64 0, .string ⟨#[]⟩, .slice none 0 0] 40) := by
    rw [hZ]
    simpa using heap_alloc_new (w.alloc (Obj.cells #[Value.int .i64 pa, .int .i64 mf, .int .i64 mt, .slice ca cn cc, .int .i64 net] 32)) (Obj.cells #[Value.int .i64 0, .string ⟨#[]⟩, .slice none 0 0] 40)
  have r2 : W.heap[Z.heap.size]? = some (Obj.cells #[Value.int .i64 t, .string sSett, .slice none 0 0] 40) := by rw [hW]; exact heap_alloc_new _ _
  have HM := Lib.hid (show ∀ w', Below W.heap.size W w' → w'.heap[w.heap.size]? = some (Obj.cells #[Value.int .i64 pa, .int .i64 mf, .int .i64 mt, .slice ca cn cc, .int .i64 net] 32) ∧ w'.heap[w.heap.size + 1]? = some (Obj.cells #[Value.int .i64 0, .string ⟨#[]⟩, .slice none 0 0] 40) ∧ w'.heap[Z.heap.size]? = some (Obj.cells #[Value.int .i64 t, .string sSett, .slice none 0 0] 40) from fun w' hb =>
    ⟨(hb.block _ (by omega)).trans ((hbW.block _ (by omega)).trans r0), (hb.block _ (by omega)).trans ((hbW.block _ (by omega)).trans r1), (hb.block _ (by omega)).trans r2⟩)
  have hwW : Below w.heap.size w W := hbZ.trans (hbW.mono hbZ.size)
  have HwW := Lib.hid hwW
  have HZ := Lib.hid hZ
  have HW := Lib.hid hW
  have HzZ := Lib.hid hzZ
  have HzW := Lib.hid hzW
  have HR := Lib.hid (rounded_calls net W h1 h2)
  have hrb := roundV_bd net h1 h2
  have hs63 : ¬ 9223372036854775807 < 8 + s.size := by omega
  have hs64 : 8 + s.size ≤ 9223372036854775807 := by omega
  generalize roundV net = n at *
  have HI := Lib.hid hI
  obtain ⟨m0, m1, m2⟩ := HM.out W (Below.refl _ _)
  have y4 := cell_of_row W _ 4 _ _ _ m0
  clear hZ hW hbZ hbW r0 r1 r2 hwW hzZ hzW m0 m1 m2 hI
  go_enter Tryd.func13, Tryd.ntmps13
  go_upto_region 1 with (fail)
  rw [← HZ.out]
  go_upto_region 2 with (fail)
  rw [← HW.out]
  go_wp2_with fail
  refine HR.out.mono ?_
  rintro e w2 ⟨rfl, hb2⟩
  have Hb2 := Lib.hid hb2
  have Hw2 := Lib.hid (HwW.out.trans (hb2.mono HwW.out.size))
  clear hb2 y4
  obtain ⟨m0, m1, m2⟩ := HM.out w2 Hb2.out
  by_cases hn : n = 0
  · subst hn
    have HPo := Lib.hid (show postsL s 0 = [] from if_pos rfl)
    obtain ⟨s0, s1, s2, f0, f1, f2⟩ := row3_cells m1
    obtain ⟨q0, q1, q2, -⟩ := row3_cells m2
    have hz2 := Hb2.out.size
    have Hm1 := Lib.hid m1
    clear m0 m1 m2
    go_wp2
    have hr := set_row3 Hm1.out (.int .i64 t) (.string sSett) (.slice none 0 0)
    obtain ⟨t0, t1, t2, -⟩ := row3_cells hr
    refine ret_ent (g := w.heap.size + 1) rfl rfl t0 t1 t2 ⟨_, rfl, ?_, below_set3 Hw2.out (by omega) _ _ _⟩
    rw [HPo.out]
    exact World.ownsRow_nil _ _ _ _
  · have hnb : (n != 0) = true := bne_iff_ne.2 hn
    have HPo := Lib.hid (show postsL s n = [(sPart ++ s, n), (sReve, -n)] from if_neg hn)
    have y0 := cell_of_row w2 _ 0 _ _ _ m0
    have HIa := Lib.hid (HI.out w2 Hw2.out)
    have hwn : IntKind.i64.wrap (-n) = -n := IntWalk.i64_in _ (by omega)
    clear hn m0 m1 m2
    go_wp2_with fail
    refine HIa.out.mono ?_
    rintro e w3 ⟨rfl, hb3⟩
    have Hb3 := Lib.hid (Hb2.out.trans (hb3.mono Hb2.out.size))
    have Hw3 := Lib.hid (Hw2.out.trans (hb3.mono Hw2.out.size))
    clear y0 hb3
    obtain ⟨m0, m1, m2⟩ := HM.out w3 Hb3.out
    obtain ⟨s0, s1, s2, f0, f1, f2⟩ := row3_cells m1
    obtain ⟨q0, q1, q2, g0, g1, g2⟩ := row3_cells m2
    have Hm1 := Lib.hid m1
    have Hm2 := Lib.hid m2
    clear m0 m1 m2
    have hZ3 : Z.heap.size < w3.heap.size := (Array.getElem?_eq_some_iff.1 Hm2.out).1
    have hZ3n : ¬ Z.heap.size = w3.heap.size := by omega
    have hz3 := Hw3.out.size
    have hw1 : w.heap.size + 1 < w3.heap.size := (Array.getElem?_eq_some_iff.1 Hm1.out).1
    have hcs : (w3.setCell ⟨Z.heap.size, 2, none⟩ (.slice (some ⟨w3.heap.size, 0, none⟩) 2 2)).heap.size = w3.heap.size := by simp [World.setCell]
    obtain ⟨X, hX⟩ : ∃ X, X = (w3.setCell ⟨Z.heap.size, 2, none⟩ (.slice (some ⟨w3.heap.size, 0, none⟩) 2 2)).alloc (Obj.cells #[Value.string (sPart ++ s), .int .i64 n, .string sReve, .int .i64 (-n)] 43) := ⟨_, rfl⟩
    have hbX : Below w.heap.size w X := by rw [hX]; exact (Hw3.out.setCell (by show w.heap.size ≤ Z.heap.size; have := HzZ.out; omega) _).alloc (by rw [hcs]; exact hz3) _
    have rX1 : X.heap[w.heap.size + 1]? = some (Obj.cells #[Value.int .i64 0, .string ⟨#[]⟩, .slice none 0 0] 40) := by
      rw [hX, Below.heap_alloc _ _ _ (by rw [hcs]; exact hw1), Below.heap_setCell _ _ _ _ (by show w.heap.size + 1 ≠ Z.heap.size; have := HzZ.out; omega)]
      exact Hm1.out
    have rX2 : X.heap[Z.heap.size]? = some (Obj.cells #[Value.int .i64 t, .string sSett, .slice (some ⟨w3.heap.size, 0, none⟩) 2 2] 40) := by
      rw [hX, Below.heap_alloc _ _ _ (by rw [hcs]; exact hZ3)]
      exact heap_setCell_same _ _ 2 _ _ _ Hm2.out
    have HoX := Lib.hid (show X.ownsRow w.heap.size 43 2 (.slice (some ⟨w3.heap.size, 0, none⟩) 2 2) 2 [.string (sPart ++ s), .int .i64 n, .string sReve, .int .i64 (-n)] from by
      rw [hX]
      refine ⟨rfl, Or.inr ⟨w3.heap.size, 2, #[.string (sPart ++ s), .int .i64 n, .string sReve, .int .i64 (-n)], rfl, hz3, ?_, Nat.le_refl _, by decide, rfl, rfl⟩⟩
      have h := heap_alloc_new (w3.setCell ⟨Z.heap.size, 2, none⟩ (.slice (some ⟨w3.heap.size, 0, none⟩) 2 2)) (Obj.cells #[Value.string (sPart ++ s), .int .i64 n, .string sReve, .int .i64 (-n)] 43)
      rwa [hcs] at h)
    have HX := Lib.hid hX
    have HbX := Lib.hid hbX
    have HrX1 := Lib.hid rX1
    clear hX hbX hw1 hcs
    go_upto_region 5 with (fail)
    rw [← HX.out]
    clear s0 s1 s2 f0 f1 f2 q0 q1 q2 g0 g1 g2
    obtain ⟨s0, s1, s2, f0, f1, f2⟩ := row3_cells rX1
    obtain ⟨q0, q1, q2, g0, g1, g2⟩ := row3_cells rX2
    clear rX1 rX2
    go_wp2
    have hr := set_row3 HrX1.out (.int .i64 t) (.string sSett) (.slice (some ⟨w3.heap.size, 0, none⟩) 2 2)
    obtain ⟨t0, t1, t2, -⟩ := row3_cells hr
    refine ret_ent (g := w.heap.size + 1) rfl rfl t0 t1 t2 ⟨_, rfl, ?_, below_set3 HbX.out (by omega) _ _ _⟩
    rw [HPo.out]
    have hg : w3.heap.size ≠ w.heap.size + 1 := by have := HzZ.out; omega
    exact ownsRow_set4 (ownsRow_set4 (ownsRow_set4 HoX.out ⟨w.heap.size + 1, 0, none⟩ _ (fun g e => by cases e; exact hg)) ⟨w.heap.size + 1, 1, none⟩ _ (fun g e => by cases e; exact hg)) ⟨w.heap.size + 1, 2, none⟩ _ (fun g e => by cases e; exact hg)
end Go.Proofs.YtohmdohbmmbbkaaDoor
