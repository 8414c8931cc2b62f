/-
  The walk of agreement.Check.
-/
import Derived.Test.YtohmdohbmmbbkaaDoorMgap
import Derived.Deep.RegionHeld3
namespace Go.Proofs.YtohmdohbmmbbkaaDoor
open Go.RowKit

/-- The counts by kind lie in a block. -/
def SeenAt (w : World) (B : Nat) (L : List Ag) : Prop :=
  ∀ j, j < 5 → w.cell? ⟨B, j, none⟩ = some (.int .i64 (cnt L j : Int)) ∧ w.frozen? ⟨B, j, none⟩ = false

theorem SeenAt.below {w w' : World} {B : Nat} {L : List Ag} (h : SeenAt w B L) (hb : Below w.heap.size w w') (hB : B < w.heap.size) : SeenAt w' B L := fun j hj =>
  ⟨(hb.cell (p := ⟨B, j, none⟩) hB).trans (h j hj).1, (hb.frozen (p := ⟨B, j, none⟩) hB).trans (h j hj).2⟩

set_option linter.unusedSimpArgs false in
set_option maxRecDepth 100000 in
set_option maxHeartbeats 25600000 in
theorem agcheck_calls (v : Value) (l : List Ag) (w : World) (h : AgsAt w v l) :
    Calls Tryd.prog 20 #[v] w fun e w' => e = .returned (.int .i64 (agCheckE l)) ∧ Below w.heap.size w w' := by
  have hh := h
  obtain ⟨av, cap, rfl, hlc, hm, -⟩ := h
  have hm := hm.1
  unfold maxLen at hm
  by_cases hbig : 4096 < l.length
  · have H := Lib.hid (show agCheckE l = 5 from if_pos hbig)
    go_enter Tryd.func20, Tryd.ntmps20
    go_wp2
    go_ret
    exact ⟨ret_int H.out.symm, Below.refl _ _⟩
  · have H := Lib.hid (show agCheckE l = agsE (l.take 0) (l.drop 0) from if_neg hbig)
    go_enter Tryd.func20, Tryd.ntmps20
    go_wp2_with fail
    go_loopw [16] (fun i wr => ∃ k : Nat, k ≤ l.length ∧ i = .int .i64 k ∧ agCheckE l = agsE (l.take k) (l.drop k) ∧ SeenAt wr w.heap.size (l.take k) ∧ w.heap.size < wr.heap.size ∧ Below w.heap.size w wr) (fun i _ => l.length - (intOf i).toNat)
    case atStart =>
      refine ⟨0, Nat.zero_le _, rfl, H.out, fun j hj => ?_, by simp, by go_grown⟩
      match j, hj with
      | 0, _ => exact ⟨by simp [go_sem, cnt], by simp [go_sem]⟩
      | 1, _ => exact ⟨by simp [go_sem, cnt], by simp [go_sem]⟩
      | 2, _ => exact ⟨by simp [go_sem, cnt], by simp [go_sem]⟩
      | 3, _ => exact ⟨by simp [go_sem, cnt], by simp [go_sem]⟩
      | 4, _ => exact ⟨by simp [go_sem, cnt], by simp [go_sem]⟩
    case round =>
      obtain ⟨k, hk, rfl, he, hseen, hS, hb⟩ := hrel
      by_cases hlk : k < l.length
      · obtain ⟨av2, cap2, e2, -, -, hx⟩ := hh.below hb
        cases e2
        obtain ⟨b, o, rfl, hB, hx⟩ := hx (by rintro rfl; cases hlk)
        have hst := agsE_step l k hlk
        rw [← he] at hst
        have hct := fun j => cnt_snoc l k j hlk
        have hk0 : (0 : Int) ≤ (k : Int) := Int.natCast_nonneg _
        have hk1 : (k : Int) < (l.length : Int) := by omega
        have hk2 : (k : Int) ≤ (l.length : Int) := by omega
        have hk3 : k ≤ cap := by omega
        have hk4 : (k : Int) ≤ (cap : Int) := by omega
        obtain ⟨c0, c1, c2, c3, c4, ⟨sv, c5, hsv, -⟩, c6⟩ := hx k hlk
        have Hx := Lib.hid hx
        have HL := Lib.hid (show ∀ j (hj : j < k), ∃ hj' : j < l.length, True from fun j hj => ⟨by omega, trivial⟩)
        have Hst := Lib.hid hst
        have Hct := Lib.hid hct
        have Hseen := Lib.hid hseen
        clear hx hst hct he hseen
        obtain ⟨a, ha⟩ : ∃ a, a = l[k] := ⟨_, rfl⟩
        rw [← ha] at c0 c1 c2 c3 c4 hsv c6 Hst Hct
        clear ha
        have Hsv := Lib.hid hsv
        obtain ⟨az, cz, rfl, -, -⟩ := hsv
        have hbz := hb.size
        obtain ⟨X, hX⟩ : ∃ X, X = wr.alloc (Obj.cells #[.int .i64 a.pa, .int .i64 a.kd, .bool a.ib, .int .i64 a.fr, .int .i64 a.tt, .slice az a.st.length cz, .int .i64 a.cap] 53) := ⟨_, rfl⟩
        have hbX : Below wr.heap.size wr X := by rw [hX]; go_grown
        have hlX : wr.heap.size < X.heap.size := by rw [hX]; simp
        have rX : X.heap[wr.heap.size]? = some (Obj.cells #[.int .i64 a.pa, .int .i64 a.kd, .bool a.ib, .int .i64 a.fr, .int .i64 a.tt, .slice az a.st.length cz, .int .i64 a.cap] 53) := by rw [hX]; exact heap_alloc_new _ _
        have HX := Lib.hid hX
        have RX := Lib.hid rX
        have Hf := Lib.hid (fault_calls a _ X (Hsv.out.below hbX))
        unfold agVal at Hf
        clear hX rX
        by_cases hz0 : faultE a = 0
        · obtain ⟨j, hkd, hj1, hj5⟩ := faultE_kind hz0
          rw [hz0] at Hf
          have Hst2 := Lib.hid (show agCheckE l = if (l.take k).any (meets a) = true then 10 else agsE (l.take (k + 1)) (l.drop (k + 1)) by rw [Hst.out, if_neg (not_not_intro hz0)])
          have HKD := Lib.hid hkd
          clear hz0 Hst hkd
          go_wp2_with fail
          rw [← HX.out]
          refine Hf.out.mono ?_
          rintro e w1 ⟨rfl, hb1⟩
          have hb2 := hbX.trans (hb1.mono hbX.size)
          have hs1 := hb2.size
          have m := (hb1.block _ hlX).trans RX.out
          have g1 : w1.cell? ⟨wr.heap.size, 1, none⟩ = some (.int .i64 (j : Int)) := by rw [← HKD.out]; exact cell_of_row w1 _ 1 _ _ _ m
          have Hm := Lib.hid m
          obtain ⟨s0, f0⟩ := (Hseen.out.below hb2 hS) j hj5
          clear m
          have hj0 : (0 : Int) ≤ (j : Int) := Int.natCast_nonneg _
          have hj6 : (j : Int) < 5 := by omega
          by_cases hcz : cnt (l.take k) j = 0
          · have HE := Lib.hid (show agCheckE l = agsE (l.take (k + 1)) (l.drop (k + 1)) by rw [Hst2.out, if_neg (by rw [cnt_none hcz HKD.out]; decide)])
            have Hcz := Lib.hid hcz
            rw [hcz] at s0
            clear hcz Hst2
            have hseen2 := Hseen.out.below hb2 hS
            have Hseen2 := Lib.hid hseen2
            clear hseen2
            go_wp2
            refine ⟨⟨k + 1, by omega, by go_num, HE.out, ?_, ?_, ?_⟩, by simp [intOf]; omega⟩
            · intro i hi
              obtain ⟨s2, f2⟩ := Hseen2.out i hi
              rw [Hct.out i, HKD.out]
              by_cases hij : i = j
              · subst hij
                rw [if_pos rfl, Hcz.out]
                exact ⟨by simp [go_sem, s0], by simp [go_sem, f0]⟩
              · rw [if_neg (by omega), Nat.add_zero]
                have hji : ¬ j = i := fun h => hij h.symm
                exact ⟨by simp [go_sem, s2, hij, hji], by simp [go_sem, f2, hij, hji]⟩
            · simp [World.setCell]; omega
            · exact (hb.trans (hb2.mono hbz)).setCell (Nat.le_refl _) _
          · have hcp : decide (0 < ((cnt (l.take k) j : Nat) : Int)) = true := decide_eq_true (by omega)
            have hcp2 : decide (0 < cnt (l.take k) j) = true := decide_eq_true (by omega)
            have hcp3 : 0 < cnt (l.take k) j := by omega
            have hcle : cnt (l.take k) j ≤ 4096 := by have := cnt_le (l.take k) j; rw [List.length_take] at this; omega
            clear hcz
            generalize hc : cnt (l.take k) j = c at *
            have Hc := Lib.hid hc
            clear hc
            obtain ⟨wo, rfl⟩ : ∃ wo : World, wo = wr := ⟨_, rfl⟩
            go_wp2_with fail
            go_loopw [35] (fun i wz => ∃ q : Nat, q ≤ k ∧ i = .int .i64 q ∧ ((l.take k).take q).any (meets a) = false ∧ Below w1.heap.size w1 wz) (fun i _ => k - (intOf i).toNat)
            case atStart => exact ⟨0, Nat.zero_le _, rfl, rfl, Below.refl _ _⟩
            case round =>
              obtain ⟨q, hq, rfl, hqe, hbq⟩ := hrel
              have Hqe := Lib.hid hqe
              clear hqe
              have hbw := hb2.trans (hbq.mono hs1)
              have hsq := hbq.size
              by_cases hqk : q < k
              · have hql : q < l.length := by omega
                have hxq := AgR.stays _ _ _ _ _ hbw hB (Hx.out q hql)
                have hqt : q < (l.take k).length := by rw [List.length_take]; omega
                have hge : (l.take k)[q] = l[q] := by rw [List.getElem_take]
                have HF := Lib.hid (fun h2 => any_snoc (p := meets a) hqt Hqe.out (by rw [hge]; exact h2))
                have HT := Lib.hid (any_at (L := l) (p := meets a) hqk (show k ≤ l.length by omega))
                clear hge hqt
                obtain ⟨y, hy⟩ : ∃ y, y = l[q] := ⟨_, rfl⟩
                rw [← hy] at HF HT hxq
                clear hy
                obtain ⟨d0, d1, d2, d3, d4, ⟨sy, d5, hsy, -⟩, d6⟩ := hxq
                have Hsy := Lib.hid hsy
                obtain ⟨ay, cy, rfl, -, -⟩ := hsy
                have hq0 : (0 : Int) ≤ (q : Int) := Int.natCast_nonneg _
                have hq1 : (q : Int) < (k : Int) := by omega
                have mq := (hbq.block wo.heap.size (by have := hb1.size; omega)).trans Hm.out
                go_upto_region 14 with (fail)
                obtain ⟨Z, hZ⟩ : ∃ Z, Z = wr.alloc (Obj.cells #[.int .i64 y.pa, .int .i64 y.kd, .bool y.ib, .int .i64 y.fr, .int .i64 y.tt, .slice ay y.st.length cy, .int .i64 y.cap] 53) := ⟨_, rfl⟩
                have hbZ : Below wr.heap.size wr Z := by rw [hZ]; go_grown
                have hlZ : wr.heap.size < Z.heap.size := by rw [hZ]; simp
                have rZ : Z.heap[wr.heap.size]? = some (Obj.cells #[.int .i64 y.pa, .int .i64 y.kd, .bool y.ib, .int .i64 y.fr, .int .i64 y.tt, .slice ay y.st.length cy, .int .i64 y.cap] 53) := by rw [hZ]; exact heap_alloc_new _ _
                rw [← hZ]
                clear hZ d0 d1 d2 d3 d4 d5 d6
                have RZ := Lib.hid rZ
                have hwo : wo.heap.size < wr.heap.size := by have := hb1.size; omega
                have hbqZ := hbq.trans (hbZ.mono hbq.size)
                have aZ := Lib.hid ((hbZ.block wo.heap.size hwo).trans mq)
                have u3 : Z.cell? ⟨wo.heap.size, 3, none⟩ = some (.int .i64 a.fr) := cell_of_row Z _ 3 _ _ _ aZ.out
                have u4 : Z.cell? ⟨wo.heap.size, 4, none⟩ = some (.int .i64 a.tt) := cell_of_row Z _ 4 _ _ _ aZ.out
                have z3 : Z.cell? ⟨wr.heap.size, 3, none⟩ = some (.int .i64 y.fr) := cell_of_row Z _ 3 _ _ _ rZ
                have z4 : Z.cell? ⟨wr.heap.size, 4, none⟩ = some (.int .i64 y.tt) := cell_of_row Z _ 4 _ _ _ rZ
                have HI := Lib.hid (intersect_calls a.fr a.tt y.fr y.tt Z)
                have HMV := Lib.hid (show ∃ p1 p2 : Int, meetV a.fr a.tt y.fr y.tt = .agg #[.int .i64 p1, .int .i64 p2] by
                  unfold meetV; split
                  · exact ⟨_, _, rfl⟩
                  · exact ⟨_, _, rfl⟩)
                clear rZ mq
                go_wp2_with fail
                refine HI.out.mono ?_
                rintro e w3 ⟨rfl, hb3⟩
                obtain ⟨p1, p2, hpv⟩ := HMV.out
                rw [hpv]
                clear u3 u4 z3 z4 hpv
                have hbZ3 := hbZ.trans (hb3.mono hbZ.size)
                have hbq3 := hbqZ.trans (hb3.mono hbqZ.size)
                generalize hmt : meetB a.fr a.tt y.fr y.tt = mt at *
                have Hmt := Lib.hid hmt
                clear hmt
                cases mt with
                | false =>
                  have HN := Lib.hid (HF.out (meets_no Hmt.out))
                  go_upto_region 15 with (fail)
                  have hb5 : Below w1.heap.size w1 (w3.alloc (Obj.cells #[.int .i64 p1, .int .i64 p2] 25)) := hbq3.trans (Below.alloc (Below.refl _ _) hbq3.size _)
                  go_big_quiet (fail)
                  go_wp2
                  exact ⟨⟨q + 1, by omega, by go_num, HN.out, below_drewN hb5 _⟩, by simp [intOf]; omega⟩
                | true =>
                  go_upto_region 15 with (fail)
                  obtain ⟨V, hV⟩ : ∃ V, V = w3.alloc (Obj.cells #[.int .i64 p1, .int .i64 p2] 25) := ⟨_, rfl⟩
                  have hb3V : Below w3.heap.size w3 V := by rw [hV]; go_grown
                  rw [← hV]
                  clear hV
                  have hbZV := hb3.trans (hb3V.mono hb3.size)
                  have hbqV := hbq3.trans (hb3V.mono hbq3.size)
                  have hlZa : wo.heap.size < Z.heap.size := Nat.lt_trans hwo hlZ
                  have Mk := Lib.hid (show ∀ w' : World, Below Z.heap.size Z w' → Below Z.heap.size Z w' ∧ w'.cell? ⟨wo.heap.size, 0, none⟩ = some (.int .i64 a.pa) ∧ w'.cell? ⟨wo.heap.size, 1, none⟩ = some (.int .i64 a.kd) ∧ w'.cell? ⟨wo.heap.size, 2, none⟩ = some (.bool a.ib) ∧ w'.cell? ⟨wo.heap.size, 3, none⟩ = some (.int .i64 a.fr) ∧ w'.cell? ⟨wo.heap.size, 4, none⟩ = some (.int .i64 a.tt) ∧ w'.cell? ⟨wo.heap.size, 5, none⟩ = some (.slice az a.st.length cz) ∧ w'.cell? ⟨wo.heap.size, 6, none⟩ = some (.int .i64 a.cap) ∧ w'.cell? ⟨wr.heap.size, 0, none⟩ = some (.int .i64 y.pa) ∧ w'.cell? ⟨wr.heap.size, 1, none⟩ = some (.int .i64 y.kd) ∧ w'.cell? ⟨wr.heap.size, 2, none⟩ = some (.bool y.ib) ∧ w'.cell? ⟨wr.heap.size, 3, none⟩ = some (.int .i64 y.fr) ∧ w'.cell? ⟨wr.heap.size, 4, none⟩ = some (.int .i64 y.tt) ∧ w'.cell? ⟨wr.heap.size, 5, none⟩ = some (.slice ay y.st.length cy) ∧ w'.cell? ⟨wr.heap.size, 6, none⟩ = some (.int .i64 y.cap) from fun w' hb => by
                    have q1 := (hb.block wo.heap.size hlZa).trans aZ.out
                    have q2 := (hb.block wr.heap.size hlZ).trans RZ.out
                    exact ⟨hb, cell_of_row w' _ 0 _ _ _ q1, cell_of_row w' _ 1 _ _ _ q1, cell_of_row w' _ 2 _ _ _ q1, cell_of_row w' _ 3 _ _ _ q1, cell_of_row w' _ 4 _ _ _ q1, cell_of_row w' _ 5 _ _ _ q1, cell_of_row w' _ 6 _ _ _ q1, cell_of_row w' _ 0 _ _ _ q2, cell_of_row w' _ 1 _ _ _ q2, cell_of_row w' _ 2 _ _ _ q2, cell_of_row w' _ 3 _ _ _ q2, cell_of_row w' _ 4 _ _ _ q2, cell_of_row w' _ 5 _ _ _ q2, cell_of_row w' _ 6 _ _ _ q2⟩)
                  have HsvZ := Lib.hid (Hsv.out.below (hbw.trans (hbZ.mono hbw.size)))
                  have HsyZ := Lib.hid (Hsy.out.below hbZ)
                  by_cases e1 : a.pa = y.pa
                  · by_cases e2 : a.kd = y.kd
                    · by_cases e3 : a.ib = y.ib
                      · have HN := Lib.hid (show agCheckE l = 10 by rw [Hst2.out, if_pos (HT.out (meets_yes Hmt.out e1 e2 e3))])
                        have t1 : (a.pa == y.pa) = true := by rw [e1]; exact beq_self_eq_true _
                        have t2 : (a.kd == y.kd) = true := by rw [e2]; exact beq_self_eq_true _
                        have t3 : (a.ib == y.ib) = true := by rw [e3]; exact beq_self_eq_true _
                        have T := Lib.hid (And.intro t1 (And.intro t2 t3))
                        clear e1 e2 e3 t1 t2 t3 Hct Hseen Hx HL
                        obtain ⟨t1, t2, t3⟩ := T.out
                        have HofA := Lib.hid (fun w1 (hb : Below Z.heap.size Z w1) => of_calls a _ w1 (HsvZ.out.below hb))
                        have HofY := Lib.hid (fun w1 (hb : Below Z.heap.size Z w1) => of_calls y _ w1 (HsyZ.out.below hb))
                        unfold agVal at HofA HofY
                        go_region_held3 (fun w' : World => Below Z.heap.size Z w' ∧ w'.cell? ⟨wo.heap.size, 0, none⟩ = some (.int .i64 a.pa) ∧ w'.cell? ⟨wo.heap.size, 1, none⟩ = some (.int .i64 a.kd) ∧ w'.cell? ⟨wo.heap.size, 2, none⟩ = some (.bool a.ib) ∧ w'.cell? ⟨wo.heap.size, 3, none⟩ = some (.int .i64 a.fr) ∧ w'.cell? ⟨wo.heap.size, 4, none⟩ = some (.int .i64 a.tt) ∧ w'.cell? ⟨wo.heap.size, 5, none⟩ = some (.slice az a.st.length cz) ∧ w'.cell? ⟨wo.heap.size, 6, none⟩ = some (.int .i64 a.cap) ∧ w'.cell? ⟨wr.heap.size, 0, none⟩ = some (.int .i64 y.pa) ∧ w'.cell? ⟨wr.heap.size, 1, none⟩ = some (.int .i64 y.kd) ∧ w'.cell? ⟨wr.heap.size, 2, none⟩ = some (.bool y.ib) ∧ w'.cell? ⟨wr.heap.size, 3, none⟩ = some (.int .i64 y.fr) ∧ w'.cell? ⟨wr.heap.size, 4, none⟩ = some (.int .i64 y.tt) ∧ w'.cell? ⟨wr.heap.size, 5, none⟩ = some (.slice ay y.st.length cy) ∧ w'.cell? ⟨wr.heap.size, 6, none⟩ = some (.int .i64 y.cap))
                          (first
                            | exact Mk.out _ (by assumption)
                            | exact Mk.out _ (Below.drew (by assumption)))
                          (first
                            | (go_at_call_of 43 (Value.int IntKind.i64 a.pa)
                               refine (HofA.out _ (And.left (by assumption))).mono ?_
                               rintro e w6 ⟨rfl, hb6⟩
                               have hY6 : Below Z.heap.size Z w6 := Below.trans (And.left (by assumption)) (hb6.mono (Below.size (And.left (by assumption))))
                               clear hb6)
                            | (go_at_call_of 43 (Value.int IntKind.i64 y.pa)
                               refine (HofY.out _ (And.left (by assumption))).mono ?_
                               rintro e w8 ⟨rfl, hb8⟩
                               have hY8 : Below Z.heap.size Z w8 := Below.trans (And.left (by assumption)) (hb8.mono (Below.size (And.left (by assumption))))
                               clear hb8))
                        clear Mk HofA HofY t1 t2 t3
                        go_wp2
                        go_ret
                        exact ⟨ret_int HN.out.symm, hb.trans ((hb2.trans ((hbqZ.trans (hY8.mono hbqZ.size)).mono hs1)).mono hbz)⟩
                      · have HN := Lib.hid (HF.out (meets_ib e3))
                        have t1 : (a.pa == y.pa) = true := by rw [e1]; exact beq_self_eq_true _
                        have t2 : (a.kd == y.kd) = true := by rw [e2]; exact beq_self_eq_true _
                        have t3 : (a.ib == y.ib) = false := beq_eq_false_iff_ne.2 e3
                        have T := Lib.hid (And.intro t1 (And.intro t2 t3))
                        clear e1 e2 e3 t1 t2 t3 Hct Hseen Hx HL
                        obtain ⟨t1, t2, t3⟩ := T.out
                        have HofA := Lib.hid (fun w1 (hb : Below Z.heap.size Z w1) => of_calls a _ w1 (HsvZ.out.below hb))
                        have HofY := Lib.hid (fun w1 (hb : Below Z.heap.size Z w1) => of_calls y _ w1 (HsyZ.out.below hb))
                        unfold agVal at HofA HofY
                        go_region_held3 (fun w' : World => Below Z.heap.size Z w' ∧ w'.cell? ⟨wo.heap.size, 0, none⟩ = some (.int .i64 a.pa) ∧ w'.cell? ⟨wo.heap.size, 1, none⟩ = some (.int .i64 a.kd) ∧ w'.cell? ⟨wo.heap.size, 2, none⟩ = some (.bool a.ib) ∧ w'.cell? ⟨wo.heap.size, 3, none⟩ = some (.int .i64 a.fr) ∧ w'.cell? ⟨wo.heap.size, 4, none⟩ = some (.int .i64 a.tt) ∧ w'.cell? ⟨wo.heap.size, 5, none⟩ = some (.slice az a.st.length cz) ∧ w'.cell? ⟨wo.heap.size, 6, none⟩ = some (.int .i64 a.cap) ∧ w'.cell? ⟨wr.heap.size, 0, none⟩ = some (.int .i64 y.pa) ∧ w'.cell? ⟨wr.heap.size, 1, none⟩ = some (.int .i64 y.kd) ∧ w'.cell? ⟨wr.heap.size, 2, none⟩ = some (.bool y.ib) ∧ w'.cell? ⟨wr.heap.size, 3, none⟩ = some (.int .i64 y.fr) ∧ w'.cell? ⟨wr.heap.size, 4, none⟩ = some (.int .i64 y.tt) ∧ w'.cell? ⟨wr.heap.size, 5, none⟩ = some (.slice ay y.st.length cy) ∧ w'.cell? ⟨wr.heap.size, 6, none⟩ = some (.int .i64 y.cap))
                          (first
                            | exact Mk.out _ (by assumption)
                            | exact Mk.out _ (Below.drew (by assumption)))
                          (first
                            | (go_at_call_of 43 (Value.int IntKind.i64 a.pa)
                               refine (HofA.out _ (And.left (by assumption))).mono ?_
                               rintro e w6 ⟨rfl, hb6⟩
                               have hY6 : Below Z.heap.size Z w6 := Below.trans (And.left (by assumption)) (hb6.mono (Below.size (And.left (by assumption))))
                               clear hb6)
                            | (go_at_call_of 43 (Value.int IntKind.i64 y.pa)
                               refine (HofY.out _ (And.left (by assumption))).mono ?_
                               rintro e w8 ⟨rfl, hb8⟩
                               have hY8 : Below Z.heap.size Z w8 := Below.trans (And.left (by assumption)) (hb8.mono (Below.size (And.left (by assumption))))
                               clear hb8))
                        clear Mk HofA HofY t1 t2 t3
                        go_wp2
                        exact ⟨⟨q + 1, by omega, by go_num, HN.out, hbqZ.trans (hY8.mono hbqZ.size)⟩, by simp [intOf]; omega⟩
                    · have HN := Lib.hid (HF.out (meets_kd e2))
                      have t1 : (a.pa == y.pa) = true := by rw [e1]; exact beq_self_eq_true _
                      have t2 : (a.kd == y.kd) = false := beq_eq_false_iff_ne.2 e2
                      have t3 : True := trivial
                      have T := Lib.hid (And.intro t1 (And.intro t2 t3))
                      clear e1 e2 t1 t2 t3 Hct Hseen Hx HL
                      obtain ⟨t1, t2, t3⟩ := T.out
                      have HofA := Lib.hid (fun w1 (hb : Below Z.heap.size Z w1) => of_calls a _ w1 (HsvZ.out.below hb))
                      have HofY := Lib.hid (fun w1 (hb : Below Z.heap.size Z w1) => of_calls y _ w1 (HsyZ.out.below hb))
                      unfold agVal at HofA HofY
                      go_region_held3 (fun w' : World => Below Z.heap.size Z w' ∧ w'.cell? ⟨wo.heap.size, 0, none⟩ = some (.int .i64 a.pa) ∧ w'.cell? ⟨wo.heap.size, 1, none⟩ = some (.int .i64 a.kd) ∧ w'.cell? ⟨wo.heap.size, 2, none⟩ = some (.bool a.ib) ∧ w'.cell? ⟨wo.heap.size, 3, none⟩ = some (.int .i64 a.fr) ∧ w'.cell? ⟨wo.heap.size, 4, none⟩ = some (.int .i64 a.tt) ∧ w'.cell? ⟨wo.heap.size, 5, none⟩ = some (.slice az a.st.length cz) ∧ w'.cell? ⟨wo.heap.size, 6, none⟩ = some (.int .i64 a.cap) ∧ w'.cell? ⟨wr.heap.size, 0, none⟩ = some (.int .i64 y.pa) ∧ w'.cell? ⟨wr.heap.size, 1, none⟩ = some (.int .i64 y.kd) ∧ w'.cell? ⟨wr.heap.size, 2, none⟩ = some (.bool y.ib) ∧ w'.cell? ⟨wr.heap.size, 3, none⟩ = some (.int .i64 y.fr) ∧ w'.cell? ⟨wr.heap.size, 4, none⟩ = some (.int .i64 y.tt) ∧ w'.cell? ⟨wr.heap.size, 5, none⟩ = some (.slice ay y.st.length cy) ∧ w'.cell? ⟨wr.heap.size, 6, none⟩ = some (.int .i64 y.cap))
                        (first
                          | exact Mk.out _ (by assumption)
                          | exact Mk.out _ (Below.drew (by assumption)))
                        (first
                          | (go_at_call_of 43 (Value.int IntKind.i64 a.pa)
                             refine (HofA.out _ (And.left (by assumption))).mono ?_
                             rintro e w6 ⟨rfl, hb6⟩
                             have hY6 : Below Z.heap.size Z w6 := Below.trans (And.left (by assumption)) (hb6.mono (Below.size (And.left (by assumption))))
                             clear hb6)
                          | (go_at_call_of 43 (Value.int IntKind.i64 y.pa)
                             refine (HofY.out _ (And.left (by assumption))).mono ?_
                             rintro e w8 ⟨rfl, hb8⟩
                             have hY8 : Below Z.heap.size Z w8 := Below.trans (And.left (by assumption)) (hb8.mono (Below.size (And.left (by assumption))))
                             clear hb8))
                      clear Mk HofA HofY t1 t2 t3
                      go_wp2
                      exact ⟨⟨q + 1, by omega, by go_num, HN.out, hbqZ.trans (hY8.mono hbqZ.size)⟩, by simp [intOf]; omega⟩
                  · have HN := Lib.hid (HF.out (meets_pa e1))
                    have t1 : (a.pa == y.pa) = false := beq_eq_false_iff_ne.2 e1
                    have t2 : True := trivial
                    have t3 : True := trivial
                    have T := Lib.hid (And.intro t1 (And.intro t2 t3))
                    clear e1 t1 t2 t3 Hct Hseen Hx HL
                    obtain ⟨t1, t2, t3⟩ := T.out
                    have HofA := Lib.hid (fun w1 (hb : Below Z.heap.size Z w1) => of_calls a _ w1 (HsvZ.out.below hb))
                    have HofY := Lib.hid (fun w1 (hb : Below Z.heap.size Z w1) => of_calls y _ w1 (HsyZ.out.below hb))
                    unfold agVal at HofA HofY
                    go_region_held3 (fun w' : World => Below Z.heap.size Z w' ∧ w'.cell? ⟨wo.heap.size, 0, none⟩ = some (.int .i64 a.pa) ∧ w'.cell? ⟨wo.heap.size, 1, none⟩ = some (.int .i64 a.kd) ∧ w'.cell? ⟨wo.heap.size, 2, none⟩ = some (.bool a.ib) ∧ w'.cell? ⟨wo.heap.size, 3, none⟩ = some (.int .i64 a.fr) ∧ w'.cell? ⟨wo.heap.size, 4, none⟩ = some (.int .i64 a.tt) ∧ w'.cell? ⟨wo.heap.size, 5, none⟩ = some (.slice az a.st.length cz) ∧ w'.cell? ⟨wo.heap.size, 6, none⟩ = some (.int .i64 a.cap) ∧ w'.cell? ⟨wr.heap.size, 0, none⟩ = some (.int .i64 y.pa) ∧ w'.cell? ⟨wr.heap.size, 1, none⟩ = some (.int .i64 y.kd) ∧ w'.cell? ⟨wr.heap.size, 2, none⟩ = some (.bool y.ib) ∧ w'.cell? ⟨wr.heap.size, 3, none⟩ = some (.int .i64 y.fr) ∧ w'.cell? ⟨wr.heap.size, 4, none⟩ = some (.int .i64 y.tt) ∧ w'.cell? ⟨wr.heap.size, 5, none⟩ = some (.slice ay y.st.length cy) ∧ w'.cell? ⟨wr.heap.size, 6, none⟩ = some (.int .i64 y.cap))
                      (first
                        | exact Mk.out _ (by assumption)
                        | exact Mk.out _ (Below.drew (by assumption)))
                      (first
                        | (go_at_call_of 43 (Value.int IntKind.i64 a.pa)
                           refine (HofA.out _ (And.left (by assumption))).mono ?_
                           rintro e w6 ⟨rfl, hb6⟩
                           have hY6 : Below Z.heap.size Z w6 := Below.trans (And.left (by assumption)) (hb6.mono (Below.size (And.left (by assumption))))
                           clear hb6)
                        | (go_at_call_of 43 (Value.int IntKind.i64 y.pa)
                           refine (HofY.out _ (And.left (by assumption))).mono ?_
                           rintro e w8 ⟨rfl, hb8⟩
                           have hY8 : Below Z.heap.size Z w8 := Below.trans (And.left (by assumption)) (hb8.mono (Below.size (And.left (by assumption))))
                           clear hb8))
                    clear Mk HofA HofY t1 t2 t3
                    go_wp2
                    exact ⟨⟨q + 1, by omega, by go_num, HN.out, hbqZ.trans (hY8.mono hbqZ.size)⟩, by simp [intOf]; omega⟩
              · have hqq : q = k := by omega
                subst hqq
                have hn : (l.take q).any (meets a) = false := by have := Hqe.out; rwa [List.take_take, Nat.min_self] at this
                have HE := Lib.hid (show agCheckE l = agsE (l.take (q + 1)) (l.drop (q + 1)) by rw [Hst2.out, if_neg (by rw [hn]; decide)])
                clear hn Hst2 s0 f0 g1
                have m := (hbq.block wo.heap.size (by have := hb1.size; omega)).trans Hm.out
                have g1 : wr.cell? ⟨wo.heap.size, 1, none⟩ = some (.int .i64 (j : Int)) := by rw [← HKD.out]; exact cell_of_row wr _ 1 _ _ _ m
                have hseen2 := Hseen.out.below hbw hS
                obtain ⟨s0, f0⟩ := hseen2 j hj5
                rw [Hc.out] at s0
                have Hseen2 := Lib.hid hseen2
                clear m hseen2
                go_wp2
                refine ⟨⟨q + 1, by omega, by go_num, HE.out, ?_, ?_, ?_⟩, by simp [intOf]; omega⟩
                · intro i hi
                  obtain ⟨s2, f2⟩ := Hseen2.out i hi
                  rw [Hct.out i, HKD.out]
                  by_cases hij : i = j
                  · subst hij
                    rw [if_pos rfl, Hc.out]
                    exact ⟨by simp [go_sem, s0], by simp [go_sem, f0]⟩
                  · rw [if_neg (by omega), Nat.add_zero]
                    have hji : ¬ j = i := fun h => hij h.symm
                    exact ⟨by simp [go_sem, s2, hij, hji], by simp [go_sem, f2, hij, hji]⟩
                · simp [World.setCell]; omega
                · exact (hb.trans (hbw.mono hbz)).setCell (Nat.le_refl _) _
        · have HE := Lib.hid (show agCheckE l = faultE a by rw [Hst.out, if_pos hz0])
          have hz2 : (faultE a != 0) = true := by rw [bne_iff_ne]; exact hz0
          generalize faultE a = fe at *
          clear hz0
          go_wp2_with fail
          rw [← HX.out]
          refine Hf.out.mono ?_
          rintro e w1 ⟨rfl, hb1⟩
          have hb2 := hbX.trans (hb1.mono hbX.size)
          have hb3 := hb.trans (hb2.mono hbz)
          go_wp2
          go_ret
          exact ⟨ret_int HE.out.symm, hb3⟩
      · have HE := Lib.hid (show agCheckE l = 0 by rw [he, agsE_end l _ k (by omega)])
        clear he
        go_wp2
        go_ret
        exact ⟨ret_int HE.out.symm, hb⟩
end Go.Proofs.YtohmdohbmmbbkaaDoor
