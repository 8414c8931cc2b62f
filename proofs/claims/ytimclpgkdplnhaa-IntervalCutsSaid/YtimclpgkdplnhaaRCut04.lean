/-
  The walk of the reference's Cut.
-/
import Derived.Test.YtimclpgkdplnhaaR04d
import Derived.Test.YtimclpgkdplnhaaCutLaw04
namespace Go.Proofs.Ytimclpgkdplnhaa
open Go.RowKit

set_option maxRecDepth 100000 in
set_option maxHeartbeats 6400000 in
theorem rcut_calls (f t : Int) (va : Value) (l : List Int) (w : World) (ha : IcsAt w va l) (hn : l.length ≤ 1000) :
    Calls Try.prog 21 #[.agg #[.int .i64 f, .int .i64 t], va] w (PersTo w (cutL f t l)) := by
  have hh := ha
  obtain ⟨av, cap, rfl, hlc, hm, -⟩ := ha
  have hm := hm.1
  unfold maxLen at hm
  obtain ⟨W, hW⟩ : ∃ W, W = w.alloc (Obj.cells #[Value.int .i64 f, Value.int .i64 t] 23) := ⟨_, rfl⟩
  have hw0 : Below w.heap.size w W := by rw [hW]; exact (Below.refl _ _).alloc (Nat.le_refl _) _
  have rW : W.heap[w.heap.size]? = some (Obj.cells #[Value.int .i64 f, Value.int .i64 t] 23) := by rw [hW]; exact heap_alloc_new _ _
  have hzW : w.heap.size < W.heap.size := by rw [hW]; simp
  have HW := Lib.hid hW
  have RW := Lib.hid rW
  have Hv := Lib.hid (rvalid_calls f t W)
  have m0 : W.cell? ⟨w.heap.size, 0, none⟩ = some (.int .i64 f) := cell_of_row W _ 0 _ _ _ rW
  have m1 : W.cell? ⟨w.heap.size, 1, none⟩ = some (.int .i64 t) := cell_of_row W _ 1 _ _ _ rW
  clear hW rW
  cases hv : validB f t with
  | false =>
    rw [hv] at Hv
    have HE := Lib.hid (show cutL f t l = [] by unfold cutL; rw [if_neg (by rw [hv]; decide)])
    clear hv
    go_enter Try.func21, Try.ntmps21
    go_upto_region 1 with (fail)
    rw [← HW.out]
    go_wp2_with fail
    refine Hv.out.mono ?_
    rintro e w1 ⟨rfl, hb1⟩
    clear m0 m1
    go_wp2
    go_ret
    exact ⟨_, rfl, by rw [HE.out]; exact SliceAt.nil w1, hw0.trans (hb1.mono hw0.size)⟩
  | true =>
    rw [hv] at Hv
    have HE := Lib.hid (show cutL f t l = prUpto (f :: cutEnds f t l) (cutEnds f t l).length by unfold cutL; rw [if_pos hv])
    clear hv
    go_enter Try.func21, Try.ntmps21
    go_upto_region 1 with (fail)
    rw [← HW.out]
    go_wp2_with fail
    refine Hv.out.mono ?_
    rintro e w1 ⟨rfl, hb1⟩
    clear m0 m1
    have q := (hb1.block _ hzW).trans RW.out
    have m0 : w1.cell? ⟨w.heap.size, 0, none⟩ = some (.int .i64 f) := cell_of_row w1 _ 0 _ _ _ q
    have m1 : w1.cell? ⟨w.heap.size, 1, none⟩ = some (.int .i64 t) := cell_of_row w1 _ 1 _ _ _ q
    have hbw1 := hw0.trans (hb1.mono hw0.size)
    have hz1 : w.heap.size < w1.heap.size := Nat.lt_of_lt_of_le hzW hb1.size
    obtain ⟨X, hX⟩ : ∃ X, X = w1.alloc (Obj.cells #[Value.int .i64 t] 3) := ⟨_, rfl⟩
    have rX : X.heap[w1.heap.size]? = some (Obj.cells #[Value.int .i64 t] 3) := by rw [hX]; exact heap_alloc_new _ _
    have hbX : Below w1.heap.size w1 X := by rw [hX]; exact (Below.refl _ _).alloc (Nat.le_refl _) _
    have hiX : IcsAt X (.slice (some ⟨w1.heap.size, 0, none⟩) 1 1) [t] := by
      refine ⟨_, 1, rfl, Nat.le_refl _, ⟨by decide, fun h => by cases h⟩, fun _ => ⟨w1.heap.size, 0, rfl, (Array.getElem?_eq_some_iff.1 rX).1, fun i hi => ?_⟩⟩
      match i, hi with
      | 0, _ => exact cell_of_row X _ 0 _ _ _ rX
    have HX := Lib.hid hX
    have HiX := Lib.hid hiX
    have HQ := Lib.hid q
    clear hX rX hiX q hb1
    go_upto_region 5 with (fail)
    rw [← HX.out]
    clear m0 m1
    go_loopw [5, 6] (fun v i wr => ∃ k : Nat, k ≤ l.length ∧ i = .int .i64 k ∧ IcsAt wr v (cutEnds f t (l.take k)) ∧ Below w1.heap.size w1 wr) (fun _ i _ => l.length - (intOf i).toNat)
    case atStart => exact ⟨0, Nat.zero_le _, rfl, HiX.out, hbX⟩
    case round =>
      obtain ⟨k, hk, rfl, hu, hb⟩ := hrel
      have hel := cutEnds_len f t (l.take k)
      rw [List.length_take, Nat.min_eq_left hk] at hel
      have HU := Lib.hid hu
      obtain ⟨ao, co, rfl, -, -, -⟩ := hu
      have q := (hb.block _ hz1).trans HQ.out
      have m0 : wr.cell? ⟨w.heap.size, 0, none⟩ = some (.int .i64 f) := cell_of_row wr _ 0 _ _ _ q
      have m1 : wr.cell? ⟨w.heap.size, 1, none⟩ = some (.int .i64 t) := cell_of_row wr _ 1 _ _ _ q
      clear q
      by_cases hlt : k < l.length
      · have Hrow := Lib.hid (show ∀ w', Below w1.heap.size w1 w' → ∃ bq oq, av = some ⟨bq, oq, none⟩ ∧ w'.cell? ⟨bq, oq + k, none⟩ = some (.int .i64 l[k]) from fun w' hw => by
          obtain ⟨av2, cap2, e2, -, -, hx⟩ := hh.below (hbw1.trans (hw.mono hbw1.size))
          cases e2
          obtain ⟨b, o, e3, hB, hx⟩ := hx (by rintro rfl; cases hlt)
          have c0 := hx k hlt
          unfold IntC at c0
          rw [Nat.mul_one] at c0
          exact ⟨b, o, e3, c0⟩)
        obtain ⟨bq, oq, rfl, c0⟩ := Hrow.out wr hb
        have Hc := Lib.hid (show ∀ w', Below w1.heap.size w1 w' → w'.cell? ⟨bq, oq + k, none⟩ = some (.int .i64 l[k]) from fun w' hw => by
          obtain ⟨b3, o3, e4, h1⟩ := Hrow.out w' hw
          cases e4
          exact h1)
        have hk0 : (0 : Int) ≤ (k : Int) := Int.natCast_nonneg _
        have hk1 : (k : Int) < (l.length : Int) := by omega
        have hsn := cutEnds_take f t l k hlt
        clear Hrow
        generalize l[k] = x at *
        have HSN := Lib.hid hsn
        clear hsn
        generalize cutEnds f t (l.take k) = E at *
        by_cases h1 : f < x
        · have k1 : decide (f < x) = true := decide_eq_true h1
          by_cases h2 : x < t
          · have k2 : decide (x < t) = true := decide_eq_true h2
            have HE2 := Lib.hid (show cutEnds f t (l.take (k + 1)) = addL E x by rw [HSN.out, if_pos ⟨h1, h2⟩])
            go_upto_region 7 with (fail)
            go_big_quiet (fail)
            clear m0 m1 c0
            obtain ⟨V, hV⟩ : ∃ V, V = wr.drewN nq := ⟨_, rfl⟩
            have hbV : Below wr.heap.size wr V := by rw [hV]; exact below_drewN2 (Below.refl _ _) _
            rw [← hV]
            clear hV
            have hb2 := hb.trans (hbV.mono hb.size)
            have c0 := Hc.out V hb2
            have HA := Lib.hid (add_calls _ E x V (HU.out.below hbV) (by omega))
            go_wp2_with fail
            refine HA.out.mono ?_
            rintro e w4 ⟨v4, rfl, hi4, hb4⟩
            have HI4 := Lib.hid hi4
            obtain ⟨a4, c4, rfl, -, -, -⟩ := hi4
            have hb5 := hb2.trans (hb4.mono hb2.size)
            clear c0
            go_wp2
            exact ⟨⟨k + 1, by omega, by go_num, by rw [HE2.out]; exact HI4.out, hb5⟩, by simp [intOf]; omega⟩
          · have k2 : decide (x < t) = false := decide_eq_false h2
            have HE2 := Lib.hid (show cutEnds f t (l.take (k + 1)) = E by rw [HSN.out, if_neg (fun h => h2 h.2)])
            go_upto_region 7 with (fail)
            go_big_quiet (fail)
            go_wp2
            exact ⟨⟨k + 1, by omega, by go_num, by rw [HE2.out]; exact HU.out.below (below_drewN2 (Below.refl _ _) _), below_drewN2 hb _⟩, by simp [intOf]; omega⟩
        · have k1 : decide (f < x) = false := decide_eq_false h1
          have HE2 := Lib.hid (show cutEnds f t (l.take (k + 1)) = E by rw [HSN.out, if_neg (fun h => h1 h.1)])
          go_upto_region 7 with (fail)
          go_big_quiet (fail)
          go_wp2
          exact ⟨⟨k + 1, by omega, by go_num, by rw [HE2.out]; exact HU.out.below (below_drewN2 (Below.refl _ _) _), below_drewN2 hb _⟩, by simp [intOf]; omega⟩
      · rw [List.take_of_length_le (by omega)] at HU hel
        rw [List.take_of_length_le (by omega)]
        generalize cutEnds f t l = E at *
        obtain ⟨wo, rfl⟩ : ∃ wo : World, wo = wr := ⟨_, rfl⟩
        have hbwr := hbw1.trans (hb.mono hbw1.size)
        go_wp2_with fail
        go_loopw [7, 8, 9] (fun v y i wr => ∃ n : Nat, n ≤ E.length ∧ i = .int .i64 n ∧ y = .int .i64 ((f :: E).getD n 0) ∧ wr.ownsRow wo.heap.size 23 2 v n ((prUpto (f :: E) n).flatMap perCells) ∧ Below wo.heap.size wo wr) (fun _ _ i _ => E.length - (intOf i).toNat)
        case atStart => exact ⟨0, Nat.zero_le _, rfl, rfl, ⟨rfl, Or.inl ⟨rfl, rfl⟩⟩, Below.refl _ _⟩
        case round =>
          obtain ⟨n, hn1, rfl, rfl, hown, hb4⟩ := hrel
          have hbz := hb4.size
          obtain ⟨vo, cv, rfl, hcv, -⟩ := own_shape hown
          have Hown := Lib.hid hown
          clear hown
          by_cases hlt : n < E.length
          · have HP := Lib.hid (show prUpto (f :: E) (n + 1) = prUpto (f :: E) n ++ [((f :: E).getD n 0, E[n])] by rw [prUpto_succ, List.getD_cons_succ, getD_at _ _ _ hlt])
            have HY := Lib.hid (show (f :: E).getD (n + 1) 0 = E[n] by rw [List.getD_cons_succ, getD_at _ _ _ hlt])
            obtain ⟨b, o, rfl, Hc⟩ : ∃ b o, ao = some ⟨b, o, none⟩ ∧ ∀ w', Below wo.heap.size wo w' → w'.cell? ⟨b, o + n, none⟩ = some (.int .i64 E[n]) := by
              obtain ⟨av3, cap3, e3, -, -, hy⟩ := HU.out
              cases e3
              obtain ⟨b3, o3, e4, hB3, hy⟩ := hy (by rintro rfl; cases hlt)
              refine ⟨b3, o3, e4, fun w' hw => ?_⟩
              have h1 := IntC.stays _ _ _ _ _ hw hB3 (hy n hlt)
              unfold IntC at h1
              rwa [Nat.mul_one] at h1
            have HC := Lib.hid Hc
            have c0 := Hc wr hb4
            clear Hc
            generalize (f :: E).getD n 0 = x at *
            generalize E[n] = y at *
            have hk0 : (0 : Int) ≤ (n : Int) := Int.natCast_nonneg _
            have hk1 : (n : Int) < (E.length : Int) := by omega
            obtain ⟨i0, hi, hy0, hy1, hy2⟩ := info_parts Try.perInfo
            have Hi := Lib.hid (And.intro hi (And.intro hy0 (And.intro hy1 hy2)))
            have Hbl := Lib.hid (fun g hg => ownsRow_block Hown.out g hg)
            clear hi hy0 hy1 hy2
            go_wp2_with (at_builtin; refine wpList_append_own _ rfl _ _ 24 rfl wo.heap.size 23 i0 _ 2 16 Try.underlying24 Hi.out.1 Hi.out.2.1 Hi.out.2.2.1 Hi.out.2.2.2 rfl (by decide) _ _ _ rfl (Hown.out.alloc _) ⟨wr.heap.size, 0, none⟩ 1 1 [.int .i64 x, .int .i64 y] rfl rfl (World.news_of_block (cs := #[.int .i64 x, .int .i64 y]) (t := 23) (fr := (0, 0)) (heap_alloc_new _ _)) ?aq2 ?aq3 ?aq4 ?aq5 ?_)
            case aq2 => simp [Value.oneCell']
            case aq3 => unfold maxLen; omega
            case aq4 => omega
            case aq5 => (try simp); omega
            intro v_w2 w5 hown_w2 hgrow _
            have hb5 := (hb4.alloc hbz (Obj.cells #[.int .i64 x, .int .i64 y] 23)).grown hgrow (by simp; omega) (fun g hg => (Hbl.out g hg).1)
            have Hown2 := Lib.hid hown_w2
            have c1 := HC.out w5 hb5
            clear hown_w2 hgrow
            obtain ⟨ao2, co2, rfl, -, -⟩ := own_shape Hown2.out
            go_wp2
            refine ⟨⟨n + 1, by omega, by go_num, by rw [HY.out], ?_, hb5⟩, by simp [intOf]; omega⟩
            rw [HP.out, List.flatMap_append]
            exact Hown2.out
          · have hkk : n = E.length := by omega
            have HF := Lib.hid (show cutL f t l = prUpto (f :: E) n by rw [HE.out, hkk])
            clear hkk
            go_wp2
            go_ret
            rw [HF.out]
            exact ⟨_, rfl, PersAt.own (by rw [prUpto_len]; exact Hown.out), hbwr.trans (hb4.mono hbwr.size)⟩
end Go.Proofs.Ytimclpgkdplnhaa
