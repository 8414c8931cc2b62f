/-
  The walk of the law BandsCut.
-/
import Derived.Test.YtcfmndhjmlbcoaaLaw05b
import Derived.Shelf.SlSortCmp.QuietGrown
namespace Go.Proofs.Ytcfmndhjmlbcoaa
open Go.RowKit

theorem below_grow5 {B : Nat} {a w : World} (h : Below B a w) (hB : B ≤ w.heap.size) (os : Array Obj) : Below B a (Go.Sort.grow w os) :=
  ⟨h.os, h.tape, h.output, by have := h.size; rw [Go.Sort.size_grow]; omega, fun k hk => (Go.Sort.heap_grow_old w os (Nat.lt_of_lt_of_le hk hB)).trans (h.block k hk)⟩
theorem rvalid_grow5 (f t : Int) (h : validB f t = true) (W : World) : Calls Try.prog 26 #[.agg #[.int .i64 f, .int .i64 t]] W fun e w' => e = .returned (.bool true) ∧ ∃ q os', w' = Go.Sort.grow (W.drewN q) os' := by
  obtain ⟨h1, h2, h3⟩ := (validB_iff f t).1 h
  have k1 : decide (0 ≤ f) = true := decide_eq_true h1
  have k2 : decide (f < t) = true := decide_eq_true h2
  have k3 : decide (t ≤ 12622780800) = true := decide_eq_true h3
  clear h
  go_enter Try.func26, Try.ntmps26
  go_wp2
  go_ret
  exact ⟨rfl, 0, _, by rw [Go.Sort.alloc_eq_grow]; rfl⟩

set_option maxRecDepth 100000 in
theorem rcontains_grow5 (f u t : Int) (h : validB f u = true) (hn : t < f ∨ (f ≤ t ∧ u ≤ t)) (W : World) : Calls Try.prog 27 #[.agg #[.int .i64 f, .int .i64 u], .int .i64 t] W fun e w' => e = .returned (.bool false) ∧ ∃ q os', w' = Go.Sort.grow (W.drewN q) os' := by
  obtain ⟨X, hX⟩ : ∃ X, X = W.alloc (Obj.cells #[Value.int .i64 f, .int .i64 u] 37) := ⟨_, rfl⟩
  have rX : X.heap[W.heap.size]? = some (Obj.cells #[Value.int .i64 f, .int .i64 u] 37) := by rw [hX]; exact heap_alloc_new _ _
  have hzX : W.heap.size < X.heap.size := by rw [hX]; simp
  have x0 : X.cell? ⟨W.heap.size, 0, none⟩ = some (.int .i64 f) := cell_of_row X _ 0 _ _ _ rX
  have x1 : X.cell? ⟨W.heap.size, 1, none⟩ = some (.int .i64 u) := cell_of_row X _ 1 _ _ _ rX
  have HG := Lib.hid (fun q os => And.intro (cell_grown hzX x0 q os) (cell_grown hzX x1 q os))
  have HX := Lib.hid hX
  have Hv := Lib.hid h
  clear hX rX hzX h
  rcases hn with h1 | ⟨h1, h2⟩
  all_goals
    go_enter Try.func27, Try.ntmps27
    go_upto_region 1 with (fail)
    rw [← HX.out]
    go_wp2_with fail
    refine (rvalid_grow5 f u Hv.out X).mono ?_
    rintro e w1 ⟨rfl, q, os, hw1⟩
    obtain ⟨m0, m1⟩ := HG.out q os
    rw [← hw1] at m0 m1
    have Hw1 := Lib.hid hw1
    clear x0 x1 hw1
    go_wp2
    go_ret
    exact ⟨by first | rfl | exact ret_bool (decide_eq_false (by omega)), q, #[Obj.cells #[Value.int .i64 f, .int .i64 u] 37] ++ os, by rw [Hw1.out, HX.out, Go.Sort.alloc_eq_grow]; show Go.Sort.grow (Go.Sort.grow (W.drewN q) _) os = _; rw [Go.Sort.grow_grow]⟩

set_option maxRecDepth 100000 in
set_option maxHeartbeats 25600000 in
theorem cut05_law (bv hv : Value) (l : List Bn) (hol : List Int) (pf pt t : Int) (w : World) (h : BnsAt w bv l) (hh : IcsAt w hv hol) :
    Calls Try.prog 6 #[.agg #[bv, hv], .agg #[.int .i64 pf, .int .i64 pt], .int .i64 t] w fun e w' => e = .returned (.bool true) ∧ Below w.heap.size w w' := by
  obtain ⟨X, hX⟩ : ∃ X, X = w.alloc (Obj.cells #[bv, hv] 32) := ⟨_, rfl⟩
  obtain ⟨W, hW⟩ : ∃ W, W = X.alloc (Obj.cells #[Value.int .i64 pf, .int .i64 pt] 37) := ⟨_, rfl⟩
  have hwX : Below w.heap.size w X := by rw [hX]; exact (Below.refl _ _).alloc (Nat.le_refl _) _
  have hXW : Below X.heap.size X W := by rw [hW]; exact (Below.refl _ _).alloc (Nat.le_refl _) _
  have hw0 := hwX.trans (hXW.mono hwX.size)
  have hzX : X.heap.size = w.heap.size + 1 := by rw [hX]; simp
  have hzW : X.heap.size < W.heap.size := by rw [hW]; simp
  have rX : X.heap[w.heap.size]? = some (Obj.cells #[bv, hv] 32) := by rw [hX]; exact heap_alloc_new _ _
  have rW : W.heap[X.heap.size]? = some (Obj.cells #[Value.int .i64 pf, .int .i64 pt] 37) := by rw [hW]; exact heap_alloc_new _ _
  have rX2 := (hXW.block _ (by omega)).trans rX
  rw [hzX] at rW hzW
  have HM := Lib.hid (show ∀ w', Below W.heap.size W w' → (w'.cell? ⟨w.heap.size, 0, none⟩ = some bv ∧ w'.cell? ⟨w.heap.size, 1, none⟩ = some hv) ∧ w'.cell? ⟨w.heap.size + 1, 0, none⟩ = some (.int .i64 pf) ∧ w'.cell? ⟨w.heap.size + 1, 1, none⟩ = some (.int .i64 pt) from fun w' hb => by
    have q := (hb.block _ (by omega)).trans rX2
    have q2 := (hb.block _ hzW).trans rW
    exact ⟨⟨cell_of_row w' _ 0 _ _ _ q, cell_of_row w' _ 1 _ _ _ q⟩, cell_of_row w' _ 0 _ _ _ q2, cell_of_row w' _ 1 _ _ _ q2⟩)
  have HW := Lib.hid (show W = (w.alloc (Obj.cells #[bv, hv] 32)).alloc (Obj.cells #[Value.int .i64 pf, .int .i64 pt] 37) by rw [hW, hX])
  have HB := Lib.hid (fun w1 (hb : Below W.heap.size W w1) => (h.below hw0).below hb)
  have HH := Lib.hid (fun w1 (hb : Below W.heap.size W w1) => (hh.below hw0).below hb)
  have HL := Lib.hid (light_calls bv hv l hol W (h.below hw0) (hh.below hw0))
  have HC := Lib.hid (fun w1 (hb : Below W.heap.size W w1) => check_calls bv l w1 ((h.below hw0).below hb))
  have HV := Lib.hid (fun w1 => rvalid_calls pf pt w1)
  have Hw0 := Lib.hid hw0
  have hBB := h
  obtain ⟨av, cap, rfl, hlc, hm, -⟩ := h
  obtain ⟨avh, caph, rfl, -, -, -⟩ := hh
  have hm := hm.1
  unfold maxLen at hm
  clear hX hW hwX hXW hzX hzW rX rW rX2 hw0
  obtain ⟨⟨m0, m1⟩, m2, m3⟩ := HM.out W (Below.refl _ _)
  have HCu := Lib.hid (fun w1 (hb : Below W.heap.size W w1) => pcut_calls _ _ l hol pf pt w1 (HB.out w1 hb) (HH.out w1 hb))
  have HAt := Lib.hid (fun w1 (hb : Below W.heap.size W w1) u => at_calls _ _ l hol u w1 (HB.out w1 hb) (HH.out w1 hb))
  go_enter Try.func6, Try.ntmps6
  go_upto_region 1 with (fail)
  rw [← HW.out]
  go_wp2_with fail
  refine HL.out.mono ?_
  rintro e w1 ⟨r, rfl, hb1⟩
  clear m0 m1 m2 m3
  obtain ⟨⟨m0, m1⟩, m2, m3⟩ := HM.out w1 hb1
  cases r with
  | false =>
    go_wp2_with fail
    refine (awake05_calls w1).mono ?_
    rintro e wz ⟨rfl, hbx⟩
    have hbz := hb1.trans (hbx.mono hb1.size)
    go_wp2
    go_ret
    exact ⟨rfl, Hw0.out.trans (hbz.mono Hw0.out.size)⟩
  | true =>
    by_cases hz : checkB l = 0
    · have HC1 := Lib.hid (HC.out w1 hb1)
      rw [hz] at HC1
      go_wp2_with fail
      refine HC1.out.mono ?_
      rintro e w2 ⟨rfl, hbx⟩
      have hb2 := hb1.trans (hbx.mono hb1.size)
      clear m0 m1 m2 m3
      obtain ⟨⟨m0, m1⟩, m2, m3⟩ := HM.out w2 hb2
      go_wp2_with fail
      refine (HCu.out w2 hb2).mono ?_
      rintro e w3 ⟨L, vL, rfl, hP, hR, hbx⟩
      have hb3 := hb2.trans (hbx.mono hb2.size)
      clear m0 m1 m2 m3 hbx
      obtain ⟨⟨m0, m1⟩, m2, m3⟩ := HM.out w3 hb3
      have hPP := hP
      obtain ⟨aL, cL, rfl, hLc, hLm, -⟩ := hP
      have hLm := hLm.1
      unfold maxLen at hLm
      cases hv2 : validB pf pt with
      | false =>
        rw [hv2] at HV
        have hL0 : L.length = 0 := by rw [hR.2 (fun h => by rw [h.2.1] at hv2; cases hv2)]; rfl
        rw [hL0]
        clear hz hv2 hR hPP hLc hL0
        go_wp2_with fail
        refine (HV.out w3).mono ?_
        rintro e w4 ⟨rfl, hbx⟩
        have hb4 := hb3.trans (hbx.mono hb3.size)
        go_wp2_with fail
        refine (awake05_calls w4).mono ?_
        rintro e wz ⟨rfl, hbx⟩
        have hbz := hb4.trans (hbx.mono hb4.size)
        go_wp2
        go_ret
        exact ⟨rfl, Hw0.out.trans (hbz.mono Hw0.out.size)⟩
      | true =>
        rw [hv2] at HV
        obtain ⟨v0, v1, v2⟩ := (validB_iff pf pt).1 hv2
        have a1 : IntKind.i64.wrap (pt - pf) = pt - pf := IntWalk.i64_in _ (by omega)
        by_cases hs : pt - pf ≤ 2678400
        · have hRl := hR.1 ⟨hz, hv2, hs⟩
          have hs2 : ¬ 2678400 < pt - pf := by omega
          have hL0 : 0 < L.length := by
            rcases Nat.eq_zero_or_pos L.length with h0 | h0
            · rw [List.length_eq_zero_iff.1 h0] at hRl
              have hRl : pf = pt := hRl
              omega
            · exact h0
          have hLn := rle_len L pf hRl
          have HG := Lib.hid (rle_get L pf hRl)
          have HA := Lib.hid (show ∀ u, 0 ≤ u → u < 12622780800 → atB l hol u = bandAt l hol u from fun u h0 h1 => if_pos ⟨hz, h0, h1⟩)
          have hLb : L.length ≤ 2678400 := by omega
          clear hz hv2 hR hRl hLn
          obtain ⟨aL2, cL2, eL, -, -, hx⟩ := id hPP
          cases eL
          obtain ⟨b, o, rfl, hBb, hx⟩ := hx (by rintro rfl; cases hL0)
          have HLc := Lib.hid (show ∀ w', Below w3.heap.size w3 w' → ∀ i (hi : i < L.length), w'.cell? ⟨b, o + i * 3, none⟩ = some (.string L[i].1) ∧ w'.cell? ⟨b, o + i * 3 + 1, none⟩ = some (.int .i64 L[i].2.1) ∧ w'.cell? ⟨b, o + i * 3 + 2, none⟩ = some (.int .i64 L[i].2.2) from fun w' h i hi => PcR.stays _ _ _ _ _ h hBb (hx i hi))
          clear hx
          go_wp2_with fail
          refine (HV.out w3).mono ?_
          rintro e w4 ⟨rfl, hbx⟩
          have hb34 := hbx
          have hb4 := hb3.trans (hbx.mono hb3.size)
          clear m0 m1 m2 m3 hbx
          obtain ⟨⟨m0, m1⟩, m2, m3⟩ := HM.out w4 hb4
          have f0 : w4.cell? ⟨b, o + 1, none⟩ = some (.int .i64 pf) := by
            have := (HLc.out w4 hb34 0 hL0).2.1
            rw [(HG.out 0 hL0).2.2.2.2.1 rfl, Nat.zero_mul, Nat.add_zero] at this
            exact this
          have f1 : w4.cell? ⟨b, o + (L.length - 1) * 3 + 2, none⟩ = some (.int .i64 pt) := by
            have := (HLc.out w4 hb34 (L.length - 1) (by omega)).2.2
            rw [(HG.out (L.length - 1) (by omega)).2.2.2.2.2.1 (by omega)] at this
            exact this
          have hz0 : ((L.length : Int) == 0) = false := beq_eq_false_iff_ne.2 (by omega)
          have hj5 : IntKind.i64.wrap ((L.length : Int) - 1) = (L.length : Int) - 1 := IntWalk.i64_in _ (by omega)
          have hj6 : ((L.length : Int) - 1).toNat = L.length - 1 := by omega
          have hj0 : (0 : Int) ≤ (L.length : Int) - 1 := by omega
          have hj1 : (L.length : Int) - 1 < (L.length : Int) := by omega
          have hj2 : (0 : Int) < (L.length : Int) := by omega
          go_upto_region 6 with (fail)
          go_big_quiet (fail)
          go_upto_region 8 with (fail)
          obtain ⟨V, hV⟩ : ∃ V, V = w4.drewN nq := ⟨_, rfl⟩
          have hbV : Below w4.heap.size w4 V := by rw [hV]; exact below_drewN5 (Below.refl _ _) _
          rw [← hV]
          have hb3V := hb34.trans (hbV.mono hb34.size)
          have hbWV := hb4.trans (hbV.mono hb4.size)
          clear hV m0 m1 m2 m3 f0 f1 hz0 hj5 hj6 hj0 hj1 hj2 hb34 hb4 hbV
          go_wp2_with fail
          go_loopw [8] (fun i wr => ∃ k : Nat, k ≤ L.length ∧ i = .int .i64 k ∧ Below V.heap.size V wr) (fun i _ => L.length - (intOf i).toNat)
          case atStart => exact ⟨0, Nat.zero_le _, rfl, Below.refl _ _⟩
          case round =>
            obtain ⟨k, hk, rfl, hb⟩ := hrel
            have hbw := hbWV.trans (hb.mono hbWV.size)
            have hb3w := hb3V.trans (hb.mono hb3V.size)
            by_cases hlt : k < L.length
            · obtain ⟨c0, c1, c2⟩ := HLc.out wr hb3w k hlt
              obtain ⟨g1, g2, g3, g4, -, -, g7⟩ := HG.out k hlt
              have HLk := Lib.hid (show ∀ w', Below wr.heap.size wr w' → w'.cell? ⟨b, o + k * 3, none⟩ = some (.string L[k].1) from fun w' h => (HLc.out w' (hb3w.trans (h.mono hb3w.size)) k hlt).1)
              have HG7 := Lib.hid g7
              have HG4 := Lib.hid g4
              clear g4 g7
              have hk0 : (0 : Int) ≤ (k : Int) := Int.natCast_nonneg _
              have hk1 : (k : Int) < (L.length : Int) := by omega
              generalize hy : L[k] = y at *
              have HY := Lib.hid hy
              clear hy
              obtain ⟨bn, f, u⟩ := y
              dsimp only at c0 c1 c2 g1 g2 g3 HG4 HG7 HLk
              have HAu := Lib.hid (show ∀ x, f ≤ x → x < u → ∀ w1, Below W.heap.size W w1 → Calls Try.prog 19 #[.slice av l.length cap, .slice avh hol.length caph, .int .i64 x] w1 (StrTo bn w1) from fun x h1 h2 w1 hb1 => by
                have := HAt.out w1 hb1 x
                rw [HA.out x (by omega) (by omega), HG4.out x h1 h2] at this
                exact this)
              have HAf := Lib.hid (HAu.out f (Int.le_refl _) g2)
              have HAe := Lib.hid (HAu.out (u - 1) (by omega) (by omega))
              have HVq := Lib.hid (fun w1 => rvalid_calls f u w1)
              have Hvq := Lib.hid ((validB_iff f u).2 ⟨by omega, g2, by omega⟩)
              rw [Hvq.out] at HVq
              have HCq := Lib.hid (fun w1 => rcontains_calls f u t w1)
              have hwu : IntKind.i64.wrap (u - 1) = u - 1 := IntWalk.i64_in _ (by omega)
              have e1 : (bn.toList == bn.toList) = true := beq_self_eq_true _
              obtain ⟨X, hX⟩ : ∃ X, X = wr.alloc (Obj.cells #[Value.int .i64 f, .int .i64 u] 37) := ⟨_, rfl⟩
              have hbX : Below wr.heap.size wr X := by rw [hX]; exact (Below.refl _ _).alloc (Nat.le_refl _) _
              have rX : X.heap[wr.heap.size]? = some (Obj.cells #[Value.int .i64 f, .int .i64 u] 37) := by rw [hX]; exact heap_alloc_new _ _
              have hzX : wr.heap.size < X.heap.size := by rw [hX]; simp
              have HX := Lib.hid hX
              have hbWX := hbw.trans (hbX.mono hbw.size)
              have HMX := Lib.hid (show ∀ w', Below X.heap.size X w' → w'.cell? ⟨wr.heap.size, 0, none⟩ = some (.int .i64 f) ∧ w'.cell? ⟨wr.heap.size, 1, none⟩ = some (.int .i64 u) from fun w' hb => by
                have q := (hb.block _ hzX).trans rX
                exact ⟨cell_of_row w' _ 0 _ _ _ q, cell_of_row w' _ 1 _ _ _ q⟩)
              have HbX := Lib.hid hbX
              clear hX rX hbX c0
              have Mk := Lib.hid (show ∀ w' : World, Below X.heap.size X w' → Below X.heap.size X w' ∧ w'.cell? ⟨w.heap.size, 0, none⟩ = some (.slice av l.length cap) ∧ w'.cell? ⟨w.heap.size, 1, none⟩ = some (.slice avh hol.length caph) ∧ w'.cell? ⟨wr.heap.size, 0, none⟩ = some (.int .i64 f) ∧ w'.cell? ⟨wr.heap.size, 1, none⟩ = some (.int .i64 u) ∧ w'.cell? ⟨b, o + k * 3, none⟩ = some (.string bn) from fun w' h => by
                obtain ⟨⟨z0, z1⟩, -, -⟩ := HM.out w' (hbWX.trans (h.mono hbWX.size))
                obtain ⟨q0, q1⟩ := HMX.out w' h
                exact ⟨h, z0, z1, q0, q1, HLk.out w' (HbX.out.trans (h.mono HbX.out.size))⟩)
              have hrX := Below.refl X.heap.size X
              go_upto_region 12 with (fail)
              rw [← HX.out]
              clear c1 c2
              by_cases hk00 : k = 0
              · have hkp : ¬ (0 : Int) < (k : Int) := by omega
                have hkn : ¬ 0 < k := by omega
                have hkd : decide (0 < k) = false := decide_eq_false hkn
                clear hk00
                obtain ⟨-, -, -, q0, q1, -⟩ := Mk.out X hrX
                have l0 : ∀ n os, (Go.Sort.grow (X.drewN n) os).cell? ⟨wr.heap.size, 0, none⟩ = some (.int .i64 f) := fun n os => cell_grown hzX q0 n os
                have l1 : ∀ n os, (Go.Sort.grow (X.drewN n) os).cell? ⟨wr.heap.size, 1, none⟩ = some (.int .i64 u) := fun n os => cell_grown hzX q1 n os
                clear q0 q1
                refine wp_region_quiet_grown (by kernel_rfl) (by kernel_rfl) ?_
                repeat (go_big_quiet_step (first | (go_at_call 26; refine Calls.grown_of (rvalid_grow5 f u Hvq.out _))))
                refine wpQuiet_nil ?_
                intro _ hw'
                obtain ⟨⟨nq2, osq⟩, hw''⟩ := hw'
                subst hw''
                have hYwv : Below X.heap.size X (Go.Sort.grow (X.drewN nq2) osq) := below_grow5 (below_drewN5 (Below.refl _ _) nq2) (Nat.le_refl _) osq
                generalize Go.Sort.grow (X.drewN nq2) osq = wv at *
                clear l0 l1
                go_upto_region 14 with (fail)
                obtain ⟨-, z0, z1, q0, q1, q2⟩ := Mk.out wv hYwv
                clear z0 z1 q0 q1 q2
                go_region_held3 (fun w' : World => Below X.heap.size X w' ∧ w'.cell? ⟨w.heap.size, 0, none⟩ = some (.slice av l.length cap) ∧ w'.cell? ⟨w.heap.size, 1, none⟩ = some (.slice avh hol.length caph) ∧ w'.cell? ⟨wr.heap.size, 0, none⟩ = some (.int .i64 f) ∧ w'.cell? ⟨wr.heap.size, 1, none⟩ = some (.int .i64 u) ∧ w'.cell? ⟨b, o + k * 3, none⟩ = some (.string bn))
                  (first
                    | exact Mk.out _ (by assumption)
                    | exact Mk.out _ (Below.drew (by assumption)))
                  (first
                    | (go_at_call 19
                       with_reducible (refine (HAf.out _ (hbWX.trans (Below.mono (And.left (by assumption)) hbWX.size))).mono ?_)
                       rintro e wa ⟨rfl, hbz⟩
                       have hYwa : Below X.heap.size X wa := Below.trans (And.left (by assumption)) (hbz.mono (Below.size (And.left (by assumption))))
                       clear hbz)
                    | (go_at_call 19
                       with_reducible (refine (HAe.out _ (hbWX.trans (Below.mono (And.left (by assumption)) hbWX.size))).mono ?_)
                       rintro e wb ⟨rfl, hbz⟩
                       have hYwb : Below X.heap.size X wb := Below.trans (And.left (by assumption)) (hbz.mono (Below.size (And.left (by assumption))))
                       clear hbz))
                cases hct : containsB f u t with
                | false =>
                  have Hno := Lib.hid (show t < f ∨ (f ≤ t ∧ u ≤ t) by
                    rcases Int.lt_or_le t f with h1 | h1
                    · exact Or.inl h1
                    · rcases Int.lt_or_le t u with h2 | h2
                      · have := (containsB_iff f u t).2 ⟨(validB_iff f u).1 Hvq.out, h1, h2⟩
                        rw [hct] at this; cases this
                      · exact Or.inr ⟨h1, h2⟩)
                  clear hct
                  obtain ⟨-, -, -, q0, q1, -⟩ := Mk.out wb hYwb
                  have hzb : wr.heap.size < wb.heap.size := Nat.lt_of_lt_of_le hzX hYwb.size
                  have l0 : ∀ n os, (Go.Sort.grow (wb.drewN n) os).cell? ⟨wr.heap.size, 0, none⟩ = some (.int .i64 f) := fun n os => cell_grown hzb q0 n os
                  have l1 : ∀ n os, (Go.Sort.grow (wb.drewN n) os).cell? ⟨wr.heap.size, 1, none⟩ = some (.int .i64 u) := fun n os => cell_grown hzb q1 n os
                  clear q0 q1
                  go_upto_region 16 with (fail)
                  refine wp_region_quiet_grown (by kernel_rfl) (by kernel_rfl) ?_
                  repeat (go_big_quiet_step (first | (go_at_call 27; refine Calls.grown_of (rcontains_grow5 f u t Hvq.out Hno.out _))))
                  refine wpQuiet_nil ?_
                  intro _ hw'
                  obtain ⟨⟨nq2, osq⟩, hw''⟩ := hw'
                  subst hw''
                  have hYwc : Below X.heap.size X (Go.Sort.grow (wb.drewN nq2) osq) := below_grow5 (below_drewN5 hYwb nq2) hYwb.size osq
                  generalize Go.Sort.grow (wb.drewN nq2) osq = wc at *
                  clear l0 l1
                  go_wp2
                  exact ⟨⟨k + 1, by omega, by go_num, hb.trans ((HbX.out.trans (hYwc.mono HbX.out.size)).mono hb.size)⟩, by simp [intOf]; omega⟩
                | true =>
                  rw [hct] at HCq
                  obtain ⟨-, t1, t2⟩ := (containsB_iff f u t).1 hct
                  have HAx := Lib.hid (HAu.out t t1 t2)
                  clear hct
                  go_upto_region 16 with (fail)
                  go_region_held3 (fun w' : World => Below X.heap.size X w' ∧ w'.cell? ⟨w.heap.size, 0, none⟩ = some (.slice av l.length cap) ∧ w'.cell? ⟨w.heap.size, 1, none⟩ = some (.slice avh hol.length caph) ∧ w'.cell? ⟨wr.heap.size, 0, none⟩ = some (.int .i64 f) ∧ w'.cell? ⟨wr.heap.size, 1, none⟩ = some (.int .i64 u) ∧ w'.cell? ⟨b, o + k * 3, none⟩ = some (.string bn))
                    (first
                      | exact Mk.out _ (by assumption)
                      | exact Mk.out _ (Below.drew (by assumption)))
                    (first
                      | (go_at_call 27
                         with_reducible (refine (HCq.out _).mono ?_)
                         rintro e wc ⟨rfl, hbz⟩
                         have hYwc : Below X.heap.size X wc := Below.trans (And.left (by assumption)) (hbz.mono (Below.size (And.left (by assumption))))
                         clear hbz)
                      | (go_at_call 19
                         with_reducible (refine (HAx.out _ (hbWX.trans (Below.mono (And.left (by assumption)) hbWX.size))).mono ?_)
                         rintro e wd ⟨rfl, hbz⟩
                         have hYwd : Below X.heap.size X wd := Below.trans (And.left (by assumption)) (hbz.mono (Below.size (And.left (by assumption))))
                         clear hbz))
                  go_wp2
                  exact ⟨⟨k + 1, by omega, by go_num, hb.trans ((HbX.out.trans (hYwd.mono HbX.out.size)).mono hb.size)⟩, by simp [intOf]; omega⟩
              · have hkp : (0 : Int) < (k : Int) := by omega
                have hkn : 0 < k := by omega
                have hkd : decide (0 < k) = true := decide_eq_true hkn
                obtain ⟨j, hj⟩ : ∃ j, j = k - 1 := ⟨_, rfl⟩
                have hjl : j < L.length := by omega
                obtain ⟨d1, d2⟩ := HG7.out j hjl (by omega)
                have HLj := Lib.hid (show ∀ w', Below X.heap.size X w' → w'.cell? ⟨b, o + j * 3, none⟩ = some (.string L[j].1) ∧ w'.cell? ⟨b, o + j * 3 + 2, none⟩ = some (.int .i64 f) from fun w' h => by
                  have hq := HLc.out w' (hb3w.trans ((HbX.out.trans (h.mono HbX.out.size)).mono hb3w.size)) j hjl
                  rw [← d1] at hq
                  exact ⟨hq.1, hq.2.2⟩)
                generalize L[j].1 = bm at HLj d2
                have e2 : (bn.toList == bm.toList) = false := by
                  cases hc : (bn.toList == bm.toList) with
                  | false => rfl
                  | true => exact absurd ((sameS_iff bn bm).1 hc) d2
                have hj5 : IntKind.i64.wrap ((k : Int) - 1) = (j : Int) := by rw [show (k : Int) - 1 = (j : Int) by omega]; exact IntWalk.i64_in _ (by omega)
                have hj0 : (0 : Int) ≤ (j : Int) := Int.natCast_nonneg _
                have hj1 : (j : Int) < (L.length : Int) := by omega
                clear d1 d2 hk00 hj hjl
                have Mk12 := Lib.hid (show ∀ w' : World, Below X.heap.size X w' → Below X.heap.size X w' ∧ w'.cell? ⟨w.heap.size, 0, none⟩ = some (.slice av l.length cap) ∧ w'.cell? ⟨w.heap.size, 1, none⟩ = some (.slice avh hol.length caph) ∧ w'.cell? ⟨wr.heap.size, 0, none⟩ = some (.int .i64 f) ∧ w'.cell? ⟨wr.heap.size, 1, none⟩ = some (.int .i64 u) ∧ w'.cell? ⟨b, o + k * 3, none⟩ = some (.string bn) ∧ w'.cell? ⟨b, o + j * 3, none⟩ = some (.string bm) ∧ w'.cell? ⟨b, o + j * 3 + 2, none⟩ = some (.int .i64 f) from fun w' h => by
                  obtain ⟨x0, x1, x2, x3, x4, x5⟩ := Mk.out w' h
                  obtain ⟨x6, x7⟩ := HLj.out w' h
                  exact ⟨x0, x1, x2, x3, x4, x5, x6, x7⟩)
                go_region_held3 (fun w' : World => Below X.heap.size X w' ∧ w'.cell? ⟨w.heap.size, 0, none⟩ = some (.slice av l.length cap) ∧ w'.cell? ⟨w.heap.size, 1, none⟩ = some (.slice avh hol.length caph) ∧ w'.cell? ⟨wr.heap.size, 0, none⟩ = some (.int .i64 f) ∧ w'.cell? ⟨wr.heap.size, 1, none⟩ = some (.int .i64 u) ∧ w'.cell? ⟨b, o + k * 3, none⟩ = some (.string bn) ∧ w'.cell? ⟨b, o + j * 3, none⟩ = some (.string bm) ∧ w'.cell? ⟨b, o + j * 3 + 2, none⟩ = some (.int .i64 f))
                  (first
                    | exact Mk12.out _ (by assumption)
                    | exact Mk12.out _ (Below.drew (by assumption)))
                  (first
                    | (go_at_call 26
                       with_reducible (refine (HVq.out _).mono ?_)
                       rintro e wv ⟨rfl, hbz⟩
                       have hYwv : Below X.heap.size X wv := Below.trans (And.left (by assumption)) (hbz.mono (Below.size (And.left (by assumption))))
                       clear hbz))
                clear hj5 hj0 hj1 e2
                go_upto_region 14 with (fail)
                obtain ⟨-, z0, z1, q0, q1, q2⟩ := Mk.out wv hYwv
                clear z0 z1 q0 q1 q2
                go_region_held3 (fun w' : World => Below X.heap.size X w' ∧ w'.cell? ⟨w.heap.size, 0, none⟩ = some (.slice av l.length cap) ∧ w'.cell? ⟨w.heap.size, 1, none⟩ = some (.slice avh hol.length caph) ∧ w'.cell? ⟨wr.heap.size, 0, none⟩ = some (.int .i64 f) ∧ w'.cell? ⟨wr.heap.size, 1, none⟩ = some (.int .i64 u) ∧ w'.cell? ⟨b, o + k * 3, none⟩ = some (.string bn))
                  (first
                    | exact Mk.out _ (by assumption)
                    | exact Mk.out _ (Below.drew (by assumption)))
                  (first
                    | (go_at_call 19
                       with_reducible (refine (HAf.out _ (hbWX.trans (Below.mono (And.left (by assumption)) hbWX.size))).mono ?_)
                       rintro e wa ⟨rfl, hbz⟩
                       have hYwa : Below X.heap.size X wa := Below.trans (And.left (by assumption)) (hbz.mono (Below.size (And.left (by assumption))))
                       clear hbz)
                    | (go_at_call 19
                       with_reducible (refine (HAe.out _ (hbWX.trans (Below.mono (And.left (by assumption)) hbWX.size))).mono ?_)
                       rintro e wb ⟨rfl, hbz⟩
                       have hYwb : Below X.heap.size X wb := Below.trans (And.left (by assumption)) (hbz.mono (Below.size (And.left (by assumption))))
                       clear hbz))
                cases hct : containsB f u t with
                | false =>
                  have Hno := Lib.hid (show t < f ∨ (f ≤ t ∧ u ≤ t) by
                    rcases Int.lt_or_le t f with h1 | h1
                    · exact Or.inl h1
                    · rcases Int.lt_or_le t u with h2 | h2
                      · have := (containsB_iff f u t).2 ⟨(validB_iff f u).1 Hvq.out, h1, h2⟩
                        rw [hct] at this; cases this
                      · exact Or.inr ⟨h1, h2⟩)
                  clear hct
                  obtain ⟨-, -, -, q0, q1, -⟩ := Mk.out wb hYwb
                  have hzb : wr.heap.size < wb.heap.size := Nat.lt_of_lt_of_le hzX hYwb.size
                  have l0 : ∀ n os, (Go.Sort.grow (wb.drewN n) os).cell? ⟨wr.heap.size, 0, none⟩ = some (.int .i64 f) := fun n os => cell_grown hzb q0 n os
                  have l1 : ∀ n os, (Go.Sort.grow (wb.drewN n) os).cell? ⟨wr.heap.size, 1, none⟩ = some (.int .i64 u) := fun n os => cell_grown hzb q1 n os
                  clear q0 q1
                  go_upto_region 16 with (fail)
                  refine wp_region_quiet_grown (by kernel_rfl) (by kernel_rfl) ?_
                  repeat (go_big_quiet_step (first | (go_at_call 27; refine Calls.grown_of (rcontains_grow5 f u t Hvq.out Hno.out _))))
                  refine wpQuiet_nil ?_
                  intro _ hw'
                  obtain ⟨⟨nq2, osq⟩, hw''⟩ := hw'
                  subst hw''
                  have hYwc : Below X.heap.size X (Go.Sort.grow (wb.drewN nq2) osq) := below_grow5 (below_drewN5 hYwb nq2) hYwb.size osq
                  generalize Go.Sort.grow (wb.drewN nq2) osq = wc at *
                  clear l0 l1
                  go_wp2
                  exact ⟨⟨k + 1, by omega, by go_num, hb.trans ((HbX.out.trans (hYwc.mono HbX.out.size)).mono hb.size)⟩, by simp [intOf]; omega⟩
                | true =>
                  rw [hct] at HCq
                  obtain ⟨-, t1, t2⟩ := (containsB_iff f u t).1 hct
                  have HAx := Lib.hid (HAu.out t t1 t2)
                  clear hct
                  go_upto_region 16 with (fail)
                  go_region_held3 (fun w' : World => Below X.heap.size X w' ∧ w'.cell? ⟨w.heap.size, 0, none⟩ = some (.slice av l.length cap) ∧ w'.cell? ⟨w.heap.size, 1, none⟩ = some (.slice avh hol.length caph) ∧ w'.cell? ⟨wr.heap.size, 0, none⟩ = some (.int .i64 f) ∧ w'.cell? ⟨wr.heap.size, 1, none⟩ = some (.int .i64 u) ∧ w'.cell? ⟨b, o + k * 3, none⟩ = some (.string bn))
                    (first
                      | exact Mk.out _ (by assumption)
                      | exact Mk.out _ (Below.drew (by assumption)))
                    (first
                      | (go_at_call 27
                         with_reducible (refine (HCq.out _).mono ?_)
                         rintro e wc ⟨rfl, hbz⟩
                         have hYwc : Below X.heap.size X wc := Below.trans (And.left (by assumption)) (hbz.mono (Below.size (And.left (by assumption))))
                         clear hbz)
                      | (go_at_call 19
                         with_reducible (refine (HAx.out _ (hbWX.trans (Below.mono (And.left (by assumption)) hbWX.size))).mono ?_)
                         rintro e wd ⟨rfl, hbz⟩
                         have hYwd : Below X.heap.size X wd := Below.trans (And.left (by assumption)) (hbz.mono (Below.size (And.left (by assumption))))
                         clear hbz))
                  go_wp2
                  exact ⟨⟨k + 1, by omega, by go_num, hb.trans ((HbX.out.trans (hYwd.mono HbX.out.size)).mono hb.size)⟩, by simp [intOf]; omega⟩
            · have hk1 : ¬ (k : Int) < (L.length : Int) := by omega
              go_wp2_with fail
              refine (awake05_calls wr).mono ?_
              rintro e wz ⟨rfl, hbx⟩
              have hbz := hbw.trans (hbx.mono hbw.size)
              go_wp2
              go_ret
              exact ⟨rfl, Hw0.out.trans (hbz.mono Hw0.out.size)⟩
        · have hs2 : 2678400 < pt - pf := by omega
          have hL0 : L.length = 0 := by rw [hR.2 (fun h => hs h.2.2)]; rfl
          rw [hL0]
          clear hz hv2 hR hPP hLc hL0
          go_wp2_with fail
          refine (HV.out w3).mono ?_
          rintro e w4 ⟨rfl, hbx⟩
          have hb4 := hb3.trans (hbx.mono hb3.size)
          clear m0 m1 m2 m3
          obtain ⟨⟨m0, m1⟩, m2, m3⟩ := HM.out w4 hb4
          go_wp2_with fail
          refine (awake05_calls w4).mono ?_
          rintro e wz ⟨rfl, hbx⟩
          have hbz := hb4.trans (hbx.mono hb4.size)
          go_wp2
          go_ret
          exact ⟨rfl, Hw0.out.trans (hbz.mono Hw0.out.size)⟩
    · have HC1 := Lib.hid (HC.out w1 hb1)
      have hz2 : (checkB l != 0) = true := bne_iff_ne.2 hz
      clear hz
      go_wp2_with fail
      refine HC1.out.mono ?_
      rintro e w2 ⟨rfl, hbx⟩
      have hb2 := hb1.trans (hbx.mono hb1.size)
      go_wp2_with fail
      refine (awake05_calls w2).mono ?_
      rintro e wz ⟨rfl, hbx⟩
      have hbz := hb2.trans (hbx.mono hb2.size)
      go_wp2
      go_ret
      exact ⟨rfl, Hw0.out.trans (hbz.mono Hw0.out.size)⟩
end Go.Proofs.Ytcfmndhjmlbcoaa
