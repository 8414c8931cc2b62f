/-
  The body of AgreementOne.
-/
import Derived.Test.YtmijdmchhlcblaaOne50
import Derived.Test.YtmijdmchhlcblaaLaw50a
namespace Go.Proofs.Ytmijdmchhlcblaa
open Go.RowKit

set_option maxRecDepth 100000 in
set_option maxHeartbeats 6400000 in
theorem one50_law (hA : Alive50) (v : Value) (l : List Ag) (pa kd : Int) (ib : Bool) (t : Int) (w : World) (h : AgsAt w v l) :
    Calls Try.prog 12 #[v, .agg #[.int .i64 pa, .int .i64 kd, .bool ib, .int .i64 t]] w fun e w' => e = .returned (.bool true) ∧ Below w.heap.size w w' := by
  obtain ⟨W, hW⟩ : ∃ W, W = w.alloc (Obj.cells #[.int .i64 pa, .int .i64 kd, .bool ib, .int .i64 t] 61) := ⟨_, rfl⟩
  have hw0 : Below w.heap.size w W := by rw [hW]; go_grown
  have r2 : W.heap[w.heap.size]? = some (Obj.cells #[.int .i64 pa, .int .i64 kd, .bool ib, .int .i64 t] 61) := by rw [hW]; exact heap_alloc_new _ _
  have hz2 : w.heap.size < W.heap.size := by rw [hW]; simp
  have Hr := Lib.hid r2
  have HW := Lib.hid hW
  have HA := Lib.hid hA
  have hat := h.below hw0
  have Hat := Lib.hid hat
  have Hf := Lib.hid (few50_calls v l W hat)
  have Hc := Lib.hid (agcheck_calls v l W hat)
  have HFE := Lib.hid (@fewAs_of l)
  clear hW r2 hA h
  cases hx : fewAs l with
  | false =>
    rw [hx] at Hf
    clear Hc hat
    go_enter Try.func12, Try.ntmps12
    go_wp2_with fail
    rw [← HW.out]
    refine Hf.out.mono ?_
    rintro e w0 ⟨rfl, hw1⟩
    subst w0
    go_wp2_with fail
    refine (HA.out _).mono ?_
    rintro e w9 ⟨rfl, hb9⟩
    go_wp2
    go_ret
    exact ⟨rfl, hw0.trans (hb9.mono hw0.size)⟩
  | true =>
    rw [hx] at Hf
    have hfew := HFE.out hx
    by_cases hez : agCheckE l = 0
    · rw [hez] at Hc
      have Hone := Lib.hid (fits_one hez pa kd ib t)
      have hl12 := hfew.1
      have Hfind := Lib.hid (fun w1 (hb : Below W.heap.size W w1) => agfind_calls v l pa kd ib t w1 (Hat.out.below hb) (by omega) (fun a ha => by have := hfew.2 a ha; omega))
      obtain ⟨av, cap, rfl, hlc, hm, -⟩ := hat
      have hm := hm.1
      unfold maxLen at hm
      clear hx hez hfew
      go_enter Try.func12, Try.ntmps12
      go_wp2_with fail
      rw [← HW.out]
      refine Hf.out.mono ?_
      rintro e w0 ⟨rfl, hw1⟩
      subst w0
      go_wp2_with fail
      refine Hc.out.mono ?_
      rintro e w1 ⟨rfl, hb1⟩
      go_wp2_with fail
      go_loopw [5, 6] (fun n i wr => ∃ k : Nat, k ≤ l.length ∧ i = .int .i64 k ∧ n = .int .i64 (((l.take k).filter (fitsB pa kd ib t)).length : Nat) ∧ Below W.heap.size W wr) (fun _ i _ => l.length - (intOf i).toNat)
      case atStart => exact ⟨0, Nat.zero_le _, rfl, rfl, hb1⟩
      case round =>
        obtain ⟨k, hk, rfl, rfl, hb⟩ := hrel
        have hbz := hb.size
        have mu := (hb.block _ hz2).trans Hr.out
        by_cases hlk : k < l.length
        · obtain ⟨av2, cap2, e2, -, -, hx⟩ := Hat.out.below hb
          cases e2
          obtain ⟨b, o, rfl, hB, hx⟩ := hx (by rintro rfl; cases hlk)
          obtain ⟨c0, c1, c2, c3, c4, ⟨sv, c5, hsv, -⟩, c6⟩ := hx k hlk
          have hk0 : (0 : Int) ≤ (k : Int) := Int.natCast_nonneg _
          have hk1 : (k : Int) < (l.length : Int) := by omega
          have hsn := filt_snoc (fitsB pa kd ib t) l k hlk
          have hcl : ((l.take k).filter (fitsB pa kd ib t)).length ≤ 12 := by
            have h1 := List.length_filter_le (fitsB pa kd ib t) (l.take k)
            rw [List.length_take] at h1; omega
          clear hx
          obtain ⟨a, ha⟩ : ∃ a, a = l[k] := ⟨_, rfl⟩
          rw [← ha] at c0 c1 c2 c3 c4 hsv c6 hsn
          have HS := Lib.hid hsn
          clear ha hsn
          generalize hcn : ((l.take k).filter (fitsB pa kd ib t)).length = n at *
          have Hcn := Lib.hid hcn
          obtain ⟨az, cz, rfl, -, -⟩ := hsv
          obtain ⟨X, hX⟩ : ∃ X, X = wr.alloc (Obj.cells #[.int .i64 a.pa, .int .i64 a.kd, .bool a.ib, .int .i64 a.fr, .int .i64 a.tt, .slice az a.st.length cz, .int .i64 a.cap] 55) := ⟨_, rfl⟩
          have hbX : Below wr.heap.size wr X := by rw [hX]; go_grown
          have rX : X.heap[wr.heap.size]? = some (Obj.cells #[.int .i64 a.pa, .int .i64 a.kd, .bool a.ib, .int .i64 a.fr, .int .i64 a.tt, .slice az a.st.length cz, .int .i64 a.cap] 55) := by rw [hX]; exact heap_alloc_new _ _
          have hlu : w.heap.size < wr.heap.size := Nat.lt_of_lt_of_le hz2 hb.size
          have mx := (hbX.block _ hlu).trans mu
          have hb3 := hb.trans (hbX.mono hbz)
          have HX := Lib.hid hX
          have RX := Lib.hid rX
          have MX := Lib.hid mx
          clear hX rX mx mu hcn
          by_cases e1 : a.pa = pa
          · have t1 : (a.pa == pa) = true := by rw [e1]; exact beq_self_eq_true _
            by_cases e2 : a.kd = kd
            · have t2 : (a.kd == kd) = true := by rw [e2]; exact beq_self_eq_true _
              by_cases e3 : a.ib = ib
              · have t3 : (a.ib == ib) = true := by rw [e3]; exact beq_self_eq_true _
                have hfit : fitsB pa kd ib t a = containsB a.fr a.tt t := by unfold fitsB; simp [e1, e2, e3]
                have HN0 := Lib.hid (show ((l.take (k + 1)).filter (fitsB pa kd ib t)).length = n + if containsB a.fr a.tt t = true then 1 else 0 by rw [HS.out, hfit])
                have Hct := Lib.hid (fun w1 => rcontains_calls a.fr a.tt t w1)
                clear e1 e2 e3 hfit HS
                generalize containsB a.fr a.tt t = ct at *
                go_upto_region 8 with (fail)
                rw [← HX.out]
                have u0 : X.cell? ⟨w.heap.size, 0, none⟩ = some (.int .i64 pa) := cell_of_row X _ 0 _ _ _ MX.out
                have u1 : X.cell? ⟨w.heap.size, 1, none⟩ = some (.int .i64 kd) := cell_of_row X _ 1 _ _ _ MX.out
                have u2 : X.cell? ⟨w.heap.size, 2, none⟩ = some (.bool ib) := cell_of_row X _ 2 _ _ _ MX.out
                have u3 : X.cell? ⟨w.heap.size, 3, none⟩ = some (.int .i64 t) := cell_of_row X _ 3 _ _ _ MX.out
                have x0 : X.cell? ⟨wr.heap.size, 0, none⟩ = some (.int .i64 a.pa) := cell_of_row X _ 0 _ _ _ RX.out
                have x1 : X.cell? ⟨wr.heap.size, 1, none⟩ = some (.int .i64 a.kd) := cell_of_row X _ 1 _ _ _ RX.out
                have x2 : X.cell? ⟨wr.heap.size, 2, none⟩ = some (.bool a.ib) := cell_of_row X _ 2 _ _ _ RX.out
                have x3 : X.cell? ⟨wr.heap.size, 3, none⟩ = some (.int .i64 a.fr) := cell_of_row X _ 3 _ _ _ RX.out
                have x4 : X.cell? ⟨wr.heap.size, 4, none⟩ = some (.int .i64 a.tt) := cell_of_row X _ 4 _ _ _ RX.out
                have x5 : X.cell? ⟨wr.heap.size, 5, none⟩ = some (.slice az a.st.length cz) := cell_of_row X _ 5 _ _ _ RX.out
                have x6 : X.cell? ⟨wr.heap.size, 6, none⟩ = some (.int .i64 a.cap) := cell_of_row X _ 6 _ _ _ RX.out
                go_wp2_with fail
                refine (Hct.out X).mono ?_
                rintro e w2 ⟨rfl, hb4⟩
                have hb5 := hb3.trans (hb4.mono hb3.size)
                clear u0 u1 u2 u3 x0 x1 x2 x3 x4 x5 x6 t1 t2 t3
                cases ct with
                | false =>
                  have HN := Lib.hid (show ((l.take (k + 1)).filter (fitsB pa kd ib t)).length = n by rw [HN0.out]; rfl)
                  go_wp2
                  exact ⟨⟨k + 1, by omega, by go_num, by rw [HN.out], hb5⟩, by simp [intOf]; omega⟩
                | true =>
                  have HN := Lib.hid (show ((l.take (k + 1)).filter (fitsB pa kd ib t)).length = n + 1 by rw [HN0.out]; rfl)
                  go_wp2
                  exact ⟨⟨k + 1, by omega, by go_num, by rw [HN.out]; go_num, hb5⟩, by simp [intOf]; omega⟩
              · have t3 : (a.ib == ib) = false := beq_eq_false_iff_ne.2 e3
                have HN := Lib.hid (show ((l.take (k + 1)).filter (fitsB pa kd ib t)).length = n by rw [HS.out, if_neg (by unfold fitsB; rw [decide_eq_false e3]; simp), Nat.add_zero])
                clear e1 e2 e3 HS
                go_upto_region 8 with (fail)
                rw [← HX.out]
                have u0 : X.cell? ⟨w.heap.size, 0, none⟩ = some (.int .i64 pa) := cell_of_row X _ 0 _ _ _ MX.out
                have u1 : X.cell? ⟨w.heap.size, 1, none⟩ = some (.int .i64 kd) := cell_of_row X _ 1 _ _ _ MX.out
                have u2 : X.cell? ⟨w.heap.size, 2, none⟩ = some (.bool ib) := cell_of_row X _ 2 _ _ _ MX.out
                have u3 : X.cell? ⟨w.heap.size, 3, none⟩ = some (.int .i64 t) := cell_of_row X _ 3 _ _ _ MX.out
                have x0 : X.cell? ⟨wr.heap.size, 0, none⟩ = some (.int .i64 a.pa) := cell_of_row X _ 0 _ _ _ RX.out
                have x1 : X.cell? ⟨wr.heap.size, 1, none⟩ = some (.int .i64 a.kd) := cell_of_row X _ 1 _ _ _ RX.out
                have x2 : X.cell? ⟨wr.heap.size, 2, none⟩ = some (.bool a.ib) := cell_of_row X _ 2 _ _ _ RX.out
                have x3 : X.cell? ⟨wr.heap.size, 3, none⟩ = some (.int .i64 a.fr) := cell_of_row X _ 3 _ _ _ RX.out
                have x4 : X.cell? ⟨wr.heap.size, 4, none⟩ = some (.int .i64 a.tt) := cell_of_row X _ 4 _ _ _ RX.out
                have x5 : X.cell? ⟨wr.heap.size, 5, none⟩ = some (.slice az a.st.length cz) := cell_of_row X _ 5 _ _ _ RX.out
                have x6 : X.cell? ⟨wr.heap.size, 6, none⟩ = some (.int .i64 a.cap) := cell_of_row X _ 6 _ _ _ RX.out
                go_wp2
                exact ⟨⟨k + 1, by omega, by go_num, by rw [HN.out], hb3⟩, by simp [intOf]; omega⟩
            · have t2 : (a.kd == kd) = false := beq_eq_false_iff_ne.2 e2
              have HN := Lib.hid (show ((l.take (k + 1)).filter (fitsB pa kd ib t)).length = n by rw [HS.out, if_neg (by unfold fitsB; rw [decide_eq_false e2]; simp), Nat.add_zero])
              clear e1 e2 HS
              go_upto_region 8 with (fail)
              rw [← HX.out]
              have u0 : X.cell? ⟨w.heap.size, 0, none⟩ = some (.int .i64 pa) := cell_of_row X _ 0 _ _ _ MX.out
              have u1 : X.cell? ⟨w.heap.size, 1, none⟩ = some (.int .i64 kd) := cell_of_row X _ 1 _ _ _ MX.out
              have u2 : X.cell? ⟨w.heap.size, 2, none⟩ = some (.bool ib) := cell_of_row X _ 2 _ _ _ MX.out
              have u3 : X.cell? ⟨w.heap.size, 3, none⟩ = some (.int .i64 t) := cell_of_row X _ 3 _ _ _ MX.out
              have x0 : X.cell? ⟨wr.heap.size, 0, none⟩ = some (.int .i64 a.pa) := cell_of_row X _ 0 _ _ _ RX.out
              have x1 : X.cell? ⟨wr.heap.size, 1, none⟩ = some (.int .i64 a.kd) := cell_of_row X _ 1 _ _ _ RX.out
              have x2 : X.cell? ⟨wr.heap.size, 2, none⟩ = some (.bool a.ib) := cell_of_row X _ 2 _ _ _ RX.out
              have x3 : X.cell? ⟨wr.heap.size, 3, none⟩ = some (.int .i64 a.fr) := cell_of_row X _ 3 _ _ _ RX.out
              have x4 : X.cell? ⟨wr.heap.size, 4, none⟩ = some (.int .i64 a.tt) := cell_of_row X _ 4 _ _ _ RX.out
              have x5 : X.cell? ⟨wr.heap.size, 5, none⟩ = some (.slice az a.st.length cz) := cell_of_row X _ 5 _ _ _ RX.out
              have x6 : X.cell? ⟨wr.heap.size, 6, none⟩ = some (.int .i64 a.cap) := cell_of_row X _ 6 _ _ _ RX.out
              go_wp2
              exact ⟨⟨k + 1, by omega, by go_num, by rw [HN.out], hb3⟩, by simp [intOf]; omega⟩
          · have t1 : (a.pa == pa) = false := beq_eq_false_iff_ne.2 e1
            have HN := Lib.hid (show ((l.take (k + 1)).filter (fitsB pa kd ib t)).length = n by rw [HS.out, if_neg (by unfold fitsB; rw [decide_eq_false e1]; simp), Nat.add_zero])
            clear e1 HS
            go_upto_region 8 with (fail)
            rw [← HX.out]
            have u0 : X.cell? ⟨w.heap.size, 0, none⟩ = some (.int .i64 pa) := cell_of_row X _ 0 _ _ _ MX.out
            have u1 : X.cell? ⟨w.heap.size, 1, none⟩ = some (.int .i64 kd) := cell_of_row X _ 1 _ _ _ MX.out
            have u2 : X.cell? ⟨w.heap.size, 2, none⟩ = some (.bool ib) := cell_of_row X _ 2 _ _ _ MX.out
            have u3 : X.cell? ⟨w.heap.size, 3, none⟩ = some (.int .i64 t) := cell_of_row X _ 3 _ _ _ MX.out
            have x0 : X.cell? ⟨wr.heap.size, 0, none⟩ = some (.int .i64 a.pa) := cell_of_row X _ 0 _ _ _ RX.out
            have x1 : X.cell? ⟨wr.heap.size, 1, none⟩ = some (.int .i64 a.kd) := cell_of_row X _ 1 _ _ _ RX.out
            have x2 : X.cell? ⟨wr.heap.size, 2, none⟩ = some (.bool a.ib) := cell_of_row X _ 2 _ _ _ RX.out
            have x3 : X.cell? ⟨wr.heap.size, 3, none⟩ = some (.int .i64 a.fr) := cell_of_row X _ 3 _ _ _ RX.out
            have x4 : X.cell? ⟨wr.heap.size, 4, none⟩ = some (.int .i64 a.tt) := cell_of_row X _ 4 _ _ _ RX.out
            have x5 : X.cell? ⟨wr.heap.size, 5, none⟩ = some (.slice az a.st.length cz) := cell_of_row X _ 5 _ _ _ RX.out
            have x6 : X.cell? ⟨wr.heap.size, 6, none⟩ = some (.int .i64 a.cap) := cell_of_row X _ 6 _ _ _ RX.out
            go_wp2
            exact ⟨⟨k + 1, by omega, by go_num, by rw [HN.out], hb3⟩, by simp [intOf]; omega⟩
        · have hall : l.take k = l := List.take_of_length_le (by omega)
          rw [hall, Hone.out]
          have u0 : wr.cell? ⟨w.heap.size, 0, none⟩ = some (.int .i64 pa) := cell_of_row wr _ 0 _ _ _ mu
          have u1 : wr.cell? ⟨w.heap.size, 1, none⟩ = some (.int .i64 kd) := cell_of_row wr _ 1 _ _ _ mu
          have u2 : wr.cell? ⟨w.heap.size, 2, none⟩ = some (.bool ib) := cell_of_row wr _ 2 _ _ _ mu
          have u3 : wr.cell? ⟨w.heap.size, 3, none⟩ = some (.int .i64 t) := cell_of_row wr _ 3 _ _ _ mu
          have Hfd := Lib.hid (Hfind.out wr hb)
          clear hall mu Hone Hfind
          generalize l.any (fitsB pa kd ib t) = r at *
          cases r with
          | false =>
            rw [if_neg (by decide)]
            go_wp2_with fail
            refine Hfd.out.mono ?_
            rintro e w5 ⟨p1, k1, i1, f1, t1, av1, n1, cap1, cc1, rfl, hb5⟩
            have hb6 := hb.trans (hb5.mono hb.size)
            have hb7 := hb6.trans (Below.mono (Below.alloc (Below.refl _ _) (Nat.le_refl _) (Obj.cells #[.int .i64 p1, .int .i64 k1, .bool i1, .int .i64 f1, .int .i64 t1, .slice av1 n1 cap1, .int .i64 cc1] 55) : Below w5.heap.size w5 _) hb6.size)
            clear u0 u1 u2 u3
            go_wp2_with fail
            refine (HA.out _).mono ?_
            rintro e w9 ⟨rfl, hb9⟩
            have hb10 := hb7.trans (hb9.mono hb7.size)
            go_wp2
            go_ret
            exact ⟨rfl, hw0.trans (hb10.mono hw0.size)⟩
          | true =>
            rw [if_pos rfl]
            go_wp2_with fail
            refine Hfd.out.mono ?_
            rintro e w5 ⟨p1, k1, i1, f1, t1, av1, n1, cap1, cc1, rfl, hb5⟩
            have hb6 := hb.trans (hb5.mono hb.size)
            have hb7 := hb6.trans (Below.mono (Below.alloc (Below.refl _ _) (Nat.le_refl _) (Obj.cells #[.int .i64 p1, .int .i64 k1, .bool i1, .int .i64 f1, .int .i64 t1, .slice av1 n1 cap1, .int .i64 cc1] 55) : Below w5.heap.size w5 _) hb6.size)
            clear u0 u1 u2 u3
            go_wp2_with fail
            refine (HA.out _).mono ?_
            rintro e w9 ⟨rfl, hb9⟩
            have hb10 := hb7.trans (hb9.mono hb7.size)
            go_wp2
            go_ret
            exact ⟨rfl, hw0.trans (hb10.mono hw0.size)⟩
    · have hen : (agCheckE l != 0) = true := by rw [bne_iff_ne]; exact hez
      generalize agCheckE l = ce at *
      clear hez hx hfew hat
      go_enter Try.func12, Try.ntmps12
      go_wp2_with fail
      rw [← HW.out]
      refine Hf.out.mono ?_
      rintro e w0 ⟨rfl, hw1⟩
      subst w0
      go_wp2_with fail
      refine Hc.out.mono ?_
      rintro e w1 ⟨rfl, hb1⟩
      go_wp2_with fail
      refine (HA.out _).mono ?_
      rintro e w9 ⟨rfl, hb9⟩
      have hb10 := hb1.trans (hb9.mono hb1.size)
      go_wp2
      go_ret
      exact ⟨rfl, hw0.trans (hb10.mono hw0.size)⟩
end Go.Proofs.Ytmijdmchhlcblaa
