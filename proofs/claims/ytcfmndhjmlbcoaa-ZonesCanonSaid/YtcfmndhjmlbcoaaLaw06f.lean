/-
  The walk of the law ZonesCanon.
-/
import Derived.Test.YtcfmndhjmlbcoaaZoneI
import Derived.Test.YtcfmndhjmlbcoaaZoneY
namespace Go.Proofs.Ytcfmndhjmlbcoaa
open Go.RowKit

theorem find_min {a A : List Zn} (h : MinOf a A) (hc : checkZ a = 0) (s : ByteArray) : findZ A s = findZ a s := by
  unfold findZ
  rw [h.valid hc, hc, h.longP hc s _ (Nat.le_refl _)]
theorem eq_min {a A : List Zn} (h : MinOf a A) (hc : checkZ a = 0) : eqZ a A = true :=
  (eqZ_long hc (h.valid hc)).2 fun s n hn => (h.longP hc s n hn).symm
theorem find_own {a : List Zn} (hc : checkZ a = 0) {z : Zn} (hz : z ∈ a) {p : ByteArray} (hp : p ∈ z.2) : findZ a p = (z.1, true) := by
  have hn := ((checkZ_ok hc).2.1 z hz).2.2.2 p hp
  obtain ⟨n, hs⟩ : ∃ n, p.size = n + 1 := ⟨p.size - 1, by have := num_pos hn; omega⟩
  unfold findZ
  rw [if_neg (not_not_intro hc), if_neg (by rw [hn]; decide), hs]
  exact longP_hit (ok_keys hc) (by rw [← hs, take_all]) (mem_prs.2 ⟨z, hz, hp, rfl⟩)

set_option maxRecDepth 100000 in
set_option maxHeartbeats 12800000 in
theorem canon06_law (va vb : Value) (a b : List Zn) (s : ByteArray) (w : World) (ha : ZnsAt w va a) (hb0 : ZnsAt w vb b) (hs : s.size ≤ maxLen) :
    Calls Try.prog 12 #[va, vb, .string s] w fun e w' => e = .returned (.bool true) ∧ Below w.heap.size w w' := by
  have hAa := ha
  have HFa := Lib.hid (zfew_calls va a w ha)
  have HFb := Lib.hid (zfew_calls vb b w hb0)
  have HCa := Lib.hid (zcheck_calls va a w ha)
  have HCb := Lib.hid (fun w1 (hb : Below w.heap.size w w1) => zcheck_calls vb b w1 (hb0.below hb))
  have HMa := Lib.hid (fun w1 (hb : Below w.heap.size w w1) => zmin_calls va a w1 (ha.below hb))
  have HMb := Lib.hid (fun w1 (hb : Below w.heap.size w w1) => zmin_calls vb b w1 (hb0.below hb))
  have HA := Lib.hid (fun p w1 (hb : Below w.heap.size w w1) (hp : p.size ≤ maxLen) => zfind_calls va a p w1 (ha.below hb) hp)
  have HZ := Lib.hid (fun w1 (hb : Below w.heap.size w w1) => zequal_calls va vb a b w1 (ha.below hb) (hb0.below hb))
  have HY := Lib.hid (fun vm (A : List Zn) w1 (hb : Below w.heap.size w w1) (hA : ZnsAt w1 vm A) => zequal_calls va vm a A w1 (ha.below hb) hA)
  have HOwn := Lib.hid (fun hc z hz p hp => (find_own (a := a) hc (z := z) hz (p := p) hp))
  have HMin := Lib.hid (fun A hc (h : MinOf a A) => And.intro (find_min h hc s) (And.intro (eq_min h hc) (And.intro (h.valid hc) (fun N (g : MinOf A N) => h.idem hc g))))
  have HAl := Lib.hid (fun A B (h1 : MinOf a A) (h2 : MinOf b B) ca cb => eqZ_alike h1 h2 ca cb)
  obtain ⟨aa, ca, rfl, hla, hma, -⟩ := ha
  obtain ⟨ab, cb, rfl, -, -, -⟩ := hb0
  have hma := hma.1
  unfold maxLen at hma
  generalize checkZ a = c at *
  generalize checkZ b = d at *
  go_enter Try.func12, Try.ntmps12
  go_wp2_with fail
  refine HFa.out.mono ?_
  rintro e w1 ⟨r, rfl, rfl⟩
  cases r with
  | false =>
    go_wp2_with fail
    refine (zawake_calls w).mono ?_
    rintro e w4 ⟨rfl, hb4⟩
    go_wp2
    go_ret
    exact ⟨rfl, hb4⟩
  | true =>
    go_wp2_with fail
    refine HFb.out.mono ?_
    rintro e w1 ⟨r, rfl, rfl⟩
    cases r with
    | false =>
      go_wp2_with fail
      refine (zawake_calls w).mono ?_
      rintro e w4 ⟨rfl, hb4⟩
      go_wp2
      go_ret
      exact ⟨rfl, hb4⟩
    | true =>
      by_cases hz : (1000 : Int) < (s.size : Int)
      · go_wp2_with fail
        refine (zawake_calls w).mono ?_
        rintro e w4 ⟨rfl, hb4⟩
        go_wp2
        go_ret
        exact ⟨rfl, hb4⟩
      · go_wp2_with fail
        refine HCa.out.mono ?_
        rintro e w1 ⟨rfl, hb1⟩
        by_cases hc : c = 0
        · subst hc
          have HCb1 := Lib.hid (HCb.out w1 hb1)
          go_wp2_with fail
          refine HCb1.out.mono ?_
          rintro e w2 ⟨rfl, hb2⟩
          have hb2 := hb1.trans (hb2.mono hb1.size)
          by_cases hd : d = 0
          · subst hd
            have HMa1 := Lib.hid (HMa.out w2 hb2)
            have HOwn2 := Lib.hid (HOwn.out (by first | rfl | trivial))
            have HMin2 := Lib.hid (fun A h => HMin.out A (by first | rfl | trivial) h)
            have HAl2 := Lib.hid (fun A B h1 h2 => HAl.out A B h1 h2 (by first | rfl | trivial) (by first | rfl | trivial))
            go_wp2_with fail
            refine HMa1.out.mono ?_
            rintro e w3 ⟨v3, A, rfl, hA, hMA, hb3⟩
            have Hb23 := Lib.hid hb3
            have hb3 := hb2.trans (hb3.mono hb2.size)
            have HMb1 := Lib.hid (HMb.out w3 hb3)
            have HA3 := Lib.hid hA
            have HMA := Lib.hid hMA
            clear hA hMA
            go_wp2_with fail
            refine HMb1.out.mono ?_
            rintro e w4 ⟨v4, B, rfl, hB, hMB, hb4⟩
            have HA4 := Lib.hid (HA3.out.below hb4)
            have HB4 := Lib.hid hB
            have HMB := Lib.hid hMB
            have hb4 := hb3.trans (hb4.mono hb3.size)
            obtain ⟨hfm, hem, hcm, him⟩ := HMin2.out A HMA.out
            have Hem := Lib.hid hem
            have Hcm := Lib.hid hcm
            have Him := Lib.hid him
            have Hfm := Lib.hid hfm
            clear hB hMB hfm hem hcm him
            have HA5 := Lib.hid (HA.out s w4 hb4 hs)
            generalize hx : findZ a s = x at *
            obtain ⟨xn, xo⟩ := x
            clear hx
            have e1 : (xn.toList == xn.toList) = true := beq_self_eq_true _
            have e2 : (xn.toList != xn.toList) = false := bne_self_eq_false _
            have e3 : (xo != xo) = false := bne_self_eq_false _
            go_wp2_with fail
            refine HA5.out.mono ?_
            rintro e w5 ⟨rfl, hb5⟩
            have HA55 := Lib.hid (HA4.out.below hb5)
            have HB55 := Lib.hid (HB4.out.below hb5)
            have hb5 := hb4.trans (hb5.mono hb4.size)
            have HF5 := Lib.hid (zfind_calls v3 A s w5 HA55.out hs)
            rw [Hfm.out] at HF5
            go_wp2_with fail
            refine HF5.out.mono ?_
            rintro e w6 ⟨rfl, hb6⟩
            have HA6 := Lib.hid (HA55.out.below hb6)
            have HB6 := Lib.hid (HB55.out.below hb6)
            have hb6 := hb5.trans (hb6.mono hb5.size)
            have HC6 := Lib.hid (zcheck_calls v3 A w6 HA6.out)
            rw [Hcm.out] at HC6
            go_wp2_with fail
            refine HC6.out.mono ?_
            rintro e w7 ⟨rfl, hb7⟩
            have HA7 := Lib.hid (HA6.out.below hb7)
            have HB7 := Lib.hid (HB6.out.below hb7)
            have hb7 := hb6.trans (hb7.mono hb6.size)
            have HE7 := Lib.hid (HY.out v3 A w7 hb7 HA7.out)
            rw [Hem.out] at HE7
            go_wp2_with fail
            refine HE7.out.mono ?_
            rintro e w8 ⟨rfl, hb8⟩
            have HA8 := Lib.hid (HA7.out.below hb8)
            have HB8 := Lib.hid (HB7.out.below hb8)
            have hb8 := hb7.trans (hb8.mono hb7.size)
            have HM8 := Lib.hid (zmin_calls v3 A w8 HA8.out)
            go_wp2_with fail
            refine HM8.out.mono ?_
            rintro e w9 ⟨v9, N, rfl, hN, hMN, hb9⟩
            have hNA := Him.out N hMN
            rw [hNA] at hN
            have HN9 := Lib.hid hN
            have HA9 := Lib.hid (HA8.out.below hb9)
            have HB9 := Lib.hid (HB8.out.below hb9)
            have hb9 := hb8.trans (hb9.mono hb8.size)
            have HS9 := Lib.hid (rsame_calls v9 v3 A A w9 HN9.out HA9.out)
            rw [(alikeL_iff A A).2 rfl] at HS9
            clear hN hMN hNA
            go_wp2_with fail
            refine HS9.out.mono ?_
            rintro e w10 ⟨rfl, hb10⟩
            have HA10 := Lib.hid (HA9.out.below hb10)
            have HB10 := Lib.hid (HB9.out.below hb10)
            have hb10 := hb9.trans (hb10.mono hb9.size)
            have Hb10 := Lib.hid hb10
            clear hb1 hb2 hb3 hb4 hb5 hb6 hb7 hb8 hb9
            go_wp2_with fail
            go_loopw [13] (fun x wr => ∃ i : Nat, i ≤ a.length ∧ x = .int .i64 i ∧ Below w10.heap.size w10 wr) (fun x _ => a.length - (intOf x).toNat)
            case atStart => exact ⟨0, Nat.zero_le _, rfl, Below.refl _ _⟩
            case round =>
              obtain ⟨wo, rfl⟩ : ∃ wo : World, wo = wr := ⟨_, rfl⟩
              obtain ⟨i, hi, rfl, hbr⟩ := hrel
              by_cases hlt : i < a.length
              · obtain ⟨nm, ps, hy⟩ : ∃ nm ps, a[i] = (nm, ps) := ⟨_, _, rfl⟩
                have HMem := Lib.hid (fun p (hp : p ∈ ps) => HOwn2.out (nm, ps) (by rw [← hy]; exact List.getElem_mem hlt) p hp)
                have Hy := Lib.hid hy
                have hi0 : (0 : Int) ≤ (i : Int) := Int.natCast_nonneg _
                have hi1 : (i : Int) < (a.length : Int) := by omega
                dsimp only at HMem
                clear hy
                go_wp2_with fail
                go_loopw [14] (fun x wq => ∃ k : Nat, k ≤ ps.length ∧ x = .int .i64 k ∧ Below w10.heap.size w10 wq) (fun x _ => ps.length - (intOf x).toNat)
                case atStart => exact ⟨0, Nat.zero_le _, rfl, hbr⟩
                case round =>
                  clear hbr
                  obtain ⟨k, hk, rfl, hbr⟩ := hrel
                  have hb11 := hb10.trans (hbr.mono hb10.size)
                  obtain ⟨av2, cap2, e4, -, -, hx⟩ := hAa.below hb11
                  cases e4
                  obtain ⟨b1, o, rfl, hBb, hx⟩ := hx (by rintro rfl; cases hlt)
                  obtain ⟨⟨c0, s0⟩, sv, c1, hsl⟩ := hx i hlt
                  rw [Hy.out] at c0 s0 hsl
                  dsimp only at c0 s0 hsl
                  have hs0 := hsl
                  obtain ⟨asv, cs, rfl, hsc, hms, -⟩ := hs0
                  have hms := hms.1
                  unfold maxLen at hms
                  clear hx
                  by_cases hkl : k < ps.length
                  · have HOk := Lib.hid (HMem.out ps[k] (List.getElem_mem hkl))
                    obtain ⟨av4, cap4, e4, -, -, hy⟩ := id hsl
                    cases e4
                    obtain ⟨b4, o4, rfl, hB4, hy⟩ := hy (by rintro rfl; cases hkl)
                    obtain ⟨d0, ds⟩ := hy k hkl
                    rw [Nat.mul_one] at d0
                    have hk0 : (0 : Int) ≤ (k : Int) := Int.natCast_nonneg _
                    have hk1 : (k : Int) < (ps.length : Int) := by omega
                    clear hy
                    generalize ps[k] = q at *
                    have HFq := Lib.hid (HA.out q wr hb11 ds)
                    rw [HOk.out] at HFq
                    have f1 : (nm.toList != nm.toList) = false := bne_self_eq_false _
                    have f2 : (nm.toList == nm.toList) = true := beq_self_eq_true _
                    have Hbr := Lib.hid hbr
                    go_wp2_with fail
                    refine HFq.out.mono ?_
                    rintro e w12 ⟨rfl, hb12⟩
                    have c0' := (hb12.cell (p := ⟨b1, _, none⟩) hBb).trans c0
                    have hB12 : b1 < w12.heap.size := Nat.lt_of_lt_of_le hBb hb12.size
                    have H12 := Lib.hid (Hbr.out.trans (hb12.mono Hbr.out.size))
                    clear c0 c1 d0 hb12
                    go_wp2
                    exact ⟨⟨k + 1, by omega, by go_num, H12.out⟩, by simp [intOf]; omega⟩
                  · go_wp2
                    exact ⟨⟨i + 1, by omega, by go_num, hbr⟩, by simp [intOf]; omega⟩
              · have hb11 := hb10.trans (hbr.mono hb10.size)
                have HZ2 := Lib.hid (HZ.out wo hb11)
                have HA11 := Lib.hid (HA10.out.below hbr)
                have HB11 := Lib.hid (HB10.out.below hbr)
                have HQ := Lib.hid (HAl2.out A B HMA.out HMB.out)
                generalize eqZ a b = q at *
                have e5 : (q == q) = true := beq_self_eq_true _
                go_wp2_with fail
                refine HZ2.out.mono ?_
                rintro e w12 ⟨rfl, hb12⟩
                have HS12 := Lib.hid (rsame_calls v3 v4 A B w12 (HA11.out.below hb12) (HB11.out.below hb12))
                rw [HQ.out] at HS12
                have hb12 := hb11.trans (hb12.mono hb11.size)
                go_wp2_with fail
                refine HS12.out.mono ?_
                rintro e w13 ⟨rfl, hb13⟩
                have hb13 := hb12.trans (hb13.mono hb12.size)
                go_wp2_with fail
                refine (zawake_calls w13).mono ?_
                rintro e w14 ⟨rfl, hb14⟩
                go_wp2
                go_ret
                exact ⟨rfl, hb13.trans (hb14.mono hb13.size)⟩
          · have hz1 : (d != 0) = true := bne_iff_ne.2 hd
            go_wp2_with fail
            refine (zawake_calls w2).mono ?_
            rintro e w4 ⟨rfl, hb4⟩
            go_wp2
            go_ret
            exact ⟨rfl, hb2.trans (hb4.mono hb2.size)⟩
        · have hz1 : (c != 0) = true := bne_iff_ne.2 hc
          go_wp2_with fail
          refine (zawake_calls w1).mono ?_
          rintro e w4 ⟨rfl, hb4⟩
          go_wp2
          go_ret
          exact ⟨rfl, hb1.trans (hb4.mono hb1.size)⟩
end Go.Proofs.Ytcfmndhjmlbcoaa
