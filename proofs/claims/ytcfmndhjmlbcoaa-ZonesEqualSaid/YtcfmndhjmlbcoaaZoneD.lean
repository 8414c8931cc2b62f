/-
  The walks of the reference's zone and Check of zones.
-/
import Derived.Test.YtcfmndhjmlbcoaaZoneC
namespace Go.Proofs.Ytcfmndhjmlbcoaa
open Go.RowKit

set_option maxRecDepth 100000 in
set_option maxHeartbeats 6400000 in
theorem rzone_calls (v : Value) (l : List Zn) (i : Nat) (w : World) (h : ZnsAt w v l) (hi : i < l.length) :
    Calls Try.prog 62 #[v, .int .i64 i] w (IntTo (zoneE (l.take i) l[i]) w) := by
  have hB := h
  obtain ⟨av, cap, rfl, hlc, hm, -⟩ := h
  have hm := hm.1
  unfold maxLen at hm
  obtain ⟨av2, cap2, e2, -, -, hx⟩ := id hB
  cases e2
  obtain ⟨b, o, rfl, hBb, hx⟩ := hx (by rintro rfl; cases hi)
  obtain ⟨⟨c0, s0⟩, sv, c1, hs⟩ := hx i hi
  have HL := Lib.hid (show ∀ w', Below w.heap.size w w' → ∀ j (hj : j < l.length), w'.cell? ⟨b, o + j * 2, none⟩ = some (.string l[j].1) from fun w' h j hj => (h.cell (p := ⟨b, _, none⟩) hBb).trans (hx j hj).1.1)
  obtain ⟨z, hz⟩ : ∃ z, z = l[i] := ⟨_, rfl⟩
  have HEa := Lib.hid (show ∀ k (hk : k < z.2.length) w1, Below w.heap.size w w1 → Calls Try.prog 96 #[.slice (some ⟨b, o, none⟩) l.length cap, .int .i64 i, .int .i64 k] w1 (BoolTo ((allPr (l.take i) ++ z.2.take k).any (fun x => sameS x z.2[k])) w1) from fun k hk w1 hb => by subst hz; exact earlier_calls _ l i k w1 (hB.below hb) hi hk)
  rw [← hz] at c0 s0 hs ⊢
  have HAH := Lib.hid (fun j (hj : j < l.length) (hji : j < i) (hp : sameS l[j].1 z.1 = true) => any_take_hit (p := fun x : Zn => sameS x.1 z.1) hj hji hp)
  have HAF := Lib.hid (fun j (hj : j < l.length) (h1 : (l.take j).any (fun x => sameS x.1 z.1) = false) (h2 : sameS l[j].1 z.1 = false) => any_take_false (p := fun x : Zn => sameS x.1 z.1) hj h1 h2)
  clear hx hz
  obtain ⟨nm, ps⟩ := z
  dsimp only at HEa c0 s0 c1 hs HAH HAF
  have hs0 := hs
  obtain ⟨asv, cs, rfl, hsc, hms, -⟩ := hs0
  have hms := hms.1
  unfold maxLen at hms
  have HbE := Lib.hid (show zoneE (l.take i) (nm, ps) = if isName nm = false then 8 else if (l.take i).any (fun x => sameS x.1 nm) = true then 10 else if ps.length = 0 then 8 else if 64 < ps.length then 5 else prefsE (allPr (l.take i)) ps from rfl)
  generalize zoneE (l.take i) (nm, ps) = E at *
  obtain ⟨seen, hseen⟩ : ∃ seen, seen = allPr (l.take i) := ⟨_, rfl⟩
  rw [← hseen] at HEa HbE
  clear hseen
  obtain ⟨X, hX⟩ : ∃ X, X = w.alloc (Obj.cells #[Value.string nm, .slice asv ps.length cs] 62) := ⟨_, rfl⟩
  have hwX : Below w.heap.size w X := by rw [hX]; exact (Below.refl _ _).alloc (Nat.le_refl _) _
  have hzX : w.heap.size < X.heap.size := by rw [hX]; simp
  have rX : X.heap[w.heap.size]? = some (Obj.cells #[Value.string nm, .slice asv ps.length cs] 62) := by rw [hX]; exact heap_alloc_new _ _
  have HM := Lib.hid (show ∀ w', Below X.heap.size X w' → w'.cell? ⟨w.heap.size, 0, none⟩ = some (.string nm) ∧ w'.cell? ⟨w.heap.size, 1, none⟩ = some (.slice asv ps.length cs) from fun w' hb => by
    have q := (hb.block _ hzX).trans rX
    exact ⟨cell_of_row w' _ 0 _ _ _ q, cell_of_row w' _ 1 _ _ _ q⟩)
  have HX := Lib.hid hX
  have HwX := Lib.hid hwX
  have hi0 : (0 : Int) ≤ (i : Int) := Int.natCast_nonneg _
  have hi1 : (i : Int) < (l.length : Int) := by omega
  have HNm := Lib.hid (r5name_calls nm X s0)
  clear hX rX hwX
  obtain ⟨y0, y1⟩ := HM.out X (Below.refl _ _)
  go_enter Try.func62, Try.ntmps62
  go_upto_region 2 with (fail)
  rw [← HX.out]
  clear c0 c1
  cases hN : isName nm with
  | false =>
    have HE := Lib.hid (HbE.out.trans (if_pos hN))
    rw [hN] at HNm
    clear hN
    go_wp2_with fail
    refine HNm.out.mono ?_
    rintro e w2 ⟨rfl, hb2⟩
    go_wp2
    go_ret
    exact ⟨ret_int HE.out.symm, HwX.out.trans (hb2.mono HwX.out.size)⟩
  | true =>
    have HbE := Lib.hid (HbE.out.trans (if_neg (by rw [hN]; decide)))
    rw [hN] at HNm
    clear hN
    go_wp2_with fail
    refine HNm.out.mono ?_
    rintro e w2 ⟨rfl, hb2⟩
    clear y0 y1
    go_wp2_with fail
    go_loopw [6] (fun x wr => ∃ j : Nat, j ≤ i ∧ x = .int .i64 j ∧ (l.take j).any (fun x => sameS x.1 nm) = false ∧ Below X.heap.size X wr) (fun x _ => i - (intOf x).toNat)
    case atStart => exact ⟨0, Nat.zero_le _, rfl, rfl, hb2⟩
    case round =>
      obtain ⟨j, hj, rfl, ha, hb⟩ := hrel
      have Ha := Lib.hid ha
      clear ha
      have Hbw := Lib.hid (HwX.out.trans (hb.mono HwX.out.size))
      obtain ⟨y0, y1⟩ := HM.out wr hb
      by_cases hji : j < i
      · have hjl : j < l.length := by omega
        have d0 := HL.out wr Hbw.out j hjl
        have hj0 : (0 : Int) ≤ (j : Int) := Int.natCast_nonneg _
        have hj1 : (j : Int) < (l.length : Int) := by omega
        have hj2 : (j : Int) < (i : Int) := by omega
        have HF := Lib.hid (fun h2 => HAF.out j hjl Ha.out h2)
        have HT := Lib.hid (fun h2 => HAH.out j hjl hji h2)
        generalize l[j] = z at *
        obtain ⟨zn, zs⟩ := z
        dsimp only at d0 HF HT
        have hsame : sameS zn nm = (zn.toList == nm.toList) := rfl
        cases hE : (zn.toList == nm.toList) with
        | true =>
          have HE := Lib.hid (HbE.out.trans (if_pos (HT.out (hsame.trans hE))))
          clear hsame HF HT
          go_upto_region 7 with (fail)
          go_big_quiet (fail)
          go_wp2
          go_ret
          exact ⟨ret_int HE.out.symm, below_drewN5 Hbw.out _⟩
        | false =>
          have HE := Lib.hid (HF.out (hsame.trans hE))
          clear hsame HF HT
          go_upto_region 7 with (fail)
          go_big_quiet (fail)
          go_wp2
          exact ⟨⟨j + 1, by omega, by go_num, HE.out, below_drewN5 hb _⟩, by simp [intOf]; omega⟩
      · have hje : j = i := by omega
        have hj2 : ¬ (j : Int) < (i : Int) := by omega
        have Ha := Lib.hid (show (l.take i).any (fun x => sameS x.1 nm) = false by rw [← hje]; exact Ha.out)
        have HbE := Lib.hid (HbE.out.trans (if_neg (by rw [Ha.out]; decide)))
        clear hje
        by_cases h0 : ps.length = 0
        · have hz0 : ((ps.length : Int) == 0) = true := beq_iff_eq.2 (by omega)
          have HE := Lib.hid (HbE.out.trans (if_pos h0))
          clear h0
          go_wp2
          go_ret
          exact ⟨ret_int HE.out.symm, Hbw.out⟩
        · have hz0 : ((ps.length : Int) == 0) = false := beq_eq_false_iff_ne.2 (by omega)
          have HbE := Lib.hid (HbE.out.trans (if_neg h0))
          by_cases h64 : 64 < ps.length
          · have h64' : (64 : Int) < (ps.length : Int) := by omega
            have HE := Lib.hid (HbE.out.trans (if_pos h64))
            clear h0
            go_wp2
            go_ret
            exact ⟨ret_int HE.out.symm, Hbw.out⟩
          · have h64' : ¬ (64 : Int) < (ps.length : Int) := by omega
            have HbE := Lib.hid (HbE.out.trans (if_neg h64))
            clear h0
            go_wp2_with fail
            clear y0 y1
            go_loopw [7] (fun x wr => ∃ k : Nat, k ≤ ps.length ∧ x = .int .i64 k ∧ E = prefsE (seen ++ ps.take k) (ps.drop k) ∧ Below X.heap.size X wr) (fun x _ => ps.length - (intOf x).toNat)
            case atStart => exact ⟨0, Nat.zero_le _, rfl, by rw [HbE.out]; simp, hb⟩
            case round =>
              obtain ⟨k, hk, rfl, hn, hbi⟩ := hrel
              have Hn := Lib.hid hn
              clear hn
              have Hbwi := Lib.hid (HwX.out.trans (hbi.mono HwX.out.size))
              obtain ⟨y0, y1⟩ := HM.out wr hbi
              by_cases hkl : k < ps.length
              · have Hst := Lib.hid (Hn.out.trans (prefsE_step seen ps k hkl))
                have HEk := Lib.hid (fun w1 hb => HEa.out k hkl w1 hb)
                obtain ⟨av4, cap4, e4, -, -, hy⟩ := hs.below Hbwi.out
                cases e4
                obtain ⟨b4, o4, rfl, hB4, hy⟩ := hy (by rintro rfl; cases hkl)
                obtain ⟨d0, ds⟩ := hy k hkl
                rw [Nat.mul_one] at d0
                have hk0 : (0 : Int) ≤ (k : Int) := Int.natCast_nonneg _
                have hk1 : (k : Int) < (ps.length : Int) := by omega
                clear hy
                generalize ps[k] = q at *
                generalize (seen ++ ps.take k).any (fun x => sameS x q) = an at *
                have HV := Lib.hid (fun w1 => r2valid_calls q w1 ds)
                cases hg : isNum q with
                | false =>
                  rw [hg] at HV
                  have HE := Lib.hid (Hst.out.trans (if_pos hg))
                  clear hg
                  go_wp2_with fail
                  refine (HV.out wr).mono ?_
                  rintro e w3 ⟨rfl, rfl⟩
                  go_wp2
                  go_ret
                  exact ⟨ret_int HE.out.symm, Hbwi.out⟩
                | true =>
                  rw [hg] at HV
                  have Hst := Lib.hid (Hst.out.trans (if_neg (by rw [hg]; decide)))
                  clear hg
                  cases an with
                  | true =>
                    have HE := Lib.hid (Hst.out.trans (if_pos rfl))
                    go_wp2_with fail
                    refine (HV.out wr).mono ?_
                    rintro e w3 ⟨rfl, rfl⟩
                    go_wp2_with fail
                    refine (HEk.out wr Hbwi.out).mono ?_
                    rintro e w4 ⟨rfl, hb4⟩
                    go_wp2
                    go_ret
                    exact ⟨ret_int HE.out.symm, Hbwi.out.trans (hb4.mono Hbwi.out.size)⟩
                  | false =>
                    have HE := Lib.hid (Hst.out.trans (if_neg (by decide)))
                    go_wp2_with fail
                    refine (HV.out wr).mono ?_
                    rintro e w3 ⟨rfl, rfl⟩
                    go_wp2_with fail
                    refine (HEk.out wr Hbwi.out).mono ?_
                    rintro e w4 ⟨rfl, hb4⟩
                    have hb5 := hbi.trans (hb4.mono hbi.size)
                    go_wp2
                    exact ⟨⟨k + 1, by omega, by go_num, HE.out, hb5⟩, by simp [intOf]; omega⟩
              · have HE := Lib.hid (Hn.out.trans (prefsE_end seen ps k (by omega)))
                go_wp2
                go_ret
                exact ⟨ret_int HE.out.symm, Hbwi.out⟩

set_option maxRecDepth 100000 in
set_option maxHeartbeats 3200000 in
theorem rzcheck_calls (v : Value) (l : List Zn) (w : World) (h : ZnsAt w v l) :
    Calls Try.prog 31 #[v] w (IntTo (checkZ l) w) := by
  have hB := h
  have HZ := Lib.hid (fun k (hk : k < l.length) w1 (hb : Below w.heap.size w w1) => rzone_calls v l k w1 (hB.below hb) hk)
  obtain ⟨av, cap, rfl, hlc, hm, -⟩ := h
  have hm := hm.1
  unfold maxLen at hm
  by_cases h64 : 64 < l.length
  · have HE := Lib.hid (show checkZ l = 5 from if_pos h64)
    have h64' : (64 : Int) < (l.length : Int) := by omega
    go_enter Try.func31, Try.ntmps31
    go_wp2
    go_ret
    exact ⟨ret_int HE.out.symm, Below.refl _ _⟩
  · have HE0 := Lib.hid (show checkZ l = zonesE6 (l.take 0) (l.drop 0) from if_neg h64)
    have h64' : ¬ (64 : Int) < (l.length : Int) := by omega
    go_enter Try.func31, Try.ntmps31
    go_wp2_with fail
    go_loopw [3, 4] (fun x _ wr => ∃ k : Nat, k ≤ l.length ∧ x = .int .i64 k ∧ checkZ l = zonesE6 (l.take k) (l.drop k) ∧ Below w.heap.size w wr) (fun x _ _ => l.length - (intOf x).toNat)
    case atStart => exact ⟨0, Nat.zero_le _, rfl, HE0.out, Below.refl _ _⟩
    case round =>
      obtain ⟨k, hk, rfl, hn, hb⟩ := hrel
      have Hn := Lib.hid hn
      clear hn
      by_cases hlt : k < l.length
      · have Hst := Lib.hid (Hn.out.trans (zonesE6_step l k hlt))
        have HZk := Lib.hid (HZ.out k hlt wr hb)
        have hk1 : (k : Int) < (l.length : Int) := by omega
        generalize zoneE (l.take k) l[k] = E at *
        by_cases hz : E = 0
        · have HE := Lib.hid (Hst.out.trans (if_neg (not_not_intro hz)))
          rw [hz] at HZk
          clear hz
          go_wp2_with fail
          refine HZk.out.mono ?_
          rintro e w2 ⟨rfl, hb2⟩
          have hb3 := hb.trans (hb2.mono hb.size)
          go_wp2
          exact ⟨⟨k + 1, by omega, by go_num, HE.out, hb3⟩, by simp [intOf]; omega⟩
        · have HE := Lib.hid (Hst.out.trans (if_pos hz))
          have hz2 : (E != 0) = true := bne_iff_ne.2 hz
          clear hz
          go_wp2_with fail
          refine HZk.out.mono ?_
          rintro e w2 ⟨rfl, hb2⟩
          have hb3 := hb.trans (hb2.mono hb.size)
          go_wp2
          go_ret
          exact ⟨ret_int HE.out.symm, hb3⟩
      · have HE := Lib.hid (Hn.out.trans (zonesE6_end l k (by omega)))
        go_wp2
        go_ret
        exact ⟨ret_int HE.out.symm, hb⟩
end Go.Proofs.Ytcfmndhjmlbcoaa
