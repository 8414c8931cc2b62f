/-
  The walk of the reference's Check of bands.
-/
import Derived.Test.YtcfmndhjmlbcoaaBandC
namespace Go.Proofs.Ytcfmndhjmlbcoaa
open Go.RowKit

theorem any_take_hit {α : Type} {p : α → Bool} {l : List α} {j k : Nat} (hj : j < l.length) (hjk : j < k) (h : p l[j] = true) : (l.take k).any p = true :=
  List.any_eq_true.2 ⟨l[j], List.mem_take_iff_getElem.2 ⟨j, by omega, rfl⟩, h⟩

set_option maxRecDepth 100000 in
set_option maxHeartbeats 6400000 in
theorem rcheck_calls (v : Value) (l : List Bn) (w : World) (h : BnsAt w v l) :
    Calls Try.prog 17 #[v] w (IntTo (checkB l) w) := by
  have hh := h
  obtain ⟨av, cap, rfl, hlc, hm, -⟩ := h
  have hm := hm.1
  unfold maxLen at hm
  by_cases h0 : l.length = 0
  · have H := Lib.hid (show checkB l = 8 from if_pos h0)
    have hz : ((l.length : Int) == 0) = true := beq_iff_eq.2 (by omega)
    clear h0
    go_enter Try.func17, Try.ntmps17
    go_wp2
    go_ret
    exact ⟨ret_int H.out.symm, Below.refl _ _⟩
  · have hz : ((l.length : Int) == 0) = false := beq_eq_false_iff_ne.2 (by omega)
    by_cases h64 : 64 < l.length
    · have H := Lib.hid (show checkB l = 5 by unfold checkB; rw [if_neg h0, if_pos h64])
      have h64' : (64 : Int) < (l.length : Int) := by omega
      go_enter Try.func17, Try.ntmps17
      go_wp2
      go_ret
      exact ⟨ret_int H.out.symm, Below.refl _ _⟩
    · have HZ := Lib.hid (show checkB l = bandsE (l.take 0) (l.drop 0) by unfold checkB; rw [if_neg h0, if_neg h64]; rfl)
      have h64' : ¬ (64 : Int) < (l.length : Int) := by omega
      clear h0
      go_enter Try.func17, Try.ntmps17
      go_wp2_with fail
      go_loopw [3, 4, 5] (fun i _ _ wr => ∃ k : Nat, k ≤ l.length ∧ i = .int .i64 k ∧ checkB l = bandsE (l.take k) (l.drop k) ∧ Below w.heap.size w wr) (fun i _ _ _ => l.length - (intOf i).toNat)
      case atStart => exact ⟨0, Nat.zero_le _, rfl, HZ.out, Below.refl _ _⟩
      case round =>
        obtain ⟨k, hk, rfl, hn, hb⟩ := hrel
        obtain ⟨wq, rfl⟩ : ∃ wq : World, wq = wr := ⟨_, rfl⟩
        have Hn := Lib.hid hn
        clear hn
        by_cases hlt : k < l.length
        · have Hst := Lib.hid (Hn.out.trans (bandsE_step l k hlt))
          obtain ⟨av2, cap2, e2, -, -, hx⟩ := hh.below hb
          cases e2
          obtain ⟨b, o, rfl, hB, hx⟩ := hx (by rintro rfl; cases hlt)
          obtain ⟨⟨c0, s0⟩, sv, c1, hs⟩ := hx k hlt
          have HL := Lib.hid (show ∀ W, Below wq.heap.size wq W → ∀ j (hj : j < l.length), W.cell? ⟨b, o + j * 2, none⟩ = some (.string l[j].1) from fun W hW j hj => (hW.cell (p := ⟨b, _, none⟩) hB).trans (hx j hj).1.1)
          have HAH := Lib.hid (fun j (hj : j < l.length) (hjk : j < k) (hp : sameS l[j].1 l[k].1 = true) => any_take_hit (p := fun x => sameS x.1 l[k].1) hj hjk hp)
          have HAF := Lib.hid (fun j (hj : j < l.length) (h1 : (l.take j).any (fun x => sameS x.1 l[k].1) = false) (h2 : sameS l[j].1 l[k].1 = false) => any_take_false (p := fun x => sameS x.1 l[k].1) hj h1 h2)
          have HLk := Lib.hid (show ∀ W, Below wq.heap.size wq W → W.cell? ⟨b, o + k * 2, none⟩ = some (.string l[k].1) from fun W hW => HL.out W hW k hlt)
          have hk0 : (0 : Int) ≤ (k : Int) := Int.natCast_nonneg _
          have hk1 : (k : Int) < (l.length : Int) := by omega
          clear hx
          generalize hy : l[k] = y at Hst c0 c1 hs s0 HAH HAF HLk
          clear hy
          obtain ⟨nm, ss⟩ := y
          dsimp only at c0 c1 hs s0 HAH HAF HLk
          have hs0 := hs
          obtain ⟨asv, cs, rfl, -, -, -⟩ := hs0
          have HS := Lib.hid (show ∀ W, Below wq.heap.size wq W → Calls Try.prog 55 #[.slice asv ss.length cs, .bool false] W (IntTo (slotsE ss) W) from fun W hW => rslots_calls _ ss W (hs.below hW))
          have HSL := Lib.hid (show ∀ W, Below wq.heap.size wq W → Calls Try.prog 55 #[.slice asv ss.length cs, .bool true] W (IntTo (if 0 < ss.length then 8 else 0) W) from fun W hW => rslots_last _ ss W (hs.below hW))
          have Hc1 := Lib.hid (show ∀ W, Below wq.heap.size wq W → W.cell? ⟨b, o + k * 2 + 1, none⟩ = some (.slice asv ss.length cs) from fun W hW => (hW.cell (p := ⟨b, _, none⟩) hB).trans c1)
          have HBB := Lib.hid hB
          clear hs hh c1
          have HbE := Lib.hid (show bandE (l.take k) (nm, ss) (decide (k + 1 = l.length)) = if isName nm = false then 8 else if (l.take k).any (fun x => sameS x.1 nm) = true then 10 else if (decide (k + 1 = l.length)) = true then (if 0 < ss.length then 8 else 0) else slotsE ss from rfl)
          generalize bandE (l.take k) (nm, ss) (decide (k + 1 = l.length)) = E at Hst HbE
          have HNm := Lib.hid (r5name_calls nm wq s0)
          have Hb := Lib.hid hb
          cases hN : isName nm with
          | false =>
            have HE := Lib.hid (show checkB l = 8 by rw [Hst.out, HbE.out.trans (if_pos hN)]; rfl)
            rw [hN] at HNm
            clear hN
            go_wp2_with fail
            refine HNm.out.mono ?_
            rintro e w2 ⟨rfl, hb2⟩
            go_wp2
            go_ret
            exact ⟨ret_int HE.out.symm, Hb.out.trans (hb2.mono Hb.out.size)⟩
          | true =>
            rw [hN] at HNm
            have HbE := Lib.hid (HbE.out.trans (if_neg (by rw [hN]; decide)))
            clear hN
            go_wp2_with fail
            refine HNm.out.mono ?_
            rintro e wo ⟨rfl, hbo⟩
            clear c0 hb
            go_wp2_with fail
            go_loopw [4] (fun i wr => ∃ j : Nat, j ≤ k ∧ i = .int .i64 j ∧ (l.take j).any (fun x => sameS x.1 nm) = false ∧ Below wq.heap.size wq wr) (fun i _ => k - (intOf i).toNat)
            case atStart => exact ⟨0, Nat.zero_le _, rfl, rfl, hbo⟩
            case round =>
              obtain ⟨j, hj, rfl, ha, hbi⟩ := hrel
              have Ha := Lib.hid ha
              clear ha
              have Hbi := Lib.hid (Hb.out.trans (hbi.mono Hb.out.size))
              by_cases hjk : j < k
              · have hjl : j < l.length := by omega
                have d0 := HL.out wr hbi j hjl
                have d1 := HLk.out wr hbi
                have hj0 : (0 : Int) ≤ (j : Int) := Int.natCast_nonneg _
                have hj1 : (j : Int) < (l.length : Int) := by omega
                have hj2 : (j : Int) < (k : Int) := by omega
                have HF := Lib.hid (fun h2 => HAF.out j hjl Ha.out h2)
                have HT := Lib.hid (fun h2 => HAH.out j hjl hjk h2)
                generalize l[j] = z at *
                obtain ⟨zn, zs⟩ := z
                dsimp only at d0 HF HT
                have hsame : sameS zn nm = (zn.toList == nm.toList) := rfl
                cases hE : (zn.toList == nm.toList) with
                | true =>
                  have HE := Lib.hid (show checkB l = 10 by rw [Hst.out, HbE.out.trans (if_pos (HT.out (hsame.trans hE)))]; rfl)
                  clear hsame HF HT
                  go_upto_region 13 with (fail)
                  go_big_quiet (fail)
                  go_wp2
                  go_ret
                  exact ⟨ret_int HE.out.symm, below_drewN5 Hbi.out _⟩
                | false =>
                  have HE := Lib.hid (HF.out (hsame.trans hE))
                  clear hsame HF HT
                  go_upto_region 13 with (fail)
                  go_big_quiet (fail)
                  go_wp2
                  exact ⟨⟨j + 1, by omega, by go_num, HE.out, below_drewN5 hbi _⟩, by simp [intOf]; omega⟩
              · have hje : j = k := by omega
                subst hje
                have HbE := Lib.hid (HbE.out.trans (if_neg (by rw [Ha.out]; decide)))
                have hj2 : ¬ (j : Int) < (j : Int) := by omega
                have c1 := Hc1.out wr hbi
                by_cases hlast : j + 1 = l.length
                · have hla : ((j : Int) + 1 == (l.length : Int)) = true := beq_iff_eq.2 (by omega)
                  have HbE := Lib.hid (HbE.out.trans (if_pos (decide_eq_true hlast)))
                  clear hlast
                  go_wp2_with fail
                  refine (HSL.out wr hbi).mono ?_
                  rintro e w4 ⟨he, hb4⟩
                  have Hb4 := Lib.hid (Hbi.out.trans (hb4.mono Hbi.out.size))
                  by_cases hs8 : 0 < ss.length
                  · rw [if_pos hs8] at he
                    subst he
                    have HE := Lib.hid (show checkB l = 8 by rw [Hst.out, HbE.out.trans (if_pos hs8)]; rfl)
                    go_wp2
                    go_ret
                    exact ⟨ret_int HE.out.symm, Hb4.out⟩
                  · rw [if_neg hs8] at he
                    subst he
                    have HE := Lib.hid (show checkB l = bandsE (l.take (j + 1)) (l.drop (j + 1)) by rw [Hst.out, HbE.out.trans (if_neg hs8)]; rfl)
                    go_wp2
                    exact ⟨⟨j + 1, by omega, by go_num, HE.out, Hb4.out⟩, by simp [intOf]; omega⟩
                · have hla : ((j : Int) + 1 == (l.length : Int)) = false := beq_eq_false_iff_ne.2 (by omega)
                  have HbE := Lib.hid (HbE.out.trans (if_neg (by rw [decide_eq_false hlast]; decide)))
                  clear hlast
                  by_cases hse : slotsE ss = 0
                  · have HE := Lib.hid (show checkB l = bandsE (l.take (j + 1)) (l.drop (j + 1)) by rw [Hst.out, HbE.out, if_neg (not_not_intro hse)])
                    have HSE := Lib.hid hse
                    clear hse
                    go_wp2_with fail
                    refine (HS.out wr hbi).mono ?_
                    rintro e w4 ⟨rfl, hb4⟩
                    rw [HSE.out]
                    have Hb4 := Lib.hid (Hbi.out.trans (hb4.mono Hbi.out.size))
                    go_wp2
                    exact ⟨⟨j + 1, by omega, by go_num, HE.out, Hb4.out⟩, by simp [intOf]; omega⟩
                  · have HE := Lib.hid (show checkB l = slotsE ss by rw [Hst.out, HbE.out, if_pos hse])
                    have hse2 : (slotsE ss != 0) = true := bne_iff_ne.2 hse
                    clear hse
                    go_wp2_with fail
                    refine (HS.out wr hbi).mono ?_
                    rintro e w4 ⟨rfl, hb4⟩
                    have Hb4 := Lib.hid (Hbi.out.trans (hb4.mono Hbi.out.size))
                    go_wp2
                    go_ret
                    exact ⟨ret_int HE.out.symm, Hb4.out⟩
        · have HE := Lib.hid (show checkB l = 0 by rw [Hn.out, bandsE_end l k (by omega)])
          go_wp2
          go_ret
          exact ⟨ret_int HE.out.symm, hb⟩
end Go.Proofs.Ytcfmndhjmlbcoaa
