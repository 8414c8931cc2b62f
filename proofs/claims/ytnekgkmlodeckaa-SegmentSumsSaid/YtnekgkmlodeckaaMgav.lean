/-
  The walk of the reference's Check of bands.
  Zones in memory; the walks of digits.Valid, the reference's Valid and HasPrefix.
  The walks of the reference's earlier, zone and Check of zones.
  The walks of the reference's zone and Check of zones.
-/
import Derived.Test.YtnekgkmlodeckaaMgau
import Derived.Test.YtnekgkmlodeckaaMgab
namespace Go.Proofs.Ytnekgkmlodeckaa
open Go.RowKit

theorem any_take_hit {α : Type} {p : α → Bool} {l : List α} {j k : Nat} (hj : j < l.length) (hjk : j < k) (h : p l[j] = true) : (l.take k).any p = true :=
  List.any_eq_true.2 ⟨l[j], List.mem_take_iff_getElem.2 ⟨j, by omega, rfl⟩, h⟩

set_option maxRecDepth 100000 in
set_option maxHeartbeats 6400000 in
theorem rcheck_calls (v : Value) (l : List Bn) (w : World) (h : BnsAt w v l) :
    Calls Try.prog 55 #[v] w (IntTo (checkB l) w) := by
  have hh := h
  obtain ⟨av, cap, rfl, hlc, hm, -⟩ := h
  have hm := hm.1
  unfold maxLen at hm
  by_cases h0 : l.length = 0
  · have H := Lib.hid (show checkB l = 8 from if_pos h0)
    have hz : ((l.length : Int) == 0) = true := beq_iff_eq.2 (by omega)
    clear h0
    go_enter Try.func55, Try.ntmps55
    go_wp2
    go_ret
    exact ⟨ret_int H.out.symm, Below.refl _ _⟩
  · have hz : ((l.length : Int) == 0) = false := beq_eq_false_iff_ne.2 (by omega)
    by_cases h64 : 64 < l.length
    · have H := Lib.hid (show checkB l = 5 by unfold checkB; rw [if_neg h0, if_pos h64])
      have h64' : (64 : Int) < (l.length : Int) := by omega
      go_enter Try.func55, Try.ntmps55
      go_wp2
      go_ret
      exact ⟨ret_int H.out.symm, Below.refl _ _⟩
    · have HZ := Lib.hid (show checkB l = bandsE (l.take 0) (l.drop 0) by unfold checkB; rw [if_neg h0, if_neg h64]; rfl)
      have h64' : ¬ (64 : Int) < (l.length : Int) := by omega
      clear h0
      go_enter Try.func55, Try.ntmps55
      go_wp2_with fail
      go_loopw [3, 4, 5] (fun i _ _ wr => ∃ k : Nat, k ≤ l.length ∧ i = .int .i64 k ∧ checkB l = bandsE (l.take k) (l.drop k) ∧ Below w.heap.size w wr) (fun i _ _ _ => l.length - (intOf i).toNat)
      case atStart => exact ⟨0, Nat.zero_le _, rfl, HZ.out, Below.refl _ _⟩
      case round =>
        obtain ⟨k, hk, rfl, hn, hb⟩ := hrel
        obtain ⟨wq, rfl⟩ : ∃ wq : World, wq = wr := ⟨_, rfl⟩
        have Hn := Lib.hid hn
        clear hn
        by_cases hlt : k < l.length
        · have Hst := Lib.hid (Hn.out.trans (bandsE_step l k hlt))
          obtain ⟨av2, cap2, e2, -, -, hx⟩ := hh.below hb
          cases e2
          obtain ⟨b, o, rfl, hB, hx⟩ := hx (by rintro rfl; cases hlt)
          obtain ⟨⟨c0, s0⟩, sv, c1, hs⟩ := hx k hlt
          have HL := Lib.hid (show ∀ W, Below wq.heap.size wq W → ∀ j (hj : j < l.length), W.cell? ⟨b, o + j * 2, none⟩ = some (.string l[j].1) from fun W hW j hj => (hW.cell (p := ⟨b, _, none⟩) hB).trans (hx j hj).1.1)
          have HAH := Lib.hid (fun j (hj : j < l.length) (hjk : j < k) (hp : sameS l[j].1 l[k].1 = true) => any_take_hit (p := fun x => sameS x.1 l[k].1) hj hjk hp)
          have HAF := Lib.hid (fun j (hj : j < l.length) (h1 : (l.take j).any (fun x => sameS x.1 l[k].1) = false) (h2 : sameS l[j].1 l[k].1 = false) => any_take_false (p := fun x => sameS x.1 l[k].1) hj h1 h2)
          have HLk := Lib.hid (show ∀ W, Below wq.heap.size wq W → W.cell? ⟨b, o + k * 2, none⟩ = some (.string l[k].1) from fun W hW => HL.out W hW k hlt)
          have hk0 : (0 : Int) ≤ (k : Int) := Int.natCast_nonneg _
          have hk1 : (k : Int) < (l.length : Int) := by omega
          clear hx
          generalize hy : l[k] = y at Hst c0 c1 hs s0 HAH HAF HLk
          clear hy
          obtain ⟨nm, ss⟩ := y
          dsimp only at c0 c1 hs s0 HAH HAF HLk
          have hs0 := hs
          obtain ⟨asv, cs, rfl, -, -, -⟩ := hs0
          have HS := Lib.hid (show ∀ W, Below wq.heap.size wq W → Calls Try.prog 92 #[.slice asv ss.length cs, .bool false] W (IntTo (slotsE ss) W) from fun W hW => rslots_calls _ ss W (hs.below hW))
          have HSL := Lib.hid (show ∀ W, Below wq.heap.size wq W → Calls Try.prog 92 #[.slice asv ss.length cs, .bool true] W (IntTo (if 0 < ss.length then 8 else 0) W) from fun W hW => rslots_last _ ss W (hs.below hW))
          have Hc1 := Lib.hid (show ∀ W, Below wq.heap.size wq W → W.cell? ⟨b, o + k * 2 + 1, none⟩ = some (.slice asv ss.length cs) from fun W hW => (hW.cell (p := ⟨b, _, none⟩) hB).trans c1)
          have HBB := Lib.hid hB
          clear hs hh c1
          have HbE := Lib.hid (show bandE (l.take k) (nm, ss) (decide (k + 1 = l.length)) = if isName nm = false then 8 else if (l.take k).any (fun x => sameS x.1 nm) = true then 10 else if (decide (k + 1 = l.length)) = true then (if 0 < ss.length then 8 else 0) else slotsE ss from rfl)
          generalize bandE (l.take k) (nm, ss) (decide (k + 1 = l.length)) = E at Hst HbE
          have HNm := Lib.hid (r5name_calls nm wq s0)
          have Hb := Lib.hid hb
          cases hN : isName nm with
          | false =>
            have HE := Lib.hid (show checkB l = 8 by rw [Hst.out, HbE.out.trans (if_pos hN)]; rfl)
            rw [hN] at HNm
            clear hN
            go_wp2_with fail
            refine HNm.out.mono ?_
            rintro e w2 ⟨rfl, hb2⟩
            go_wp2
            go_ret
            exact ⟨ret_int HE.out.symm, Hb.out.trans (hb2.mono Hb.out.size)⟩
          | true =>
            rw [hN] at HNm
            have HbE := Lib.hid (HbE.out.trans (if_neg (by rw [hN]; decide)))
            clear hN
            go_wp2_with fail
            refine HNm.out.mono ?_
            rintro e wo ⟨rfl, hbo⟩
            clear c0 hb
            go_wp2_with fail
            go_loopw [4] (fun i wr => ∃ j : Nat, j ≤ k ∧ i = .int .i64 j ∧ (l.take j).any (fun x => sameS x.1 nm) = false ∧ Below wq.heap.size wq wr) (fun i _ => k - (intOf i).toNat)
            case atStart => exact ⟨0, Nat.zero_le _, rfl, rfl, hbo⟩
            case round =>
              obtain ⟨j, hj, rfl, ha, hbi⟩ := hrel
              have Ha := Lib.hid ha
              clear ha
              have Hbi := Lib.hid (Hb.out.trans (hbi.mono Hb.out.size))
              by_cases hjk : j < k
              · have hjl : j < l.length := by omega
                have d0 := HL.out wr hbi j hjl
                have d1 := HLk.out wr hbi
                have hj0 : (0 : Int) ≤ (j : Int) := Int.natCast_nonneg _
                have hj1 : (j : Int) < (l.length : Int) := by omega
                have hj2 : (j : Int) < (k : Int) := by omega
                have HF := Lib.hid (fun h2 => HAF.out j hjl Ha.out h2)
                have HT := Lib.hid (fun h2 => HAH.out j hjl hjk h2)
                generalize l[j] = z at *
                obtain ⟨zn, zs⟩ := z
                dsimp only at d0 HF HT
                have hsame : sameS zn nm = (zn.toList == nm.toList) := rfl
                cases hE : (zn.toList == nm.toList) with
                | true =>
                  have HE := Lib.hid (show checkB l = 10 by rw [Hst.out, HbE.out.trans (if_pos (HT.out (hsame.trans hE)))]; rfl)
                  clear hsame HF HT
                  go_upto_region 13 with (fail)
                  go_big_quiet (fail)
                  go_wp2
                  go_ret
                  exact ⟨ret_int HE.out.symm, below_drewN5 Hbi.out _⟩
                | false =>
                  have HE := Lib.hid (HF.out (hsame.trans hE))
                  clear hsame HF HT
                  go_upto_region 13 with (fail)
                  go_big_quiet (fail)
                  go_wp2
                  exact ⟨⟨j + 1, by omega, by go_num, HE.out, below_drewN5 hbi _⟩, by simp [intOf]; omega⟩
              · have hje : j = k := by omega
                subst hje
                have HbE := Lib.hid (HbE.out.trans (if_neg (by rw [Ha.out]; decide)))
                have hj2 : ¬ (j : Int) < (j : Int) := by omega
                have c1 := Hc1.out wr hbi
                by_cases hlast : j + 1 = l.length
                · have hla : ((j : Int) + 1 == (l.length : Int)) = true := beq_iff_eq.2 (by omega)
                  have HbE := Lib.hid (HbE.out.trans (if_pos (decide_eq_true hlast)))
                  clear hlast
                  go_wp2_with fail
                  refine (HSL.out wr hbi).mono ?_
                  rintro e w4 ⟨he, hb4⟩
                  have Hb4 := Lib.hid (Hbi.out.trans (hb4.mono Hbi.out.size))
                  by_cases hs8 : 0 < ss.length
                  · rw [if_pos hs8] at he
                    subst he
                    have HE := Lib.hid (show checkB l = 8 by rw [Hst.out, HbE.out.trans (if_pos hs8)]; rfl)
                    go_wp2
                    go_ret
                    exact ⟨ret_int HE.out.symm, Hb4.out⟩
                  · rw [if_neg hs8] at he
                    subst he
                    have HE := Lib.hid (show checkB l = bandsE (l.take (j + 1)) (l.drop (j + 1)) by rw [Hst.out, HbE.out.trans (if_neg hs8)]; rfl)
                    go_wp2
                    exact ⟨⟨j + 1, by omega, by go_num, HE.out, Hb4.out⟩, by simp [intOf]; omega⟩
                · have hla : ((j : Int) + 1 == (l.length : Int)) = false := beq_eq_false_iff_ne.2 (by omega)
                  have HbE := Lib.hid (HbE.out.trans (if_neg (by rw [decide_eq_false hlast]; decide)))
                  clear hlast
                  by_cases hse : slotsE ss = 0
                  · have HE := Lib.hid (show checkB l = bandsE (l.take (j + 1)) (l.drop (j + 1)) by rw [Hst.out, HbE.out, if_neg (not_not_intro hse)])
                    have HSE := Lib.hid hse
                    clear hse
                    go_wp2_with fail
                    refine (HS.out wr hbi).mono ?_
                    rintro e w4 ⟨rfl, hb4⟩
                    rw [HSE.out]
                    have Hb4 := Lib.hid (Hbi.out.trans (hb4.mono Hbi.out.size))
                    go_wp2
                    exact ⟨⟨j + 1, by omega, by go_num, HE.out, Hb4.out⟩, by simp [intOf]; omega⟩
                  · have HE := Lib.hid (show checkB l = slotsE ss by rw [Hst.out, HbE.out, if_pos hse])
                    have hse2 : (slotsE ss != 0) = true := bne_iff_ne.2 hse
                    clear hse
                    go_wp2_with fail
                    refine (HS.out wr hbi).mono ?_
                    rintro e w4 ⟨rfl, hb4⟩
                    have Hb4 := Lib.hid (Hbi.out.trans (hb4.mono Hbi.out.size))
                    go_wp2
                    go_ret
                    exact ⟨ret_int HE.out.symm, Hb4.out⟩
        · have HE := Lib.hid (show checkB l = 0 by rw [Hn.out, bandsE_end l k (by omega)])
          go_wp2
          go_ret
          exact ⟨ret_int HE.out.symm, hb⟩
end Go.Proofs.Ytnekgkmlodeckaa

namespace Go.Proofs.Ytnekgkmlodeckaa
open Go.RowKit

/-- A zone in two cells. -/
def ZnR (w : World) (b o : Nat) (x : Zn) : Prop := StrR w b o x.1 ∧ ∃ v, w.cell? ⟨b, o + 1, none⟩ = some v ∧ StrsAt w v x.2
theorem ZnR.stays : Stays ZnR := fun _ _ b _ _ hb hB ⟨h0, v, h1, hv⟩ =>
  ⟨StrR.stays _ _ _ _ _ hb hB h0, v, (hb.cell (p := ⟨b, _, none⟩) hB).trans h1, hv.below hb⟩
def ZnsAt (w : World) (v : Value) (l : List Zn) : Prop := SliceAt 2 ZnR w v l
theorem ZnsAt.below {w w' : World} {v : Value} {l : List Zn} (h : ZnsAt w v l) (hb : Below w.heap.size w w') : ZnsAt w' v l := SliceAt.below ZnR.stays h hb

theorem digit_calls (c : UInt8) (w : World) : Calls Try.prog 123 #[.int .u8 (c.toNat : Int)] w fun e w' => e = .returned (.bool (isDig c)) ∧ w = w' := by
  have HR := Lib.hid (show isDig c = (decide (48 ≤ (c.toNat : Int) ∧ (c.toNat : Int) ≤ 57)) from rfl)
  generalize (c.toNat : Int) = n at *
  by_cases h1 : 48 ≤ n
  · by_cases h2 : n ≤ 57
    · go_enter Try.func123, Try.ntmps123
      go_wp2
      go_ret
      exact ⟨ret_bool (by rw [HR.out]; simp [h1, h2]), rfl⟩
    · go_enter Try.func123, Try.ntmps123
      go_wp2
      go_ret
      exact ⟨ret_bool (by rw [HR.out]; simp [h1, h2]), rfl⟩
  · go_enter Try.func123, Try.ntmps123
    go_wp2
    go_ret
    exact ⟨ret_bool (by rw [HR.out]; exact (decide_eq_false (by omega)).symm), rfl⟩

theorem num_end (s : ByteArray) (h : s.data.toList.all isDig = true) : isNum s = decide (1 ≤ s.size ∧ s.size ≤ 15) := by unfold isNum; rw [h, Bool.and_true]
theorem num_bad (s : ByteArray) (h : s.data.toList.all isDig = false) : isNum s = false := by unfold isNum; rw [h, Bool.and_false]

set_option maxHeartbeats 1600000 in
theorem dvalid_calls (s : ByteArray) (w : World) (hs : s.size ≤ maxLen) : Calls Try.prog 85 #[.string s] w fun e w' => e = .returned (.bool (isNum s)) ∧ w = w' := by
  unfold maxLen at hs
  have HB := Lib.hid (num_bad s)
  have HE := Lib.hid (num_end s)
  go_enter Try.func85, Try.ntmps85
  go_wp2
  go_loop [3, 6] (fun _ i => ∃ k : Nat, k ≤ s.size ∧ i = .int .i64 k ∧ (s.data.toList.take k).all isDig = true) (fun _ i => s.size - (intOf i).toNat)
  case atStart => exact ⟨0, Nat.zero_le _, rfl, rfl⟩
  case round =>
    obtain ⟨k, hk, rfl, ha⟩ := hrel
    have Ha := Lib.hid ha
    clear ha
    by_cases hlt : k < s.size
    · have hlt' : (k : Int) < (s.size : Int) := by omega
      have HT := Lib.hid (dig_take s k hlt)
      have HF := Lib.hid (dig_false s k hlt)
      have Hd := Lib.hid (fun w1 => digit_calls s[k] w1)
      cases hg : isDig s[k] with
      | true =>
        rw [hg] at Hd
        have HT2 := Lib.hid (show (s.data.toList.take (k + 1)).all isDig = true by rw [HT.out, Ha.out, hg]; rfl)
        clear hg
        go_wp2_with fail
        refine (Hd.out w).mono ?_
        rintro e w1 ⟨rfl, rfl⟩
        go_wp2
        exact ⟨⟨k + 1, by omega, by go_num, HT2.out⟩, by simp [intOf]; omega⟩
      | false =>
        rw [hg] at Hd
        have HN := Lib.hid (HB.out (HF.out hg))
        clear hg
        go_wp2_with fail
        refine (Hd.out w).mono ?_
        rintro e w1 ⟨rfl, rfl⟩
        go_wp2
        go_ret
        exact ⟨ret_bool HN.out.symm, rfl⟩
    · have HN := Lib.hid (HE.out (by rw [← Ha.out, List.take_of_length_le (by simp; omega)]))
      by_cases h1 : 1 ≤ s.size
      · go_wp2
        go_ret
        exact ⟨ret_bool (by rw [HN.out]; exact decide_eq_decide.2 (by omega)), rfl⟩
      · go_wp2
        go_ret
        exact ⟨ret_bool (by rw [HN.out]; first | exact (decide_eq_false (by omega)).symm | exact decide_eq_decide.2 (by omega)), rfl⟩

set_option maxHeartbeats 1600000 in
theorem r2valid_calls (s : ByteArray) (w : World) (hs : s.size ≤ maxLen) : Calls Try.prog 88 #[.string s] w fun e w' => e = .returned (.bool (isNum s)) ∧ w = w' := by
  unfold maxLen at hs
  have HB := Lib.hid (num_bad s)
  have HE := Lib.hid (num_end s)
  go_enter Try.func88, Try.ntmps88
  go_wp2
  go_loop [3] (fun i => ∃ k : Nat, k ≤ s.size ∧ i = .int .i64 k ∧ (s.data.toList.take k).all isDig = true) (fun i => s.size - (intOf i).toNat)
  case atStart => exact ⟨0, Nat.zero_le _, rfl, rfl⟩
  case round =>
    obtain ⟨k, hk, rfl, ha⟩ := hrel
    have Ha := Lib.hid ha
    clear ha
    by_cases hlt : k < s.size
    · have hlt' : (k : Int) < (s.size : Int) := by omega
      have HT := Lib.hid (dig_take s k hlt)
      have HF := Lib.hid (dig_false s k hlt)
      cases hg : isDig s[k] with
      | true =>
        have hd : 48 ≤ (s[k].toNat : Int) ∧ (s[k].toNat : Int) ≤ 57 := of_decide_eq_true hg
        obtain ⟨d1, d2⟩ := hd
        have HT2 := Lib.hid (show (s.data.toList.take (k + 1)).all isDig = true by rw [HT.out, Ha.out, hg]; rfl)
        clear hg
        go_wp2
        exact ⟨⟨k + 1, by omega, by go_num, HT2.out⟩, by simp [intOf]; omega⟩
      | false =>
        have hd : ¬ (48 ≤ (s[k].toNat : Int) ∧ (s[k].toNat : Int) ≤ 57) := of_decide_eq_false hg
        have HN := Lib.hid (HB.out (HF.out hg))
        have hc : (s[k].toNat : Int) < 48 ∨ (48 ≤ (s[k].toNat : Int) ∧ 57 < (s[k].toNat : Int)) := by omega
        clear hg hd
        rcases hc with hc | ⟨h1, h2⟩
        all_goals
          go_wp2
          go_ret
          exact ⟨ret_bool HN.out.symm, rfl⟩
    · have HN := Lib.hid (HE.out (by rw [← Ha.out, List.take_of_length_le (by simp; omega)]))
      by_cases h1 : 1 ≤ s.size
      · go_wp2
        go_ret
        exact ⟨ret_bool (by rw [HN.out]; exact decide_eq_decide.2 (by omega)), rfl⟩
      · go_wp2
        go_ret
        exact ⟨ret_bool (by rw [HN.out]; first | exact (decide_eq_false (by omega)).symm | exact decide_eq_decide.2 (by omega)), rfl⟩
end Go.Proofs.Ytnekgkmlodeckaa

namespace Go.Proofs.Ytnekgkmlodeckaa
open Go.RowKit

theorem allPr_any (l : List Zn) (k : Nat) (h : k < l.length) (p : ByteArray → Bool) : (allPr (l.take (k + 1))).any p = ((allPr (l.take k)).any p || l[k].2.any p) := by
  rw [allPr_take l k h, List.any_append]

set_option maxRecDepth 100000 in
set_option maxHeartbeats 6400000 in
theorem earlier_calls (v : Value) (l : List Zn) (i k : Nat) (w : World) (h : ZnsAt w v l) (hi : i < l.length) (hk : k < l[i].2.length) :
    Calls Try.prog 145 #[v, .int .i64 i, .int .i64 k] w (BoolTo ((allPr (l.take i) ++ l[i].2.take k).any (fun x => sameS x l[i].2[k])) w) := by
  have hB := h
  obtain ⟨av, cap, rfl, hlc, hm, -⟩ := h
  have hm := hm.1
  unfold maxLen at hm
  obtain ⟨av2, cap2, e2, -, -, hx⟩ := id hB
  cases e2
  obtain ⟨b, o, rfl, hBb, hx⟩ := hx (by rintro rfl; cases hi)
  obtain ⟨-, sv, c1, hs⟩ := hx i hi
  obtain ⟨asv, cs, rfl, hsc, hms, hy⟩ := hs
  obtain ⟨b3, o3, rfl, hB3, hy⟩ := hy (by intro h; rw [h] at hk; cases hk)
  obtain ⟨d0, -⟩ := hy k hk
  rw [Nat.mul_one] at d0
  have hms := hms.1
  unfold maxLen at hms
  have HI := Lib.hid (show ∀ w', Below w.heap.size w w' → w'.cell? ⟨b, o + i * 2 + 1, none⟩ = some (.slice (some ⟨b3, o3, none⟩) l[i].2.length cs) ∧ w'.cell? ⟨b3, o3 + k, none⟩ = some (.string l[i].2[k]) from fun w' h => ⟨(h.cell (p := ⟨b, _, none⟩) hBb).trans c1, (h.cell (p := ⟨b3, _, none⟩) hB3).trans d0⟩)
  have HL := Lib.hid (fun a (ha : a < l.length) => hx a ha)
  have HP := Lib.hid (fun a (ha : a < l.length) p => allPr_any l a ha p)
  have HPz := Lib.hid (show ∀ p, (allPr (l.take 0)).any p = false from fun p => rfl)
  obtain ⟨ps, hps⟩ : ∃ ps, ps = l[i].2 := ⟨_, rfl⟩
  have Hps := Lib.hid hps
  obtain ⟨q, hq⟩ : ∃ q, q = l[i].2[k] := ⟨_, rfl⟩
  rw [← hq] at HI ⊢
  have hki : k < ps.length := by rw [hps]; exact hk
  have hlen : l[i].2.length = ps.length := by rw [hps]
  rw [hlen] at HI hsc
  rw [← hps]
  clear hx hy c1 d0 hq hps hlen hk
  have hi0 : (0 : Int) ≤ (i : Int) := Int.natCast_nonneg _
  have hi1 : (i : Int) < (l.length : Int) := by omega
  have hk0 : (0 : Int) ≤ (k : Int) := Int.natCast_nonneg _
  have hk1 : (k : Int) < (ps.length : Int) := by omega
  go_enter Try.func145, Try.ntmps145
  go_wp2_with fail
  go_loopw [7] (fun x wr => ∃ a : Nat, a ≤ i + 1 ∧ x = .int .i64 a ∧ (a ≤ i → (allPr (l.take a)).any (fun x => sameS x q) = false) ∧ (i < a → (allPr (l.take i) ++ ps.take k).any (fun x => sameS x q) = false) ∧ Below w.heap.size w wr) (fun x _ => i + 1 - (intOf x).toNat)
  case atStart => exact ⟨0, by omega, rfl, fun _ => HPz.out _, fun h => by omega, Below.refl _ _⟩
  case round =>
    obtain ⟨a, ha, rfl, hn, hn2, hb⟩ := hrel
    obtain ⟨wq, rfl⟩ : ∃ wq : World, wq = wr := ⟨_, rfl⟩
    have Hn := Lib.hid hn
    have Hn2 := Lib.hid hn2
    clear hn hn2
    by_cases hai2 : a ≤ i
    · have Hn := Lib.hid (Hn.out hai2)
      have hal : a < l.length := by omega
      have ha0 : (0 : Int) ≤ (a : Int) := Int.natCast_nonneg _
      have ha1 : (a : Int) < (l.length : Int) := by omega
      have ha2 : (a : Int) ≤ (i : Int) := by omega
      obtain ⟨-, sa, e1, hsa⟩ := HL.out a hal
      have hsa0 := hsa
      obtain ⟨aa, ca, rfl, hca, hma, -⟩ := hsa0
      have hma := hma.1
      unfold maxLen at hma
      have He := Lib.hid (show ∀ w', Below w.heap.size w w' → w'.cell? ⟨b, o + a * 2 + 1, none⟩ = some (.slice aa l[a].2.length ca) from fun w' h => (h.cell (p := ⟨b, _, none⟩) hBb).trans e1)
      have HPa := Lib.hid (HP.out a hal)
      have Hmem := Lib.hid (show a < i → ∀ c (hc : c < l[a].2.length), sameS l[a].2[c] q = true → (allPr (l.take i)).any (fun x => sameS x q) = true from fun h c hc hq => by
        refine List.any_eq_true.2 ⟨l[a].2[c], List.mem_flatMap.2 ⟨l[a], List.mem_take_iff_getElem.2 ⟨a, by omega, rfl⟩, List.getElem_mem hc⟩, hq⟩)
      obtain ⟨pa, hpa⟩ : ∃ pa, pa = l[a].2 := ⟨_, rfl⟩
      have Hpe := Lib.hid (show a = i → pa = ps from fun h => by subst h; rw [hpa, Hps.out])
      rw [← hpa] at He HPa hsa hca
      have Hmem := Lib.hid (show a < i → ∀ c (hc : c < pa.length), sameS pa[c] q = true → (allPr (l.take i)).any (fun x => sameS x q) = true by
        intro h c hc hq
        subst hpa
        exact Hmem.out h c hc hq)
      clear e1 hpa
      go_wp2_with fail
      go_loopw [8] (fun x wr => ∃ c : Nat, c ≤ pa.length ∧ (a = i → c ≤ k) ∧ x = .int .i64 c ∧ (pa.take c).any (fun x => sameS x q) = false ∧ Below w.heap.size w wr) (fun x _ => pa.length - (intOf x).toNat)
      case atStart => exact ⟨0, Nat.zero_le _, fun _ => Nat.zero_le _, rfl, rfl, hb⟩
      case round =>
        obtain ⟨c, hc, hck, rfl, hn, hbi⟩ := hrel
        have Hnc := Lib.hid hn
        clear hn
        have e1 := He.out wr hbi
        obtain ⟨f0, f1⟩ := HI.out wr hbi
        by_cases hcl : c < pa.length
        · have hc0 : (0 : Int) ≤ (c : Int) := Int.natCast_nonneg _
          have hc1 : (c : Int) < (pa.length : Int) := by omega
          obtain ⟨av4, cap4, e4, -, -, hy⟩ := hsa.below hbi
          cases e4
          obtain ⟨b4, o4, rfl, hB4, hy⟩ := hy (by rintro rfl; cases hcl)
          obtain ⟨d0, -⟩ := hy c hcl
          rw [Nat.mul_one] at d0
          have HF := Lib.hid (fun h2 => any_take_false (p := fun x => sameS x q) hcl Hnc.out h2)
          have HM := Lib.hid (fun h => Hmem.out h c hcl)
          have HTk := Lib.hid (show a = i → c < k → sameS pa[c] q = true → (ps.take k).any (fun x => sameS x q) = true from fun h h1 h2 => by
            have hp := Hpe.out h
            subst hp
            exact any_take_hit (p := fun x => sameS x q) hcl h1 h2)
          have HTf := Lib.hid (show a = i → c = k → (ps.take k).any (fun x => sameS x q) = false from fun h h1 => by
            have hp := Hpe.out h
            subst hp; subst h1
            exact Hnc.out)
          clear hy
          generalize pa[c] = z at *
          have hsz : sameS z q = (z.toList == q.toList) := rfl
          by_cases hbr : a = i ∧ c = k
          · obtain ⟨h1, h2⟩ := hbr
            have HE := Lib.hid (show (allPr (l.take i) ++ ps.take k).any (fun x => sameS x q) = false by rw [List.any_append, HTf.out h1 h2, ← h1, Hn.out]; rfl)
            have j1 : ((a : Int) == (i : Int)) = true := beq_iff_eq.2 (by omega)
            have j2 : (k : Int) ≤ (c : Int) := by omega
            clear hsz
            go_wp2
            exact ⟨⟨a + 1, by omega, by go_num, fun h => by omega, fun _ => HE.out, hbi⟩, by simp [intOf]; omega⟩
          · have hcase : a < i ∨ (a = i ∧ c < k) := by
              rcases Nat.lt_or_ge a i with h | h
              · exact Or.inl h
              · have : a = i := by omega
                exact Or.inr ⟨this, by have := hck this; omega⟩
            cases hE : (z.toList == q.toList) with
            | true =>
              have HE := Lib.hid (show (allPr (l.take i) ++ ps.take k).any (fun x => sameS x q) = true by
                rw [List.any_append]
                rcases hcase with h | ⟨h1, h2⟩
                · rw [HM.out h (hsz.trans hE)]; rfl
                · rw [HTk.out h1 h2 (hsz.trans hE), Bool.or_true])
              clear hsz hbr
              rcases hcase with h | ⟨h1, h2⟩
              · have j1 : ((a : Int) == (i : Int)) = false := beq_eq_false_iff_ne.2 (by omega)
                go_upto_region 8 with (fail)
                go_big_quiet (fail)
                go_wp2
                go_ret
                exact ⟨ret_bool (by first | exact HE.out.symm | (rw [← List.any_append]; exact HE.out.symm)), below_drewN5 hbi _⟩
              · have j1 : ((a : Int) == (i : Int)) = true := beq_iff_eq.2 (by omega)
                have j2 : ¬ (k : Int) ≤ (c : Int) := by omega
                clear h1
                go_upto_region 8 with (fail)
                go_big_quiet (fail)
                go_wp2
                go_ret
                exact ⟨ret_bool (by first | exact HE.out.symm | (rw [← List.any_append]; exact HE.out.symm)), below_drewN5 hbi _⟩
            | false =>
              have HE := Lib.hid (HF.out (hsz.trans hE))
              clear hsz hbr
              rcases hcase with h | ⟨h1, h2⟩
              · have j1 : ((a : Int) == (i : Int)) = false := beq_eq_false_iff_ne.2 (by omega)
                go_upto_region 8 with (fail)
                go_big_quiet (fail)
                go_wp2
                exact ⟨⟨c + 1, by omega, fun h => by omega, by go_num, HE.out, below_drewN5 hbi _⟩, by simp [intOf]; omega⟩
              · have j1 : ((a : Int) == (i : Int)) = true := beq_iff_eq.2 (by omega)
                have j2 : ¬ (k : Int) ≤ (c : Int) := by omega
                clear h1
                go_upto_region 8 with (fail)
                go_big_quiet (fail)
                go_wp2
                exact ⟨⟨c + 1, by omega, fun _ => by omega, by go_num, HE.out, below_drewN5 hbi _⟩, by simp [intOf]; omega⟩
        · have hai : a < i := by
            rcases Nat.lt_or_ge a i with h | h
            · exact h
            · exfalso
              have h1 : a = i := by omega
              have h2 := hck h1
              have h3 := Hpe.out h1
              rw [h3] at hcl
              omega
          have HE := Lib.hid (show (allPr (l.take (a + 1))).any (fun x => sameS x q) = false by rw [HPa.out, Hn.out, any_end (by omega) Hnc.out]; rfl)
          have hc1 : ¬ (c : Int) < (pa.length : Int) := by omega
          go_wp2
          exact ⟨⟨a + 1, by omega, by go_num, fun _ => HE.out, fun h => by omega, hbi⟩, by simp [intOf]; omega⟩
    · have HE := Lib.hid (Hn2.out (by omega))
      have ha2 : ¬ (a : Int) ≤ (i : Int) := by omega
      go_wp2
      go_ret
      exact ⟨ret_bool (by first | exact HE.out.symm | (rw [← List.any_append]; exact HE.out.symm)), hb⟩
end Go.Proofs.Ytnekgkmlodeckaa

namespace Go.Proofs.Ytnekgkmlodeckaa
open Go.RowKit

set_option maxRecDepth 100000 in
set_option maxHeartbeats 6400000 in
theorem rzone_calls (v : Value) (l : List Zn) (i : Nat) (w : World) (h : ZnsAt w v l) (hi : i < l.length) :
    Calls Try.prog 124 #[v, .int .i64 i] w (IntTo (zoneE (l.take i) l[i]) w) := by
  have hB := h
  obtain ⟨av, cap, rfl, hlc, hm, -⟩ := h
  have hm := hm.1
  unfold maxLen at hm
  obtain ⟨av2, cap2, e2, -, -, hx⟩ := id hB
  cases e2
  obtain ⟨b, o, rfl, hBb, hx⟩ := hx (by rintro rfl; cases hi)
  obtain ⟨⟨c0, s0⟩, sv, c1, hs⟩ := hx i hi
  have HL := Lib.hid (show ∀ w', Below w.heap.size w w' → ∀ j (hj : j < l.length), w'.cell? ⟨b, o + j * 2, none⟩ = some (.string l[j].1) from fun w' h j hj => (h.cell (p := ⟨b, _, none⟩) hBb).trans (hx j hj).1.1)
  obtain ⟨z, hz⟩ : ∃ z, z = l[i] := ⟨_, rfl⟩
  have HEa := Lib.hid (show ∀ k (hk : k < z.2.length) w1, Below w.heap.size w w1 → Calls Try.prog 145 #[.slice (some ⟨b, o, none⟩) l.length cap, .int .i64 i, .int .i64 k] w1 (BoolTo ((allPr (l.take i) ++ z.2.take k).any (fun x => sameS x z.2[k])) w1) from fun k hk w1 hb => by subst hz; exact earlier_calls _ l i k w1 (hB.below hb) hi hk)
  rw [← hz] at c0 s0 hs ⊢
  have HAH := Lib.hid (fun j (hj : j < l.length) (hji : j < i) (hp : sameS l[j].1 z.1 = true) => any_take_hit (p := fun x : Zn => sameS x.1 z.1) hj hji hp)
  have HAF := Lib.hid (fun j (hj : j < l.length) (h1 : (l.take j).any (fun x => sameS x.1 z.1) = false) (h2 : sameS l[j].1 z.1 = false) => any_take_false (p := fun x : Zn => sameS x.1 z.1) hj h1 h2)
  clear hx hz
  obtain ⟨nm, ps⟩ := z
  dsimp only at HEa c0 s0 c1 hs HAH HAF
  have hs0 := hs
  obtain ⟨asv, cs, rfl, hsc, hms, -⟩ := hs0
  have hms := hms.1
  unfold maxLen at hms
  have HbE := Lib.hid (show zoneE (l.take i) (nm, ps) = if isName nm = false then 8 else if (l.take i).any (fun x => sameS x.1 nm) = true then 10 else if ps.length = 0 then 8 else if 64 < ps.length then 5 else prefsE (allPr (l.take i)) ps from rfl)
  generalize zoneE (l.take i) (nm, ps) = E at *
  obtain ⟨seen, hseen⟩ : ∃ seen, seen = allPr (l.take i) := ⟨_, rfl⟩
  rw [← hseen] at HEa HbE
  clear hseen
  obtain ⟨X, hX⟩ : ∃ X, X = w.alloc (Obj.cells #[Value.string nm, .slice asv ps.length cs] 83) := ⟨_, rfl⟩
  have hwX : Below w.heap.size w X := by rw [hX]; exact (Below.refl _ _).alloc (Nat.le_refl _) _
  have hzX : w.heap.size < X.heap.size := by rw [hX]; simp
  have rX : X.heap[w.heap.size]? = some (Obj.cells #[Value.string nm, .slice asv ps.length cs] 83) := by rw [hX]; exact heap_alloc_new _ _
  have HM := Lib.hid (show ∀ w', Below X.heap.size X w' → w'.cell? ⟨w.heap.size, 0, none⟩ = some (.string nm) ∧ w'.cell? ⟨w.heap.size, 1, none⟩ = some (.slice asv ps.length cs) from fun w' hb => by
    have q := (hb.block _ hzX).trans rX
    exact ⟨cell_of_row w' _ 0 _ _ _ q, cell_of_row w' _ 1 _ _ _ q⟩)
  have HX := Lib.hid hX
  have HwX := Lib.hid hwX
  have hi0 : (0 : Int) ≤ (i : Int) := Int.natCast_nonneg _
  have hi1 : (i : Int) < (l.length : Int) := by omega
  have HNm := Lib.hid (r5name_calls nm X s0)
  clear hX rX hwX
  obtain ⟨y0, y1⟩ := HM.out X (Below.refl _ _)
  go_enter Try.func124, Try.ntmps124
  go_upto_region 2 with (fail)
  rw [← HX.out]
  clear c0 c1
  cases hN : isName nm with
  | false =>
    have HE := Lib.hid (HbE.out.trans (if_pos hN))
    rw [hN] at HNm
    clear hN
    go_wp2_with fail
    refine HNm.out.mono ?_
    rintro e w2 ⟨rfl, hb2⟩
    go_wp2
    go_ret
    exact ⟨ret_int HE.out.symm, HwX.out.trans (hb2.mono HwX.out.size)⟩
  | true =>
    have HbE := Lib.hid (HbE.out.trans (if_neg (by rw [hN]; decide)))
    rw [hN] at HNm
    clear hN
    go_wp2_with fail
    refine HNm.out.mono ?_
    rintro e w2 ⟨rfl, hb2⟩
    clear y0 y1
    go_wp2_with fail
    go_loopw [6] (fun x wr => ∃ j : Nat, j ≤ i ∧ x = .int .i64 j ∧ (l.take j).any (fun x => sameS x.1 nm) = false ∧ Below X.heap.size X wr) (fun x _ => i - (intOf x).toNat)
    case atStart => exact ⟨0, Nat.zero_le _, rfl, rfl, hb2⟩
    case round =>
      obtain ⟨j, hj, rfl, ha, hb⟩ := hrel
      have Ha := Lib.hid ha
      clear ha
      have Hbw := Lib.hid (HwX.out.trans (hb.mono HwX.out.size))
      obtain ⟨y0, y1⟩ := HM.out wr hb
      by_cases hji : j < i
      · have hjl : j < l.length := by omega
        have d0 := HL.out wr Hbw.out j hjl
        have hj0 : (0 : Int) ≤ (j : Int) := Int.natCast_nonneg _
        have hj1 : (j : Int) < (l.length : Int) := by omega
        have hj2 : (j : Int) < (i : Int) := by omega
        have HF := Lib.hid (fun h2 => HAF.out j hjl Ha.out h2)
        have HT := Lib.hid (fun h2 => HAH.out j hjl hji h2)
        generalize l[j] = z at *
        obtain ⟨zn, zs⟩ := z
        dsimp only at d0 HF HT
        have hsame : sameS zn nm = (zn.toList == nm.toList) := rfl
        cases hE : (zn.toList == nm.toList) with
        | true =>
          have HE := Lib.hid (HbE.out.trans (if_pos (HT.out (hsame.trans hE))))
          clear hsame HF HT
          go_upto_region 7 with (fail)
          go_big_quiet (fail)
          go_wp2
          go_ret
          exact ⟨ret_int HE.out.symm, below_drewN5 Hbw.out _⟩
        | false =>
          have HE := Lib.hid (HF.out (hsame.trans hE))
          clear hsame HF HT
          go_upto_region 7 with (fail)
          go_big_quiet (fail)
          go_wp2
          exact ⟨⟨j + 1, by omega, by go_num, HE.out, below_drewN5 hb _⟩, by simp [intOf]; omega⟩
      · have hje : j = i := by omega
        have hj2 : ¬ (j : Int) < (i : Int) := by omega
        have Ha := Lib.hid (show (l.take i).any (fun x => sameS x.1 nm) = false by rw [← hje]; exact Ha.out)
        have HbE := Lib.hid (HbE.out.trans (if_neg (by rw [Ha.out]; decide)))
        clear hje
        by_cases h0 : ps.length = 0
        · have hz0 : ((ps.length : Int) == 0) = true := beq_iff_eq.2 (by omega)
          have HE := Lib.hid (HbE.out.trans (if_pos h0))
          clear h0
          go_wp2
          go_ret
          exact ⟨ret_int HE.out.symm, Hbw.out⟩
        · have hz0 : ((ps.length : Int) == 0) = false := beq_eq_false_iff_ne.2 (by omega)
          have HbE := Lib.hid (HbE.out.trans (if_neg h0))
          by_cases h64 : 64 < ps.length
          · have h64' : (64 : Int) < (ps.length : Int) := by omega
            have HE := Lib.hid (HbE.out.trans (if_pos h64))
            clear h0
            go_wp2
            go_ret
            exact ⟨ret_int HE.out.symm, Hbw.out⟩
          · have h64' : ¬ (64 : Int) < (ps.length : Int) := by omega
            have HbE := Lib.hid (HbE.out.trans (if_neg h64))
            clear h0
            go_wp2_with fail
            clear y0 y1
            go_loopw [7] (fun x wr => ∃ k : Nat, k ≤ ps.length ∧ x = .int .i64 k ∧ E = prefsE (seen ++ ps.take k) (ps.drop k) ∧ Below X.heap.size X wr) (fun x _ => ps.length - (intOf x).toNat)
            case atStart => exact ⟨0, Nat.zero_le _, rfl, by rw [HbE.out]; simp, hb⟩
            case round =>
              obtain ⟨k, hk, rfl, hn, hbi⟩ := hrel
              have Hn := Lib.hid hn
              clear hn
              have Hbwi := Lib.hid (HwX.out.trans (hbi.mono HwX.out.size))
              obtain ⟨y0, y1⟩ := HM.out wr hbi
              by_cases hkl : k < ps.length
              · have Hst := Lib.hid (Hn.out.trans (prefsE_step seen ps k hkl))
                have HEk := Lib.hid (fun w1 hb => HEa.out k hkl w1 hb)
                obtain ⟨av4, cap4, e4, -, -, hy⟩ := hs.below Hbwi.out
                cases e4
                obtain ⟨b4, o4, rfl, hB4, hy⟩ := hy (by rintro rfl; cases hkl)
                obtain ⟨d0, ds⟩ := hy k hkl
                rw [Nat.mul_one] at d0
                have hk0 : (0 : Int) ≤ (k : Int) := Int.natCast_nonneg _
                have hk1 : (k : Int) < (ps.length : Int) := by omega
                clear hy
                generalize ps[k] = q at *
                generalize (seen ++ ps.take k).any (fun x => sameS x q) = an at *
                have HV := Lib.hid (fun w1 => r2valid_calls q w1 ds)
                cases hg : isNum q with
                | false =>
                  rw [hg] at HV
                  have HE := Lib.hid (Hst.out.trans (if_pos hg))
                  clear hg
                  go_wp2_with fail
                  refine (HV.out wr).mono ?_
                  rintro e w3 ⟨rfl, rfl⟩
                  go_wp2
                  go_ret
                  exact ⟨ret_int HE.out.symm, Hbwi.out⟩
                | true =>
                  rw [hg] at HV
                  have Hst := Lib.hid (Hst.out.trans (if_neg (by rw [hg]; decide)))
                  clear hg
                  cases an with
                  | true =>
                    have HE := Lib.hid (Hst.out.trans (if_pos rfl))
                    go_wp2_with fail
                    refine (HV.out wr).mono ?_
                    rintro e w3 ⟨rfl, rfl⟩
                    go_wp2_with fail
                    refine (HEk.out wr Hbwi.out).mono ?_
                    rintro e w4 ⟨rfl, hb4⟩
                    go_wp2
                    go_ret
                    exact ⟨ret_int HE.out.symm, Hbwi.out.trans (hb4.mono Hbwi.out.size)⟩
                  | false =>
                    have HE := Lib.hid (Hst.out.trans (if_neg (by decide)))
                    go_wp2_with fail
                    refine (HV.out wr).mono ?_
                    rintro e w3 ⟨rfl, rfl⟩
                    go_wp2_with fail
                    refine (HEk.out wr Hbwi.out).mono ?_
                    rintro e w4 ⟨rfl, hb4⟩
                    have hb5 := hbi.trans (hb4.mono hbi.size)
                    go_wp2
                    exact ⟨⟨k + 1, by omega, by go_num, HE.out, hb5⟩, by simp [intOf]; omega⟩
              · have HE := Lib.hid (Hn.out.trans (prefsE_end seen ps k (by omega)))
                go_wp2
                go_ret
                exact ⟨ret_int HE.out.symm, Hbwi.out⟩

set_option maxRecDepth 100000 in
set_option maxHeartbeats 3200000 in
theorem rzcheck_calls (v : Value) (l : List Zn) (w : World) (h : ZnsAt w v l) :
    Calls Try.prog 87 #[v] w (IntTo (checkZ l) w) := by
  have hB := h
  have HZ := Lib.hid (fun k (hk : k < l.length) w1 (hb : Below w.heap.size w w1) => rzone_calls v l k w1 (hB.below hb) hk)
  obtain ⟨av, cap, rfl, hlc, hm, -⟩ := h
  have hm := hm.1
  unfold maxLen at hm
  by_cases h64 : 64 < l.length
  · have HE := Lib.hid (show checkZ l = 5 from if_pos h64)
    have h64' : (64 : Int) < (l.length : Int) := by omega
    go_enter Try.func87, Try.ntmps87
    go_wp2
    go_ret
    exact ⟨ret_int HE.out.symm, Below.refl _ _⟩
  · have HE0 := Lib.hid (show checkZ l = zonesE6 (l.take 0) (l.drop 0) from if_neg h64)
    have h64' : ¬ (64 : Int) < (l.length : Int) := by omega
    go_enter Try.func87, Try.ntmps87
    go_wp2_with fail
    go_loopw [3, 4] (fun x _ wr => ∃ k : Nat, k ≤ l.length ∧ x = .int .i64 k ∧ checkZ l = zonesE6 (l.take k) (l.drop k) ∧ Below w.heap.size w wr) (fun x _ _ => l.length - (intOf x).toNat)
    case atStart => exact ⟨0, Nat.zero_le _, rfl, HE0.out, Below.refl _ _⟩
    case round =>
      obtain ⟨k, hk, rfl, hn, hb⟩ := hrel
      have Hn := Lib.hid hn
      clear hn
      by_cases hlt : k < l.length
      · have Hst := Lib.hid (Hn.out.trans (zonesE6_step l k hlt))
        have HZk := Lib.hid (HZ.out k hlt wr hb)
        have hk1 : (k : Int) < (l.length : Int) := by omega
        generalize zoneE (l.take k) l[k] = E at *
        by_cases hz : E = 0
        · have HE := Lib.hid (Hst.out.trans (if_neg (not_not_intro hz)))
          rw [hz] at HZk
          clear hz
          go_wp2_with fail
          refine HZk.out.mono ?_
          rintro e w2 ⟨rfl, hb2⟩
          have hb3 := hb.trans (hb2.mono hb.size)
          go_wp2
          exact ⟨⟨k + 1, by omega, by go_num, HE.out, hb3⟩, by simp [intOf]; omega⟩
        · have HE := Lib.hid (Hst.out.trans (if_pos hz))
          have hz2 : (E != 0) = true := bne_iff_ne.2 hz
          clear hz
          go_wp2_with fail
          refine HZk.out.mono ?_
          rintro e w2 ⟨rfl, hb2⟩
          have hb3 := hb.trans (hb2.mono hb.size)
          go_wp2
          go_ret
          exact ⟨ret_int HE.out.symm, hb3⟩
      · have HE := Lib.hid (Hn.out.trans (zonesE6_end l k (by omega)))
        go_wp2
        go_ret
        exact ⟨ret_int HE.out.symm, hb⟩
end Go.Proofs.Ytnekgkmlodeckaa
