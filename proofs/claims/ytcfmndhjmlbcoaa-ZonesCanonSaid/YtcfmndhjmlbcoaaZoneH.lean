/-
  The walks of the reference's HasPrefix, find and Find of zones.
-/
import Derived.Test.YtcfmndhjmlbcoaaZoneG
namespace Go.Proofs.Ytcfmndhjmlbcoaa
open Go.RowKit Go.Maps

/-- Does a text begin with another one? -/
def begP (s p : ByteArray) : Bool := decide (p.size ≤ s.size) && sameS (s.extract 0 p.size) p
/-- The value of the first longest key that a text begins with, and its length. -/
def bestP (s : ByteArray) (L : List (ByteArray × ByteArray)) : ByteArray × Nat := L.foldl (fun a x => if a.2 < x.1.size ∧ begP s x.1 = true then (x.2, x.1.size) else a) (ByteArray.empty, 0)
theorem bestP_snoc (s : ByteArray) (L : List (ByteArray × ByteArray)) (x : ByteArray × ByteArray) : bestP s (L ++ [x]) = if (bestP s L).2 < x.1.size ∧ begP s x.1 = true then (x.2, x.1.size) else bestP s L := by
  unfold bestP
  rw [List.foldl_append]
  rfl

set_option maxHeartbeats 800000 in
theorem hasprefix_calls (s p : ByteArray) (w : World) : Calls Try.prog 43 #[.string s, .string p] w fun e w' => e = .returned (.bool (begP s p)) ∧ w = w' := by
  have HB := Lib.hid (show begP s p = (decide (p.size ≤ s.size) && ((s.extract 0 p.size).toList == p.toList)) from rfl)
  by_cases h : p.size ≤ s.size
  · have h' : (p.size : Int) ≤ (s.size : Int) := by omega
    have HB := Lib.hid (HB.out.trans (by rw [decide_eq_true h]; rfl) : begP s p = ((s.extract 0 p.size).toList == p.toList))
    go_enter Try.func43, Try.ntmps43
    go_wp2
    go_ret
    exact ⟨ret_bool HB.out.symm, rfl⟩
  · have h' : ¬ (p.size : Int) ≤ (s.size : Int) := by omega
    have HB := Lib.hid (HB.out.trans (by rw [decide_eq_false h]; rfl) : begP s p = false)
    go_enter Try.func43, Try.ntmps43
    go_wp2
    go_ret
    exact ⟨ret_bool HB.out.symm, rfl⟩

set_option maxRecDepth 100000 in
set_option maxHeartbeats 6400000 in
theorem rfind_calls (v : Value) (l : List Zn) (s : ByteArray) (w : World) (h : ZnsAt w v l) :
    Calls Try.prog 66 #[v, .string s] w fun e w' => e = .returned (.string (bestP s (prs l)).1) ∧ w = w' := by
  have hB := h
  obtain ⟨av, cap, rfl, hlc, hm, -⟩ := h
  have hm := hm.1
  unfold maxLen at hm
  go_enter Try.func66, Try.ntmps66
  go_wp2_with fail
  go_loop [5, 6, 7] (fun a n x => ∃ i : Nat, i ≤ l.length ∧ x = .int .i64 i ∧ a = .string (bestP s (prs (l.take i))).1 ∧ n = .int .i64 (bestP s (prs (l.take i))).2) (fun _ _ x => l.length - (intOf x).toNat)
  case atStart => exact ⟨0, Nat.zero_le _, rfl, rfl, rfl⟩
  case round =>
    obtain ⟨i, hi, rfl, rfl, rfl⟩ := hrel
    by_cases hlt : i < l.length
    · have HPT := Lib.hid (prs_take l i hlt)
      obtain ⟨av2, cap2, e2, -, -, hx⟩ := id hB
      cases e2
      obtain ⟨b, o, rfl, hBb, hx⟩ := hx (by rintro rfl; cases hlt)
      obtain ⟨⟨c0, s0⟩, sv, c1, hsl⟩ := hx i hlt
      have hi0 : (0 : Int) ≤ (i : Int) := Int.natCast_nonneg _
      have hi1 : (i : Int) < (l.length : Int) := by omega
      clear hx
      generalize l[i] = y at *
      obtain ⟨nm, ps⟩ := y
      dsimp only at c0 c1 hsl s0 HPT
      have hs0 := hsl
      obtain ⟨asv, cs, rfl, hsc, hms, -⟩ := hs0
      have hms := hms.1
      unfold maxLen at hms
      obtain ⟨PR, hPR⟩ : ∃ PR, PR = prs (l.take i) := ⟨_, rfl⟩
      rw [← hPR] at HPT ⊢
      clear hPR
      go_wp2_with fail
      go_loop [5, 6, 8] (fun a n x => ∃ k : Nat, k ≤ ps.length ∧ x = .int .i64 k ∧ a = .string (bestP s (PR ++ (ps.take k).map fun p => (p, nm))).1 ∧ n = .int .i64 (bestP s (PR ++ (ps.take k).map fun p => (p, nm))).2) (fun _ _ x => ps.length - (intOf x).toNat)
      case atStart => exact ⟨0, Nat.zero_le _, rfl, by simp, by simp⟩
      case round =>
        obtain ⟨k, hk, rfl, rfl, rfl⟩ := hrel
        by_cases hkl : k < ps.length
        · have HS := Lib.hid (show bestP s (PR ++ (ps.take (k + 1)).map fun p => (p, nm)) = if (bestP s (PR ++ (ps.take k).map fun p => (p, nm))).2 < ps[k].size ∧ begP s ps[k] = true then (nm, ps[k].size) else bestP s (PR ++ (ps.take k).map fun p => (p, nm)) by
            rw [List.take_succ_eq_append_getElem hkl, List.map_append, ← List.append_assoc]; exact bestP_snoc _ _ _)
          obtain ⟨av4, cap4, e4, -, -, hy⟩ := id hsl
          cases e4
          obtain ⟨b4, o4, rfl, hB4, hy⟩ := hy (by rintro rfl; cases hkl)
          obtain ⟨d0, ds⟩ := hy k hkl
          rw [Nat.mul_one] at d0
          have hk0 : (0 : Int) ≤ (k : Int) := Int.natCast_nonneg _
          have hk1 : (k : Int) < (ps.length : Int) := by omega
          clear hy
          generalize ps[k] = q at *
          generalize bestP s (PR ++ (ps.take k).map fun p => (p, nm)) = A at *
          obtain ⟨a, n⟩ := A
          dsimp only at HS ⊢
          have HV := Lib.hid (fun w1 => hasprefix_calls s q w1)
          have hdq := ds
          unfold maxLen at hdq
          by_cases hn : n < q.size
          · have hn' : (n : Int) < (q.size : Int) := by omega
            cases hg : begP s q with
            | true =>
              rw [hg] at HV
              have HE := Lib.hid (HS.out.trans (if_pos ⟨hn, hg⟩))
              clear hg
              go_wp2_with fail
              refine (HV.out w).mono ?_
              rintro e w4 ⟨rfl, rfl⟩
              go_wp2
              exact ⟨⟨k + 1, by omega, by go_num, by rw [HE.out], by rw [HE.out]⟩, by simp [intOf]; omega⟩
            | false =>
              rw [hg] at HV
              have HE := Lib.hid (HS.out.trans (if_neg (fun h => by rw [hg] at h; cases h.2)))
              clear hg
              go_wp2_with fail
              refine (HV.out w).mono ?_
              rintro e w4 ⟨rfl, rfl⟩
              go_wp2
              exact ⟨⟨k + 1, by omega, by go_num, by rw [HE.out], by rw [HE.out]⟩, by simp [intOf]; omega⟩
          · have hn' : ¬ (n : Int) < (q.size : Int) := by omega
            have HE := Lib.hid (HS.out.trans (if_neg (fun h => hn h.1)))
            go_wp2
            exact ⟨⟨k + 1, by omega, by go_num, by rw [HE.out], by rw [HE.out]⟩, by simp [intOf]; omega⟩
        · have HE := Lib.hid (show PR ++ (ps.take k).map (fun p => (p, nm)) = prs (l.take (i + 1)) by rw [HPT.out, List.take_of_length_le (by omega)])
          rw [HE.out]
          go_wp2
          exact ⟨⟨i + 1, by omega, by go_num, rfl, rfl⟩, by simp [intOf]; omega⟩
    · have HE := Lib.hid (show l.take i = l from List.take_of_length_le (by omega))
      rw [HE.out]
      go_wp2
      go_ret
      exact ⟨rfl, rfl⟩

/-- The specification's zone of a text. -/
def rfindZ (l : List Zn) (s : ByteArray) : ByteArray × Bool :=
  if checkZ l ≠ 0 then (ByteArray.empty, false) else if isNum s = false then (ByteArray.empty, false) else ((bestP s (prs l)).1, !(bestP s (prs l)).1.toList.isEmpty)

theorem rFind_calls (v : Value) (l : List Zn) (s : ByteArray) (w : World) (h : ZnsAt w v l) (hs : s.size ≤ maxLen) : Calls Try.prog 36 #[v, .string s] w (FoundTo (rfindZ l s) w) := by
  have Hi := Lib.hid (rzcheck_calls v l w h)
  have Hv := Lib.hid (fun w1 => r2valid_calls s w1 hs)
  have Hl := Lib.hid (fun w1 (hb : Below w.heap.size w w1) => rfind_calls v l s w1 (h.below hb))
  have HF := Lib.hid (show rfindZ l s = if checkZ l ≠ 0 then (ByteArray.empty, false) else if isNum s = false then (ByteArray.empty, false) else ((bestP s (prs l)).1, !(bestP s (prs l)).1.toList.isEmpty) from rfl)
  obtain ⟨av, cap, rfl, -, -, -⟩ := h
  generalize checkZ l = c at *
  by_cases hc : c = 0
  · subst hc
    have HF := Lib.hid (HF.out.trans (if_neg (by decide)))
    cases hg : isNum s with
    | false =>
      rw [hg] at Hv
      have HF := Lib.hid (HF.out.trans (if_pos hg))
      go_enter Try.func36, Try.ntmps36
      go_wp2_with fail
      refine Hi.out.mono ?_
      rintro e w2 ⟨rfl, hb⟩
      go_wp2_with fail
      refine (Hv.out w2).mono ?_
      rintro e w3 ⟨rfl, rfl⟩
      go_wp2
      go_ret2
      exact ⟨by rw [HF.out]; rfl, hb⟩
    | true =>
      rw [hg] at Hv
      have HG := Lib.hid (HF.out.trans (if_neg (by rw [hg]; decide)))
      go_enter Try.func36, Try.ntmps36
      go_wp2_with fail
      refine Hi.out.mono ?_
      rintro e w2 ⟨rfl, hb⟩
      go_wp2_with fail
      refine (Hv.out w2).mono ?_
      rintro e w3 ⟨rfl, rfl⟩
      go_wp2_with fail
      refine (Hl.out w2 hb).mono ?_
      rintro e w3 ⟨rfl, rfl⟩
      generalize bestP s (prs l) = B at *
      obtain ⟨nm, n⟩ := B
      go_wp2
      go_ret2
      exact ⟨by rw [HG.out]; rfl, hb⟩
  · have hz : (c != 0) = true := bne_iff_ne.2 hc
    have HF := Lib.hid (HF.out.trans (if_pos hc))
    go_enter Try.func36, Try.ntmps36
    go_wp2_with fail
    refine Hi.out.mono ?_
    rintro e w2 ⟨rfl, hb⟩
    go_wp2
    go_ret2
    exact ⟨by rw [HF.out]; rfl, hb⟩
end Go.Proofs.Ytcfmndhjmlbcoaa
