/-
  The law ZonesShorter: the longest beginning of a number, plainly; its walk.
-/
import Derived.Test.YtcfmndhjmlbcoaaZoneY
namespace Go.Proofs.Ytcfmndhjmlbcoaa
open Go.RowKit

/-- The first longest of texts that a text begins with. -/
def wantP (s : ByteArray) (K : List ByteArray) : ByteArray := K.foldl (fun a p => if a.size < p.size ∧ begP s p = true then p else a) ByteArray.empty
theorem wantP_snoc (s : ByteArray) (K : List ByteArray) (p : ByteArray) : wantP s (K ++ [p]) = if (wantP s K).size < p.size ∧ begP s p = true then p else wantP s K := by
  unfold wantP
  rw [List.foldl_append]
  rfl
theorem wantP_inv (s : ByteArray) (K : List ByteArray) : (∀ p ∈ K, begP s p = true → p.size ≤ (wantP s K).size) ∧ (wantP s K = ByteArray.empty ∨ (wantP s K ∈ K ∧ begP s (wantP s K) = true ∧ 0 < (wantP s K).size)) := by
  induction K using snocInd with
  | h0 => exact ⟨fun x hx => (by cases hx), Or.inl rfl⟩
  | h1 K y ih =>
    rw [wantP_snoc]
    by_cases h : (wantP s K).size < y.size ∧ begP s y = true
    · rw [if_pos h]
      refine ⟨fun x hx hb => ?_, Or.inr ⟨by simp, h.2, by omega⟩⟩
      rcases List.mem_append.1 hx with hx | hx
      · have := ih.1 x hx hb; omega
      · simp only [List.mem_singleton] at hx
        rw [hx]; exact Nat.le_refl _
    · rw [if_neg h]
      refine ⟨fun x hx hb => ?_, ?_⟩
      · rcases List.mem_append.1 hx with hx | hx
        · exact ih.1 x hx hb
        · simp only [List.mem_singleton] at hx
          rw [hx] at hb ⊢
          exact Nat.le_of_not_lt fun hl => h ⟨hl, hb⟩
      · rcases ih.2 with h2 | ⟨h2, h3⟩
        · exact Or.inl h2
        · exact Or.inr ⟨List.mem_append_left _ h2, h3⟩
theorem find_num {l : List Zn} {s : ByteArray} (hc : checkZ l = 0) (hs : isNum s = true) : findZ l s = longP (prs l) s s.size := by
  unfold findZ
  rw [if_neg (not_not_intro hc), if_neg (by rw [hs]; decide)]
theorem key_pr {l : List Zn} {p : ByteArray} : p ∈ allPr l ↔ ∃ nm, (p, nm) ∈ prs l := by
  rw [← prs_keys, List.mem_map]
  constructor
  · rintro ⟨x, hx, rfl⟩; exact ⟨x.2, hx⟩
  · rintro ⟨nm, h⟩; exact ⟨_, h, rfl⟩
theorem num_pr {l : List Zn} (hc : checkZ l = 0) {p : ByteArray} (hp : p ∈ allPr l) : isNum p = true := by
  obtain ⟨z, hz, hpz⟩ := List.mem_flatMap.1 hp
  exact ((checkZ_ok hc).2.1 z hz).2.2.2 p hpz
theorem short_none {l : List Zn} {s : ByteArray} (hc : checkZ l = 0) (hs : isNum s = true) (hw : wantP s (allPr l) = ByteArray.empty) : findZ l s = (ByteArray.empty, false) := by
  rw [find_num hc hs, longP_none]
  intro k h0 hk
  cases ha : (prs l).any (fun x => sameS x.1 (s.extract 0 k)) with
  | false => rfl
  | true =>
    obtain ⟨x, hx, hb, hz⟩ := any_beg hk ha
    have := (wantP_inv s (allPr l)).1 x.1 (key_pr.2 ⟨x.2, hx⟩) hb
    rw [hw] at this
    have e : ByteArray.empty.size = 0 := rfl
    omega
theorem short_some {l : List Zn} {s : ByteArray} (hc : checkZ l = 0) (hs : isNum s = true) (hw : wantP s (allPr l) ≠ ByteArray.empty) : (wantP s (allPr l)).size ≤ 15 ∧ ∃ nm, findZ l s = (nm, true) ∧ findZ l (wantP s (allPr l)) = (nm, true) := by
  obtain ⟨h1, h2⟩ := wantP_inv s (allPr l)
  obtain ⟨h3, h4, h5⟩ := h2.resolve_left hw
  generalize wantP s (allPr l) = W at *
  obtain ⟨nm, hm⟩ := key_pr.1 h3
  have hn := num_pr hc h3
  have hf := num_fits hn
  refine ⟨hf.2, nm, ?_, ?_⟩
  · obtain ⟨g1, g2⟩ := (begP_iff _ _).1 h4
    rw [find_num hc hs, longP_some (prs l) s W.size h5 (key_mem.2 ⟨nm, by rw [g2]; exact hm⟩) s.size g1 ?_, g2, valP_at _ (ok_keys hc) _ hm]
    intro k hk hks
    cases ha : (prs l).any (fun x => sameS x.1 (s.extract 0 k)) with
    | false => rfl
    | true =>
      obtain ⟨x, hx, hb, hz⟩ := any_beg hks ha
      have := h1 x.1 (key_pr.2 ⟨x.2, hx⟩) hb
      omega
  · obtain ⟨n, hz⟩ : ∃ n, W.size = n + 1 := ⟨W.size - 1, by omega⟩
    rw [find_num hc hn, hz, longP_hit (ok_keys hc) (by rw [← hz, take_all]) hm]

set_option maxRecDepth 100000 in
set_option maxHeartbeats 6400000 in
theorem shorter06_law (v : Value) (l : List Zn) (s : ByteArray) (w : World) (h : ZnsAt w v l) (hs : s.size ≤ maxLen) :
    Calls Try.prog 13 #[v, .string s] w fun e w' => e = .returned (.bool true) ∧ Below w.heap.size w w' := by
  have hB := h
  have HF := Lib.hid (zfew_calls v l w h)
  have HV := Lib.hid (r2valid_calls s w hs)
  have HC := Lib.hid (zcheck_calls v l w h)
  have HA := Lib.hid (fun t w1 (hb : Below w.heap.size w w1) (ht : t.size ≤ maxLen) => zfind_calls v l t w1 (h.below hb) ht)
  have HN := Lib.hid (fun hc hn hw => (short_none (l := l) (s := s) hc hn hw))
  have HS := Lib.hid (fun hc hn hw => (short_some (l := l) (s := s) hc hn hw))
  obtain ⟨av, cap, rfl, hlc, hm, -⟩ := h
  have hm := hm.1
  unfold maxLen at hm
  generalize checkZ l = c at *
  go_enter Try.func13, Try.ntmps13
  go_wp2_with fail
  refine HF.out.mono ?_
  rintro e w1 ⟨r, rfl, rfl⟩
  cases r with
  | false =>
    go_wp2_with fail
    refine (zawake_calls w).mono ?_
    rintro e w4 ⟨rfl, hb4⟩
    go_wp2
    go_ret
    exact ⟨rfl, hb4⟩
  | true =>
    cases hg : isNum s with
    | false =>
      rw [hg] at HV
      clear hg
      go_wp2_with fail
      refine HV.out.mono ?_
      rintro e w2 ⟨rfl, rfl⟩
      go_wp2_with fail
      refine (zawake_calls w).mono ?_
      rintro e w4 ⟨rfl, hb4⟩
      go_wp2
      go_ret
      exact ⟨rfl, hb4⟩
    | true =>
      rw [hg] at HV HN HS
      clear hg
      go_wp2_with fail
      refine HV.out.mono ?_
      rintro e w2 ⟨rfl, rfl⟩
      go_wp2_with fail
      refine HC.out.mono ?_
      rintro e w2 ⟨rfl, hb2⟩
      by_cases hc : c = 0
      · subst hc
        have HN2 := Lib.hid (HN.out (by first | rfl | trivial) (by first | rfl | trivial))
        have HS2 := Lib.hid (HS.out (by first | rfl | trivial) (by first | rfl | trivial))
        have hB2 := hB.below hb2
        clear hB
        go_wp2_with fail
        go_loop [5, 6] (fun a x => ∃ i : Nat, i ≤ l.length ∧ x = .int .i64 i ∧ a = .string (wantP s (allPr (l.take i)))) (fun _ x => l.length - (intOf x).toNat)
        case atStart => exact ⟨0, Nat.zero_le _, rfl, rfl⟩
        case round =>
          obtain ⟨i, hi, rfl, rfl⟩ := hrel
          by_cases hlt : i < l.length
          · have HPT := Lib.hid (allPr_take l i hlt)
            obtain ⟨av2, cap2, e2, -, -, hx⟩ := id hB2
            cases e2
            obtain ⟨b, o, rfl, hBb, hx⟩ := hx (by rintro rfl; cases hlt)
            obtain ⟨⟨c0, s0⟩, sv, c1, hsl⟩ := hx i hlt
            have hi0 : (0 : Int) ≤ (i : Int) := Int.natCast_nonneg _
            have hi1 : (i : Int) < (l.length : Int) := by omega
            clear hx
            generalize l[i] = y at *
            obtain ⟨nm, ps⟩ := y
            dsimp only at c0 c1 hsl s0 HPT
            have hs0 := hsl
            obtain ⟨asv, cs, rfl, hsc, hms, -⟩ := hs0
            have hms := hms.1
            unfold maxLen at hms
            obtain ⟨PR, hPR⟩ : ∃ PR, PR = allPr (l.take i) := ⟨_, rfl⟩
            rw [← hPR] at HPT ⊢
            clear hPR
            go_wp2_with fail
            go_loop [5, 7] (fun a x => ∃ k : Nat, k ≤ ps.length ∧ x = .int .i64 k ∧ a = .string (wantP s (PR ++ ps.take k))) (fun _ x => ps.length - (intOf x).toNat)
            case atStart => exact ⟨0, Nat.zero_le _, rfl, by simp⟩
            case round =>
              obtain ⟨k, hk, rfl, rfl⟩ := hrel
              by_cases hkl : k < ps.length
              · have HS1 := Lib.hid (show wantP s (PR ++ ps.take (k + 1)) = if (wantP s (PR ++ ps.take k)).size < ps[k].size ∧ begP s ps[k] = true then ps[k] else wantP s (PR ++ ps.take k) by
                  rw [List.take_succ_eq_append_getElem hkl, ← List.append_assoc]; exact wantP_snoc _ _ _)
                obtain ⟨av4, cap4, e4, -, -, hy⟩ := id hsl
                cases e4
                obtain ⟨b4, o4, rfl, hB4, hy⟩ := hy (by rintro rfl; cases hkl)
                obtain ⟨d0, ds⟩ := hy k hkl
                rw [Nat.mul_one] at d0
                have hk0 : (0 : Int) ≤ (k : Int) := Int.natCast_nonneg _
                have hk1 : (k : Int) < (ps.length : Int) := by omega
                clear hy
                generalize ps[k] = q at *
                generalize wantP s (PR ++ ps.take k) = A at *
                have HP := Lib.hid (fun w1 => hasprefix_calls s q w1)
                have hdq := ds
                unfold maxLen at hdq
                by_cases hn : A.size < q.size
                · have hn' : (A.size : Int) < (q.size : Int) := by omega
                  cases hg : begP s q with
                  | true =>
                    rw [hg] at HP
                    have HE := Lib.hid (HS1.out.trans (if_pos ⟨hn, hg⟩))
                    clear hg
                    go_wp2_with fail
                    refine (HP.out w2).mono ?_
                    rintro e w4 ⟨rfl, rfl⟩
                    go_wp2
                    exact ⟨⟨k + 1, by omega, by go_num, by rw [HE.out]⟩, by simp [intOf]; omega⟩
                  | false =>
                    rw [hg] at HP
                    have HE := Lib.hid (HS1.out.trans (if_neg (fun h => by rw [hg] at h; cases h.2)))
                    clear hg
                    go_wp2_with fail
                    refine (HP.out w2).mono ?_
                    rintro e w4 ⟨rfl, rfl⟩
                    go_wp2
                    exact ⟨⟨k + 1, by omega, by go_num, by rw [HE.out]⟩, by simp [intOf]; omega⟩
                · have hn' : ¬ (A.size : Int) < (q.size : Int) := by omega
                  have HE := Lib.hid (HS1.out.trans (if_neg (fun h => hn h.1)))
                  go_wp2
                  exact ⟨⟨k + 1, by omega, by go_num, by rw [HE.out]⟩, by simp [intOf]; omega⟩
              · have HE := Lib.hid (show PR ++ ps.take k = allPr (l.take (i + 1)) by rw [HPT.out, List.take_of_length_le (by omega)])
                rw [HE.out]
                go_wp2
                exact ⟨⟨i + 1, by omega, by go_num, rfl⟩, by simp [intOf]; omega⟩
          · have HE := Lib.hid (show l.take i = l from List.take_of_length_le (by omega))
            rw [HE.out]
            have HA1 := Lib.hid (HA.out s w2 hb2 hs)
            by_cases hw : wantP s (allPr l) = ByteArray.empty
            · rw [HN2.out hw] at HA1
              rw [hw]
              clear hw HN HS HN2 HS2
              go_wp2_with fail
              refine HA1.out.mono ?_
              rintro e w3 ⟨rfl, hb3⟩
              have hb3 := hb2.trans (hb3.mono hb2.size)
              go_wp2_with fail
              refine (zawake_calls w3).mono ?_
              rintro e w4 ⟨rfl, hb4⟩
              go_wp2
              go_ret
              exact ⟨rfl, hb3.trans (hb4.mono hb3.size)⟩
            · obtain ⟨hsz, nm, hf1, hf2⟩ := HS2.out hw
              have hne : (decide (wantP s (allPr l) = ByteArray.empty)) = false := decide_eq_false hw
              have hne2 : ((wantP s (allPr l)).toList == ([] : List UInt8)) = false := by
                cases h : ((wantP s (allPr l)).toList == ([] : List UInt8)) with
                | false => rfl
                | true =>
                  refine absurd ?_ hw
                  exact (sameS_iff _ _).1 (show sameS _ ByteArray.empty = true by unfold sameS; rw [Lib.toList_data ByteArray.empty]; exact h)
              rw [hf1] at HA1
              generalize wantP s (allPr l) = W at *
              have HA2 := Lib.hid (fun w1 hb1 => HA.out W w1 hb1 (by unfold maxLen; omega))
              rw [hf2] at HA2
              have e1 : (nm.toList == nm.toList) = true := beq_self_eq_true _
              clear hf1 hf2 hw HN HS HN2 HS2 HA
              go_wp2_with fail
              refine HA1.out.mono ?_
              rintro e w3 ⟨rfl, hb3⟩
              have hb3 := hb2.trans (hb3.mono hb2.size)
              have HA2 := Lib.hid (HA2.out w3 hb3)
              go_wp2_with fail
              refine HA2.out.mono ?_
              rintro e w4 ⟨rfl, hb4⟩
              have hb4 := hb3.trans (hb4.mono hb3.size)
              go_wp2_with fail
              refine (zawake_calls w4).mono ?_
              rintro e w5 ⟨rfl, hb5⟩
              go_wp2
              go_ret
              exact ⟨rfl, hb4.trans (hb5.mono hb4.size)⟩
      · have hz : (c != 0) = true := bne_iff_ne.2 hc
        go_wp2_with fail
        refine (zawake_calls w2).mono ?_
        rintro e w4 ⟨rfl, hb4⟩
        go_wp2
        go_ret
        exact ⟨rfl, hb2.trans (hb4.mono hb2.size)⟩
end Go.Proofs.Ytcfmndhjmlbcoaa
