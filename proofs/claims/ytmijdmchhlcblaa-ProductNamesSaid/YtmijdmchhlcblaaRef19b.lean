/-
  The walks of the reference's SamePriced (where all is equal) and Ascending.
-/
import Derived.Test.YtmijdmchhlcblaaRef19a
namespace Go.Proofs.Ytmijdmchhlcblaa
open Go.RowKit

set_option maxRecDepth 100000 in
set_option maxHeartbeats 1600000 in
theorem samePriced_calls (v1 v2 : Value) (N : List (Int × Int × Int)) (w : World) (h1 : PrsAt w v1 N) (h2 : PrsAt w v2 N) :
    Calls Try.prog 27 #[v1, v2] w fun e w' => e = .returned (.bool true) ∧ Below w.heap.size w w' := by
  have hh1 := h1
  have hh2 := h2
  obtain ⟨av1, cap1, rfl, hlc, hm, -⟩ := h1
  obtain ⟨av2, cap2, rfl, -, -, -⟩ := h2
  have hm := hm.1
  unfold maxLen at hm
  have hne : ((N.length : Int) != (N.length : Int)) = false := by simp
  go_enter Try.func27, Try.ntmps27
  go_wp2_with fail
  go_loopw [5] (fun i wr => ∃ k n : Nat, k ≤ N.length ∧ i = .int .i64 k ∧ wr = w.drewN n) (fun i _ => N.length - (intOf i).toNat)
  case atStart => exact ⟨0, 0, Nat.zero_le _, rfl, rfl⟩
  case round =>
    obtain ⟨k, n, hk, rfl, rfl⟩ := hrel
    by_cases hlt : k < N.length
    · obtain ⟨av', cap', e1, -, -, hx1⟩ := hh1
      obtain ⟨av2', cap2', e2, -, -, hx2⟩ := hh2
      cases e1
      cases e2
      obtain ⟨b1, o1, rfl, hB1, hx1⟩ := hx1 (by rintro rfl; cases hlt)
      obtain ⟨b2, o2, rfl, hB2, hx2⟩ := hx2 (by rintro rfl; cases hlt)
      obtain ⟨c0, c1, c2⟩ := hx1 k hlt
      obtain ⟨d0, d1, d2⟩ := hx2 k hlt
      have hk0 : (0 : Int) ≤ (k : Int) := Int.natCast_nonneg _
      have hk1 : (k : Int) < (N.length : Int) := by omega
      clear hx1 hx2
      generalize N[k] = x at *
      go_wp2_with fail
      go_quiet (fail)
      go_wp2
      exact ⟨⟨k + 1, _, by omega, by go_num, rfl⟩, by simp [intOf]; omega⟩
    · go_wp2
      go_ret
      exact ⟨rfl, below_drewN (Below.refl _ _) _⟩

theorem ascB_false {l : List Pd} {k : Nat} (h : k < l.length) (hf : ascAt l k = false) : ascB l = false := by
  unfold ascB
  rw [List.all_eq_false]
  exact ⟨k, by simpa using h, by rw [hf]; decide⟩
theorem ascR_succ {l : List Pd} {k : Nat} (h : (List.range k).all (ascAt l) = true) (hf : ascAt l k = true) : (List.range (k + 1)).all (ascAt l) = true := by
  rw [List.range_succ, List.all_append, h]; simp [hf]
theorem ascAt_zero {l : List Pd} (h : 0 < l.length) : ascAt l 0 = (decide ((0 : Int) ≤ l[0].fm) && decide (l[0].fm < 12622780800)) := by
  unfold ascAt; rw [dif_pos h, dif_neg (by omega), Bool.and_true]
theorem ascAt_succ {l : List Pd} {k : Nat} (h : k + 1 < l.length) : ascAt l (k + 1) = (decide ((0 : Int) ≤ l[k + 1].fm) && decide (l[k + 1].fm < 12622780800) && !(nextBad l[k] l[k + 1])) := by
  unfold ascAt; rw [dif_pos h, dif_pos (by omega)]; rfl

set_option maxRecDepth 100000 in
set_option maxHeartbeats 6400000 in
theorem asc_calls (v : Value) (l : List Pd) (w : World) (h : PdsAt w v l) :
    Calls Try.prog 20 #[v] w fun e w' => e = .returned (.bool (ascB l)) ∧ Below w.heap.size w w' := by
  have hh := h
  obtain ⟨av, cap, rfl, hlc, hm, -⟩ := h
  have hm := hm.1
  unfold maxLen at hm
  go_enter Try.func20, Try.ntmps20
  go_wp2_with fail
  go_loopw [3] (fun i wr => ∃ k n : Nat, k ≤ l.length ∧ i = .int .i64 k ∧ (List.range k).all (ascAt l) = true ∧ wr = w.drewN n) (fun i _ => l.length - (intOf i).toNat)
  case atStart => exact ⟨0, 0, Nat.zero_le _, rfl, rfl, rfl⟩
  case round =>
    obtain ⟨k, n, hk, rfl, he, rfl⟩ := hrel
    have He := Lib.hid he
    clear he
    by_cases hlk : k < l.length
    · obtain ⟨av2, cap2, e2, -, -, hx⟩ := hh
      cases e2
      obtain ⟨b, o, rfl, hB, hx⟩ := hx (by rintro rfl; cases hlk)
      have hxk := hx k hlk
      have hk0 : (0 : Int) ≤ (k : Int) := Int.natCast_nonneg _
      have hk1 : (k : Int) < (l.length : Int) := by omega
      have HF := Lib.hid (fun hf => @ascB_false l k hlk hf)
      have HS := Lib.hid (fun hf => @ascR_succ l k He.out hf)
      match k, hk, hlk, hxk, hk0, hk1, HF, HS with
      | 0, hk, hlk, hxk, hk0, hk1, HF, HS =>
        have hst := ascAt_zero hlk
        clear hx
        generalize l[0] = x at *
        obtain ⟨⟨c0, s0⟩, c1, -⟩ := hxk
        simp only [Nat.zero_mul, Nat.add_zero] at c0 c1
        have Hst := Lib.hid hst
        clear hst
        by_cases h1 : x.fm < 0
        · have HE := Lib.hid (HF.out (by rw [Hst.out, decide_eq_false (by omega)]; rfl))
          go_wp2_with fail
          go_quiet (fail)
          go_wp2
          go_ret
          exact ⟨ret_bool HE.out.symm, below_drewN (below_drewN (Below.refl _ _) _) _⟩
        · have h1d : decide (x.fm < 0) = false := decide_eq_false h1
          by_cases h2 : 12622780800 ≤ x.fm
          · have HE := Lib.hid (HF.out (by rw [Hst.out, decide_eq_false (show ¬ x.fm < 12622780800 by omega), Bool.and_false]))
            have h2d : decide (12622780800 ≤ x.fm) = true := decide_eq_true h2
            go_wp2_with fail
            go_quiet (fail)
            go_wp2
            go_ret
            exact ⟨ret_bool HE.out.symm, below_drewN (below_drewN (Below.refl _ _) _) _⟩
          · have h2d : decide (12622780800 ≤ x.fm) = false := decide_eq_false h2
            have HE := Lib.hid (HS.out (by rw [Hst.out, decide_eq_true (show 0 ≤ x.fm by omega), decide_eq_true (show x.fm < 12622780800 by omega)]; rfl))
            go_wp2_with fail
            go_quiet (fail)
            go_wp2
            exact ⟨⟨1, _, by omega, rfl, HE.out, rfl⟩, by simp [intOf]; omega⟩
      | k + 1, hk, hlk, hxk, hk0, hk1, HF, HS =>
        have hst := ascAt_succ hlk
        have hxp := hx k (by omega)
        clear hx
        generalize l[k + 1] = x at *
        generalize l[k] = y at *
        obtain ⟨⟨c0, s0⟩, c1, -⟩ := hxk
        obtain ⟨⟨d0, -⟩, d1, -⟩ := hxp
        have Hst := Lib.hid hst
        clear hst
        by_cases h1 : x.fm < 0
        · have HE := Lib.hid (HF.out (by rw [Hst.out, decide_eq_false (show ¬ 0 ≤ x.fm by omega)]; rfl))
          go_wp2_with fail
          go_quiet (fail)
          go_wp2
          go_ret
          exact ⟨ret_bool HE.out.symm, below_drewN (below_drewN (Below.refl _ _) _) _⟩
        · have h1d : decide (x.fm < 0) = false := decide_eq_false h1
          by_cases h2 : 12622780800 ≤ x.fm
          · have HE := Lib.hid (HF.out (by rw [Hst.out, decide_eq_false (show ¬ x.fm < 12622780800 by omega), Bool.and_false]; rfl))
            have h2d : decide (12622780800 ≤ x.fm) = true := decide_eq_true h2
            go_wp2_with fail
            go_quiet (fail)
            go_wp2
            go_ret
            exact ⟨ret_bool HE.out.symm, below_drewN (below_drewN (Below.refl _ _) _) _⟩
          · have h2d : decide (12622780800 ≤ x.fm) = false := decide_eq_false h2
            have hst2 : ascAt l (k + 1) = !(nextBad y x) := by rw [Hst.out, decide_eq_true (show 0 ≤ x.fm by omega), decide_eq_true (show x.fm < 12622780800 by omega)]; rfl
            have Hs := Lib.hid hst2
            clear hst2 Hst
            have hj5 : IntKind.i64.wrap ((k : Int) + 1 - 1) = (k : Int) := by rw [Int.add_sub_cancel]; exact IntWalk.i64_in _ (by omega)
            have hj6 : ((k : Int) + 1).toNat = k + 1 := by omega
            have hj7 : IntKind.i64.wrap (k : Int) = (k : Int) := IntWalk.i64_in _ (by omega)
            have hj8 : (0 : Int) < (k : Int) + 1 := by omega
            have J := Lib.hid (And.intro hj5 (And.intro hj6 (And.intro hj7 hj8)))
            clear hj5 hj6 hj7 hj8
            cases hA : Op.bytesLess y.nm.toList x.nm.toList <;> cases hE : (y.nm.toList == x.nm.toList)
            · have HE := Lib.hid (HF.out (by rw [Hs.out, bad_eq hA hE]; rfl))
              go_wp2_with fail
              obtain ⟨hj5, hj6, hj7, hj8⟩ := J.out
              go_quiet (fail)
              clear hj5 hj6 hj7 hj8
              go_wp2
              go_ret
              exact ⟨ret_bool HE.out.symm, below_drewN (below_drewN (Below.refl _ _) _) _⟩
            · by_cases hF : x.fm ≤ y.fm
              · have HE := Lib.hid (HF.out (by rw [Hs.out, bad_eq hA hE]; simp [hF]))
                go_wp2_with fail
                obtain ⟨hj5, hj6, hj7, hj8⟩ := J.out
                go_quiet (fail)
                clear hj5 hj6 hj7 hj8
                go_wp2
                go_ret
                exact ⟨ret_bool HE.out.symm, below_drewN (below_drewN (Below.refl _ _) _) _⟩
              · have HE := Lib.hid (HS.out (by rw [Hs.out, bad_eq hA hE]; simp [hF]))
                go_wp2_with fail
                obtain ⟨hj5, hj6, hj7, hj8⟩ := J.out
                go_quiet (fail)
                clear hj5 hj6 hj7 hj8
                go_wp2
                exact ⟨⟨k + 1 + 1, _, by omega, by go_num, HE.out, rfl⟩, by simp [intOf]; omega⟩
            · have HE := Lib.hid (HS.out (by rw [Hs.out, bad_eq hA hE]; rfl))
              go_wp2_with fail
              obtain ⟨hj5, hj6, hj7, hj8⟩ := J.out
              go_quiet (fail)
              clear hj5 hj6 hj7 hj8
              go_wp2
              exact ⟨⟨k + 1 + 1, _, by omega, by go_num, HE.out, rfl⟩, by simp [intOf]; omega⟩
            · by_cases hF : x.fm ≤ y.fm
              · have HE := Lib.hid (HF.out (by rw [Hs.out, bad_eq hA hE]; simp [hF]))
                go_wp2_with fail
                obtain ⟨hj5, hj6, hj7, hj8⟩ := J.out
                go_quiet (fail)
                clear hj5 hj6 hj7 hj8
                go_wp2
                go_ret
                exact ⟨ret_bool HE.out.symm, below_drewN (below_drewN (Below.refl _ _) _) _⟩
              · have HE := Lib.hid (HS.out (by rw [Hs.out, bad_eq hA hE]; simp [hF]))
                go_wp2_with fail
                obtain ⟨hj5, hj6, hj7, hj8⟩ := J.out
                go_quiet (fail)
                clear hj5 hj6 hj7 hj8
                go_wp2
                exact ⟨⟨k + 1 + 1, _, by omega, by go_num, HE.out, rfl⟩, by simp [intOf]; omega⟩
    · have e : l.length = k := by omega
      have HT := Lib.hid (show ascB l = true by unfold ascB; rw [e]; exact He.out)
      clear e
      go_wp2
      go_ret
      exact ⟨ret_bool HT.out.symm, below_drewN (Below.refl _ _) _⟩
end Go.Proofs.Ytmijdmchhlcblaa
