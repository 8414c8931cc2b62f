/-
  The walks of the bands' light, and of the law BandsChecks.
-/
import Derived.Test.YtcfmndhjmlbcoaaAwake05
import Derived.Test.YtcfmndhjmlbcoaaBandE
namespace Go.Proofs.Ytcfmndhjmlbcoaa
open Go.RowKit

/-- Some truth value. -/
def SomeTo (w : World) (e : Ending) (w' : World) : Prop := ∃ r : Bool, e = .returned (.bool r) ∧ Below w.heap.size w w'

set_option maxRecDepth 100000 in
set_option maxHeartbeats 6400000 in
theorem light_calls (bv hv : Value) (l : List Bn) (hol : List Int) (w : World) (h : BnsAt w bv l) (hh : IcsAt w hv hol) :
    Calls Try.prog 18 #[.agg #[bv, hv]] w (SomeTo w) := by
  have hB := h
  obtain ⟨av, cap, rfl, hlc, hm, -⟩ := h
  obtain ⟨avh, caph, rfl, hlch, hmh, -⟩ := hh
  have hm := hm.1
  have hmh := hmh.1
  unfold maxLen at hm hmh
  obtain ⟨W, hW⟩ : ∃ W, W = w.alloc (Obj.cells #[Value.slice av l.length cap, .slice avh hol.length caph] 32) := ⟨_, rfl⟩
  have hw0 : Below w.heap.size w W := by rw [hW]; exact (Below.refl _ _).alloc (Nat.le_refl _) _
  have rW : W.heap[w.heap.size]? = some (Obj.cells #[Value.slice av l.length cap, .slice avh hol.length caph] 32) := by rw [hW]; exact heap_alloc_new _ _
  have hzW : w.heap.size < W.heap.size := by rw [hW]; simp
  have HM := Lib.hid (show ∀ w', Below W.heap.size W w' → w'.cell? ⟨w.heap.size, 0, none⟩ = some (.slice av l.length cap) ∧ w'.cell? ⟨w.heap.size, 1, none⟩ = some (.slice avh hol.length caph) from fun w' hb => by
    have q := (hb.block _ hzW).trans rW
    exact ⟨cell_of_row w' _ 0 _ _ _ q, cell_of_row w' _ 1 _ _ _ q⟩)
  have HW := Lib.hid hW
  have HC := Lib.hid (fun w1 (hb : Below W.heap.size W w1) => rcheck_calls _ l w1 ((hB.below hw0).below hb))
  clear hW rW
  obtain ⟨m0, m1⟩ := HM.out W (Below.refl _ _)
  by_cases k1 : 100 < l.length
  · have k1' : (100 : Int) < (l.length : Int) := by omega
    go_enter Try.func18, Try.ntmps18
    go_upto_region 1 with (fail)
    rw [← HW.out]
    go_wp2
    go_ret
    exact ⟨_, rfl, hw0⟩
  · have k1' : ¬ (100 : Int) < (l.length : Int) := by omega
    by_cases k2 : 40 < hol.length
    · have k2' : (40 : Int) < (hol.length : Int) := by omega
      go_enter Try.func18, Try.ntmps18
      go_upto_region 1 with (fail)
      rw [← HW.out]
      go_wp2
      go_ret
      exact ⟨_, rfl, hw0⟩
    · have k2' : ¬ (40 : Int) < (hol.length : Int) := by omega
      go_enter Try.func18, Try.ntmps18
      go_upto_region 1 with (fail)
      rw [← HW.out]
      go_wp2_with fail
      clear m0 m1
      go_loopw [3, 4] (fun n i wr => ∃ (m : Int) (k : Nat), n = .int .i64 m ∧ k ≤ l.length ∧ i = .int .i64 k ∧ Below W.heap.size W wr) (fun _ i _ => l.length - (intOf i).toNat)
      case atStart => exact ⟨0, 0, rfl, Nat.zero_le _, rfl, Below.refl _ _⟩
      case round =>
        obtain ⟨m, k, rfl, hk, rfl, hb⟩ := hrel
        obtain ⟨m0, m1⟩ := HM.out wr hb
        by_cases hgo : k < l.length ∧ m ≤ 400
        · obtain ⟨hlt, hm4⟩ := hgo
          obtain ⟨av2, cap2, e2, -, -, hx⟩ := (hB.below hw0).below hb
          cases e2
          obtain ⟨b, o, rfl, hBb, hx⟩ := hx (by rintro rfl; cases hlt)
          obtain ⟨-, sv, c1, hs⟩ := hx k hlt
          obtain ⟨asv, cs, rfl, -, -, -⟩ := hs
          have hk0 : (0 : Int) ≤ (k : Int) := Int.natCast_nonneg _
          have hk1 : (k : Int) < (l.length : Int) := by omega
          clear hx
          generalize l[k] = y at *
          go_wp2
          exact ⟨⟨_, k + 1, rfl, by omega, by go_num, hb⟩, by simp [intOf]; omega⟩
        · have HX := Lib.hid hb
          by_cases hlt : k < l.length
          · have hm4 : ¬ m ≤ 400 := fun h => hgo ⟨hlt, h⟩
            have hm5 : 400 < m := by omega
            have hk1 : (k : Int) < (l.length : Int) := by omega
            clear hgo
            go_wp2
            go_ret
            exact ⟨_, rfl, hw0.trans (HX.out.mono hw0.size)⟩
          · have hk1 : ¬ (k : Int) < (l.length : Int) := by omega
            clear hgo
            by_cases hm4 : 400 < m
            · go_wp2
              go_ret
              exact ⟨_, rfl, hw0.trans (HX.out.mono hw0.size)⟩
            · by_cases hz : checkB l = 0
              · have HC2 := Lib.hid (HC.out wr hb)
                rw [hz] at HC2
                clear hz
                by_cases k8 : l.length ≤ 8
                · have k8' : (l.length : Int) ≤ 8 := by omega
                  by_cases k30 : m ≤ 30
                  · go_wp2_with fail
                    refine HC2.out.mono ?_
                    rintro e w2 ⟨rfl, hb2⟩
                    have Hb2 := Lib.hid (HX.out.trans (hb2.mono HX.out.size))
                    obtain ⟨z0, z1⟩ := HM.out w2 Hb2.out
                    clear m0 m1
                    go_wp2
                    go_ret
                    exact ⟨_, rfl, hw0.trans (Hb2.out.mono hw0.size)⟩
                  · go_wp2_with fail
                    refine HC2.out.mono ?_
                    rintro e w2 ⟨rfl, hb2⟩
                    have Hb2 := Lib.hid (HX.out.trans (hb2.mono HX.out.size))
                    obtain ⟨z0, z1⟩ := HM.out w2 Hb2.out
                    clear m0 m1
                    go_wp2
                    go_ret
                    exact ⟨_, rfl, hw0.trans (Hb2.out.mono hw0.size)⟩
                · have k8' : ¬ (l.length : Int) ≤ 8 := by omega
                  go_wp2_with fail
                  refine HC2.out.mono ?_
                  rintro e w2 ⟨rfl, hb2⟩
                  have Hb2 := Lib.hid (HX.out.trans (hb2.mono HX.out.size))
                  obtain ⟨z0, z1⟩ := HM.out w2 Hb2.out
                  clear m0 m1
                  go_wp2
                  go_ret
                  exact ⟨_, rfl, hw0.trans (Hb2.out.mono hw0.size)⟩
              · have HC2 := Lib.hid (HC.out wr hb)
                have hz2 : (checkB l != 0) = true := bne_iff_ne.2 hz
                clear hz
                go_wp2_with fail
                refine HC2.out.mono ?_
                rintro e w2 ⟨rfl, hb2⟩
                have Hb2 := Lib.hid (HX.out.trans (hb2.mono HX.out.size))
                go_wp2
                go_ret
                exact ⟨_, rfl, hw0.trans (Hb2.out.mono hw0.size)⟩

set_option maxRecDepth 100000 in
set_option maxHeartbeats 6400000 in
theorem checks05_law (v : Value) (l : List Bn) (w : World) (h : BnsAt w v l) :
    Calls Try.prog 3 #[v] w fun e w' => e = .returned (.bool true) ∧ Below w.heap.size w w' := by
  have hB := h
  have H1 := Lib.hid (fun w1 (hb : Below w.heap.size w w1) => check_calls v l w1 (hB.below hb))
  have H2 := Lib.hid (fun w1 (hb : Below w.heap.size w w1) => rcheck_calls v l w1 (hB.below hb))
  obtain ⟨av, cap, rfl, hlc, hm, -⟩ := h
  have hm := hm.1
  unfold maxLen at hm
  go_enter Try.func3, Try.ntmps3
  go_wp2_with fail
  go_loopw [3, 4] (fun n i wr => ∃ (m : Int) (k : Nat), n = .int .i64 m ∧ k ≤ l.length ∧ i = .int .i64 k ∧ Below w.heap.size w wr) (fun _ i _ => l.length - (intOf i).toNat)
  case atStart => exact ⟨0, 0, rfl, Nat.zero_le _, rfl, Below.refl _ _⟩
  case round =>
    obtain ⟨m, k, rfl, hk, rfl, hb⟩ := hrel
    have Hb := Lib.hid hb
    by_cases hgo : k < l.length ∧ k ≤ 100 ∧ m ≤ 400
    · obtain ⟨hlt, hk100, hm4⟩ := hgo
      obtain ⟨av2, cap2, e2, -, -, hx⟩ := hB.below hb
      cases e2
      obtain ⟨b, o, rfl, hBb, hx⟩ := hx (by rintro rfl; cases hlt)
      obtain ⟨-, sv, c1, hs⟩ := hx k hlt
      obtain ⟨asv, cs, rfl, -, -, -⟩ := hs
      have hk0 : (0 : Int) ≤ (k : Int) := Int.natCast_nonneg _
      have hk1 : (k : Int) < (l.length : Int) := by omega
      have hk2 : (k : Int) ≤ 100 := by omega
      clear hx
      generalize l[k] = y at *
      go_wp2
      exact ⟨⟨_, k + 1, rfl, by omega, by go_num, hb⟩, by simp [intOf]; omega⟩
    · have hcase : (100 < l.length ∧ (k < l.length ∧ ¬ k ≤ 100 ∨ k < l.length ∧ k ≤ 100 ∧ ¬ m ≤ 400 ∨ ¬ k < l.length)) ∨ (¬ 100 < l.length ∧ ¬ m ≤ 400 ∧ (k < l.length ∧ k ≤ 100 ∨ ¬ k < l.length)) ∨ (¬ 100 < l.length ∧ m ≤ 400 ∧ ¬ k < l.length) := by
        by_cases a1 : 100 < l.length
        · refine Or.inl ⟨a1, ?_⟩
          by_cases a2 : k < l.length
          · by_cases a3 : k ≤ 100
            · exact Or.inr (Or.inl ⟨a2, a3, fun a4 => hgo ⟨a2, a3, a4⟩⟩)
            · exact Or.inl ⟨a2, a3⟩
          · exact Or.inr (Or.inr a2)
        · by_cases a4 : m ≤ 400
          · exact Or.inr (Or.inr ⟨a1, a4, fun a2 => hgo ⟨a2, Nat.le_of_lt (Nat.lt_of_lt_of_le a2 (Nat.le_of_not_lt a1)), a4⟩⟩)
          · refine Or.inr (Or.inl ⟨a1, a4, ?_⟩)
            by_cases a2 : k < l.length
            · exact Or.inl ⟨a2, Nat.le_of_lt (Nat.lt_of_lt_of_le a2 (Nat.le_of_not_lt a1))⟩
            · exact Or.inr a2
      clear hgo
      rcases hcase with ⟨k1, ⟨k2, k3⟩ | ⟨k2, k3, k4⟩ | k2⟩ | ⟨k1, k4, ⟨k2, k3⟩ | k2⟩ | ⟨k1, k4, k2⟩
      case neg.inr.inr =>
        have j1 : ¬ (100 : Int) < (l.length : Int) := by omega
        have j2 : ¬ (k : Int) < (l.length : Int) := by omega
        have j4 : ¬ 400 < m := by omega
        have he : (checkB l == checkB l) = true := beq_self_eq_true _
        go_wp2_with fail
        refine (H1.out wr hb).mono ?_
        rintro e w2 ⟨rfl, hb2⟩
        have hb3 := hb.trans (hb2.mono hb.size)
        go_wp2_with fail
        refine (H2.out w2 hb3).mono ?_
        rintro e w3 ⟨rfl, hbx⟩
        have hb4 := hb3.trans (hbx.mono hb3.size)
        go_wp2_with fail
        refine (awake05_calls w3).mono ?_
        rintro e w4 ⟨rfl, hbx⟩
        have hb5 := hb4.trans (hbx.mono hb4.size)
        go_wp2
        go_ret
        exact ⟨rfl, hb5⟩
      all_goals
        try have j1 : (100 : Int) < (l.length : Int) := by omega
        try have j1 : ¬ (100 : Int) < (l.length : Int) := by omega
        try have j2 : (k : Int) < (l.length : Int) := by omega
        try have j2 : ¬ (k : Int) < (l.length : Int) := by omega
        try have j3 : (k : Int) ≤ 100 := by omega
        try have j3 : ¬ (k : Int) ≤ 100 := by omega
        try have j4 : 400 < m := Int.not_le.1 k4
        go_wp2_with fail
        refine (awake05_calls wr).mono ?_
        rintro e w4 ⟨rfl, hbx⟩
        have hb5 := hb.trans (hbx.mono hb.size)
        go_wp2
        go_ret
        exact ⟨rfl, hb5⟩
end Go.Proofs.Ytcfmndhjmlbcoaa
