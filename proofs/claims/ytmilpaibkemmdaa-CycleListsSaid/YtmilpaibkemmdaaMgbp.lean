/-
  The walk of the reference's Same on dues.
-/
import Derived.Test.YtmilpaibkemmdaaMgbo
namespace Go.Proofs.Ytmilpaibkemmdaa
open Go.RowKit

theorem take_snoc_eq {α : Type} {a b : List α} {k : Nat} (ha : k < a.length) (hb : k < b.length) (h : a.take k = b.take k) (e : a[k] = b[k]) : a.take (k + 1) = b.take (k + 1) := by
  rw [List.take_succ_eq_append_getElem ha, List.take_succ_eq_append_getElem hb, h, e]
theorem ne_get {α : Type} {a b : List α} {k : Nat} (ha : k < a.length) (hb : k < b.length) (h : ¬ a[k] = b[k]) : a ≠ b := by
  rintro rfl
  exact h rfl
theorem du_cells {w : World} {bb o : Nat} {d : Du} (h : RecR duCells 3 w bb o d) : w.cell? ⟨bb, o, none⟩ = some (.int .i64 d.1) ∧ w.cell? ⟨bb, o + 1, none⟩ = some (.int .i64 d.2.1) ∧ w.cell? ⟨bb, o + 2, none⟩ = some (.int .i64 d.2.2) := ⟨h 0 (by decide), h 1 (by decide), h 2 (by decide)⟩

set_option maxRecDepth 100000 in
set_option maxHeartbeats 1600000 in
theorem rsameD_calls (va vb : Value) (a b : List Du) (w : World) (ha : RecAt duCells 3 w va a) (hb : RecAt duCells 3 w vb b) :
    Calls Try.prog 13 #[va, vb] w fun e w' => e = .returned (.bool (decide (a = b))) ∧ Below w.heap.size w w' := by
  obtain ⟨aa, ca, rfl, hla0, hma, hxa⟩ := ha
  obtain ⟨ab, cb, rfl, -, hmb, hxb⟩ := hb
  have hca := hma.1
  unfold maxLen at hca
  clear hma hmb
  by_cases hl : a.length = b.length
  · by_cases h0 : a = []
    · subst h0
      obtain rfl : b = [] := List.length_eq_zero_iff.1 hl.symm
      go_enter Try.func13, Try.ntmps13
      go_wp2_with fail
      go_loopw [5] (fun i wr => i = .int .i64 0 ∧ Below w.heap.size w wr) (fun i _ => 0)
      case atStart => exact ⟨rfl, Below.refl _ _⟩
      case round =>
        obtain ⟨rfl, hb⟩ := hrel
        go_wp2
        go_ret
        exact ⟨ret_bool (by simp), hb⟩
    · have h0b : b ≠ [] := by rintro rfl; exact h0 (List.length_eq_zero_iff.1 hl)
      obtain ⟨b1, o1, rfl, hB1, hx1⟩ := hxa h0
      obtain ⟨b2, o2, rfl, hB2, hx2⟩ := hxb h0b
      have H1 := Lib.hid hx1
      have H2 := Lib.hid hx2
      clear hxa hxb hx1 hx2
      have hla : (a.length : Int) = (b.length : Int) := by rw [hl]
      go_enter Try.func13, Try.ntmps13
      go_wp2_with fail
      go_loopw [5] (fun i wr => Below w.heap.size w wr ∧ ∃ k : Nat, k ≤ a.length ∧ i = .int .i64 k ∧ a.take k = b.take k) (fun i _ => a.length - (intOf i).toNat)
      case atStart => exact ⟨Below.refl _ _, 0, Nat.zero_le _, rfl, rfl⟩
      case round =>
        obtain ⟨hb, k, hk, rfl, hn⟩ := hrel
        have Hn := Lib.hid hn
        clear hn
        by_cases hlt : k < a.length
        · have hlt2 : k < b.length := by omega
          obtain ⟨c0, c1, c2⟩ := du_cells (RecR.stays _ _ _ _ _ hb hB1 (H1.out k hlt))
          obtain ⟨d0, d1, d2⟩ := du_cells (RecR.stays _ _ _ _ _ hb hB2 (H2.out k hlt2))
          have hk0 : (0 : Int) ≤ (k : Int) := Int.natCast_nonneg _
          have hk1 : (k : Int) < (a.length : Int) := by omega
          have hk2 : (k : Int) < (b.length : Int) := by omega
          have HS := Lib.hid (fun h => take_snoc_eq hlt hlt2 Hn.out h)
          have HN := Lib.hid (fun h => @ne_get _ a b k hlt hlt2 h)
          generalize a[k] = p at *
          generalize b[k] = q at *
          obtain ⟨p1, p2, p3⟩ := p
          obtain ⟨q1, q2, q3⟩ := q
          dsimp only at c0 c1 c2 d0 d1 d2
          by_cases e1 : p1 = q1
          · by_cases e2 : p2 = q2
            · by_cases e3 : p3 = q3
              · have HE := Lib.hid (HS.out (by rw [e1, e2, e3]))
                clear HS HN
                go_wp2_with fail
                go_quiet (fail)
                go_wp2
                exact ⟨⟨below_drewN2 hb _, k + 1, by omega, by go_num, HE.out⟩, by simp [intOf]; omega⟩
              · have HE := Lib.hid (HN.out (fun h => e3 (by cases h; rfl)))
                clear HS HN
                go_wp2_with fail
                go_quiet (fail)
                go_wp2
                go_ret
                exact ⟨ret_bool (by rw [decide_eq_false HE.out]), below_drewN2 hb _⟩
            · have HE := Lib.hid (HN.out (fun h => e2 (by cases h; rfl)))
              clear HS HN
              go_wp2_with fail
              go_quiet (fail)
              go_wp2
              go_ret
              exact ⟨ret_bool (by rw [decide_eq_false HE.out]), below_drewN2 hb _⟩
          · have HE := Lib.hid (HN.out (fun h => e1 (by cases h; rfl)))
            clear HS HN
            go_wp2_with fail
            go_quiet (fail)
            go_wp2
            go_ret
            exact ⟨ret_bool (by rw [decide_eq_false HE.out]), below_drewN2 hb _⟩
        · have HE := Lib.hid (show a = b by
            have h1 := Hn.out
            rwa [List.take_of_length_le (by omega), List.take_of_length_le (by omega)] at h1)
          go_wp2
          go_ret
          exact ⟨ret_bool (by rw [decide_eq_true HE.out]), hb⟩
  · have hne : a ≠ b := fun h => hl (by rw [h])
    have HE := Lib.hid hne
    have hne2 : ¬ (a.length : Int) = (b.length : Int) := by omega
    clear hne
    go_enter Try.func13, Try.ntmps13
    go_wp2
    go_ret
    exact ⟨ret_bool (by rw [decide_eq_false HE.out]), Below.refl _ _⟩
end Go.Proofs.Ytmilpaibkemmdaa
