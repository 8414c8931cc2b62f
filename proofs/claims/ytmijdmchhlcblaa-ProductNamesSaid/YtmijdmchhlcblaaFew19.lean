/-
  The walk of billinglaw19.few.
-/
import Derived.Test.YtmijdmchhlcblaaChecks19
namespace Go.Proofs.Ytmijdmchhlcblaa
open Go.RowKit

def fewB (b : Bd) : Bool := decide (b.zs.length ≤ 70)
def fewP (p : Pd) : Bool := decide (p.bs.length ≤ 70) && p.bs.all fewB
def fewL (l : List Pd) : Bool := decide (l.length ≤ 20) && l.all fewP

theorem all_snoc {α : Type} (p : α → Bool) (l : List α) (k : Nat) (h : k < l.length) : (l.take (k + 1)).all p = ((l.take k).all p && p l[k]) := by
  rw [List.take_succ_eq_append_getElem h, List.all_append]; simp

theorem all_false_at {α : Type} (p : α → Bool) (l : List α) (k : Nat) (h : k < l.length) (hf : p l[k] = false) : l.all p = false := by
  rw [List.all_eq_false]; exact ⟨l[k], List.getElem_mem h, by rw [hf]; decide⟩

set_option maxRecDepth 100000 in
set_option maxHeartbeats 1600000 in
theorem few_calls (v : Value) (l : List Pd) (w : World) (h : PdsAt w v l) :
    Calls Try.prog 16 #[v] w fun e w' => e = .returned (.bool (fewL l)) ∧ w' = w := by
  obtain ⟨av, cap, rfl, hlc, hm, hc⟩ := h
  have hm := hm.1
  unfold maxLen at hm
  by_cases h20 : l.length ≤ 20
  · have hs : ∀ k (hk : k < l.length), ∃ b o, av = some ⟨b, o, none⟩ ∧ b < w.heap.size ∧ ∃ ab cb, w.cell? ⟨b, o + k * 6 + 5, none⟩ = some (.slice ab l[k].bs.length cb) ∧ l[k].bs.length ≤ maxLen ∧
        ∀ j (hj : j < l[k].bs.length), ∃ g q, ab = some ⟨g, q, none⟩ ∧ g < w.heap.size ∧ ∃ az cz, w.cell? ⟨g, q + j * 6 + 1, none⟩ = some (.slice az (l[k].bs[j]).zs.length cz) ∧ (l[k].bs[j]).zs.length ≤ maxLen := by
      intro k hk
      obtain ⟨b, o, e, hB, hx⟩ := hc (by rintro rfl; cases hk)
      obtain ⟨-, -, -, -, -, bv, d5, hbs⟩ := hx k hk
      obtain ⟨ab, cb, rfl, hle, hcm, hz⟩ := hbs
      refine ⟨b, o, e, hB, ab, cb, d5, Nat.le_trans hle hcm.1, fun j hj => ?_⟩
      obtain ⟨g, q, e2, hg, hy⟩ := hz (by intro h0; rw [h0] at hj; cases hj)
      obtain ⟨-, ⟨zv, z1, hzs⟩, -⟩ := hy j hj
      obtain ⟨az, cz, rfl, hle2, hcm2, -⟩ := hzs
      exact ⟨g, q, e2, hg, az, cz, z1, Nat.le_trans hle2 hcm2.1⟩
    have Hs := Lib.hid hs
    have HL := Lib.hid (show fewL l = l.all fewP by unfold fewL; rw [decide_eq_true h20]; rfl)
    have h21 : decide (20 < (l.length : Int)) = false := decide_eq_false (by omega)
    clear hc hs
    go_enter Try.func16, Try.ntmps16
    go_wp2
    go_loop [3] (fun i => ∃ k : Nat, k ≤ l.length ∧ i = .int .i64 k ∧ (l.take k).all fewP = true) (fun i => l.length - (intOf i).toNat)
    case atStart => exact ⟨0, Nat.zero_le _, rfl, rfl⟩
    case round =>
      obtain ⟨k, hk, rfl, ha⟩ := hrel
      by_cases hlt : k < l.length
      · obtain ⟨b, o, rfl, hB, ab, cb, d5, hbm, hj⟩ := Hs.out k hlt
        have hat := all_snoc fewP l k hlt
        have haf := all_false_at fewP l k hlt
        rw [ha, Bool.true_and] at hat
        generalize l[k] = x at *
        obtain ⟨nm, fm, fe, ct, pro, bs⟩ := x
        dsimp only at *
        unfold maxLen at hbm
        have hk0 : (0 : Int) ≤ (k : Int) := Int.natCast_nonneg _
        have hk1 : (k : Int) < (l.length : Int) := by omega
        by_cases h70 : bs.length ≤ 70
        · have h71 : decide (70 < (bs.length : Int)) = false := decide_eq_false (by omega)
          have HF := Lib.hid (show fewP ⟨nm, fm, fe, ct, pro, bs⟩ = bs.all fewB by unfold fewP; rw [decide_eq_true h70]; rfl)
          have HA := Lib.hid hat
          have HN := Lib.hid haf
          have HJ := Lib.hid hj
          clear hat haf hj ha
          go_wp2
          go_loop [4] (fun i => ∃ j : Nat, j ≤ bs.length ∧ i = .int .i64 j ∧ (bs.take j).all fewB = true) (fun i => bs.length - (intOf i).toNat)
          case atStart => exact ⟨0, Nat.zero_le _, rfl, rfl⟩
          case round =>
            obtain ⟨j, hjl, rfl, hb⟩ := hrel
            by_cases hjt : j < bs.length
            · obtain ⟨g, q, rfl, hg, az, cz, z1, hzm⟩ := HJ.out j hjt
              have hbt := all_snoc fewB bs j hjt
              have hbf := all_false_at fewB bs j hjt
              rw [hb, Bool.true_and] at hbt
              generalize bs[j] = y at *
              obtain ⟨kd, zs, un, ro, pr, sh⟩ := y
              dsimp only at *
              unfold maxLen at hzm
              have hj0 : (0 : Int) ≤ (j : Int) := Int.natCast_nonneg _
              have hj1 : (j : Int) < (bs.length : Int) := by omega
              by_cases h72 : zs.length ≤ 70
              · have h73 : decide (70 < (zs.length : Int)) = false := decide_eq_false (by omega)
                have HB := Lib.hid (hbt.trans (show fewB ⟨kd, zs, un, ro, pr, sh⟩ = true from decide_eq_true h72))
                clear hbt hbf hb
                go_wp2
                exact ⟨⟨j + 1, by omega, by go_num, HB.out⟩, by simp [intOf]; omega⟩
              · have h73 : decide (70 < (zs.length : Int)) = true := decide_eq_true (by omega)
                have H := Lib.hid (show fewL l = false by rw [HL.out, HN.out (by rw [HF.out]; exact hbf (decide_eq_false h72))])
                clear hbt hbf hb
                go_wp2
                go_ret
                exact ⟨ret_bool H.out.symm, rfl⟩
            · have hall : bs.take j = bs := List.take_of_length_le (by omega)
              rw [hall] at hb
              have H := Lib.hid (HA.out.trans (HF.out.trans hb))
              have hj2 : decide ((j : Int) < (bs.length : Int)) = false := decide_eq_false (by omega)
              clear hb hall
              go_wp2
              exact ⟨⟨k + 1, by omega, by go_num, H.out⟩, by simp [intOf]; omega⟩
        · have h71 : decide (70 < (bs.length : Int)) = true := decide_eq_true (by omega)
          have H := Lib.hid (show fewL l = false by rw [HL.out, haf (by unfold fewP; rw [decide_eq_false h70]; rfl)])
          clear hat haf hj ha
          go_wp2
          go_ret
          exact ⟨ret_bool H.out.symm, rfl⟩
      · have hall : l.take k = l := List.take_of_length_le (by omega)
        rw [hall] at ha
        have H := Lib.hid (HL.out.trans ha)
        clear ha hall
        go_wp2
        go_ret
        exact ⟨ret_bool H.out.symm, rfl⟩
  · have H := Lib.hid (show fewL l = false by unfold fewL; rw [decide_eq_false h20]; rfl)
    have h21 : decide (20 < (l.length : Int)) = true := decide_eq_true (by omega)
    clear hc
    go_enter Try.func16, Try.ntmps16
    go_wp2
    go_ret
    exact ⟨ret_bool H.out.symm, rfl⟩
end Go.Proofs.Ytmijdmchhlcblaa
