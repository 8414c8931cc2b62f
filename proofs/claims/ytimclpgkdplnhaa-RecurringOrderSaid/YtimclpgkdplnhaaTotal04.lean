/-
  The walk of the program's Total.
-/
import Derived.Test.YtimclpgkdplnhaaSets04
import Derived.Test.YtimclpgkdplnhaaR04f
namespace Go.Proofs.Ytimclpgkdplnhaa
open Go.RowKit

set_option maxRecDepth 100000 in
set_option maxHeartbeats 1600000 in
theorem total_calls (va : Value) (a : List (Int × Int)) (w : World) (ha : PersAt w va a) (hn : a.length ≤ 2000) :
    Calls Try.prog 24 #[va] w fun e w' => e = .returned (.int .i64 (totL (chooseL a [] true false))) ∧ Below w.heap.size w w' := by
  have H := Lib.hid (cover_calls va a w ha hn)
  have hlen := choose_len a [] true false
  rw [List.length_nil] at hlen
  have hin := choose_in a [] true false
  generalize chooseL a [] true false = C at *
  have HIN := Lib.hid hin
  have HB := Lib.hid (fun k => totL_bound (C.take k) (fun q h => hin q (List.mem_of_mem_take h)))
  clear hin
  obtain ⟨aa, ca, rfl, -⟩ := ha
  go_enter Try.func24, Try.ntmps24
  go_wp2_with fail
  refine H.out.mono ?_
  rintro e w1 ⟨v1, rfl, hp, hb1⟩
  have HP := Lib.hid hp
  obtain ⟨a1, c1, rfl, hl1, hm1, -⟩ := hp
  have hm1 := hm1.1
  unfold maxLen at hm1
  go_wp2_with fail
  go_loopw [3, 9] (fun n i wr => ∃ k : Nat, k ≤ C.length ∧ i = .int .i64 k ∧ n = .int .i64 (totL (C.take k)) ∧ Below w1.heap.size w1 wr) (fun _ i _ => C.length - (intOf i).toNat)
  case atStart => exact ⟨0, Nat.zero_le _, rfl, rfl, Below.refl _ _⟩
  case round =>
    obtain ⟨k, hk, rfl, rfl, hb⟩ := hrel
    have hb3 := hb1.trans (hb.mono hb1.size)
    have hbd := HB.out k
    rw [List.length_take] at hbd
    by_cases hlt : k < C.length
    · obtain ⟨av2, cap2, e2, -, -, hx⟩ := HP.out.below hb
      cases e2
      obtain ⟨b, o, rfl, hB, hx⟩ := hx (by rintro rfl; cases hlt)
      obtain ⟨c0, c1⟩ := hx k hlt
      have hk0 : (0 : Int) ≤ (k : Int) := Int.natCast_nonneg _
      have hk1 : (k : Int) < (C.length : Int) := by omega
      have HS := Lib.hid (totL_take C k hlt)
      have hq := HIN.out C[k] (List.getElem_mem hlt)
      clear hx
      generalize C[k] = q at *
      obtain ⟨f, t⟩ := q
      dsimp only at *
      generalize totL (C.take k) = n at *
      obtain ⟨hn0, hn1⟩ := hbd
      have hn2 : n ≤ 4000 * 12622780800 := by omega
      clear hn1
      have w1' : IntKind.i64.wrap (t - f) = t - f := IntWalk.i64_in _ (by omega)
      have w2' : IntKind.i64.wrap (n + (t - f)) = n + (t - f) := IntWalk.i64_in _ (by omega)
      go_wp2
      exact ⟨⟨k + 1, by omega, by go_num, by rw [HS.out]; congr 1; omega, hb.alloc hb.size _⟩, by simp [intOf]; omega⟩
    · have HE := Lib.hid (show C.take k = C from List.take_of_length_le (by omega))
      go_wp2
      go_ret
      exact ⟨ret_int (by rw [HE.out]), hb3⟩
end Go.Proofs.Ytimclpgkdplnhaa
