/-
  The walk of the reference's Days.
-/
import Derived.Test.YtimclpgkdplnhaaRuns
namespace Go.Proofs.Ytimclpgkdplnhaa
open Go.RowKit

set_option maxRecDepth 100000 in
set_option maxHeartbeats 3200000 in
theorem rdays_calls (v : Value) (C : List (Int × Int)) (w : World) (hp : PersAt w v C) (hlen : C.length ≤ 10000) (hI : InT C) :
    Calls Try.prog 40 #[v] w fun e w' => e = .returned (.int .i64 (daysF C).1) ∧ Below w.heap.size w w' := by
  have hp' := hp
  obtain ⟨av, cap, rfl, -⟩ := hp
  go_enter Try.func40, Try.ntmps40
  go_wp2_with fail
  go_loopw [3, 4, 5] (fun n nx i wr => ∃ k : Nat, k ≤ C.length ∧ i = .int .i64 k ∧ n = .int .i64 (daysF (C.take k)).1 ∧ nx = .int .i64 (daysF (C.take k)).2 ∧ Below w.heap.size w wr) (fun _ _ i _ => C.length - (intOf i).toNat)
  case atStart => exact ⟨0, Nat.zero_le _, rfl, rfl, rfl, Below.refl _ _⟩
  case round =>
    obtain ⟨k, hk, rfl, rfl, rfl, hb⟩ := hrel
    by_cases hlt : k < C.length
    · obtain ⟨av2, cap2, e2, -, -, hx⟩ := hp'.below hb
      cases e2
      obtain ⟨b, o, rfl, hB, hx⟩ := hx (by rintro rfl; cases hlt)
      obtain ⟨c0, c1⟩ := hx k hlt
      have hk0 : (0 : Int) ≤ (k : Int) := Int.natCast_nonneg _
      have hk1 : (k : Int) < (C.length : Int) := by omega
      have hq := hI C[k] (List.getElem_mem hlt)
      have HR := Lib.hid (days_take C k hlt)
      have hbd := daysF_bd (C.take k) (fun q hq => hI q (List.mem_of_mem_take hq))
      clear hx
      generalize C[k] = p at *
      obtain ⟨f, t⟩ := p
      dsimp only at *
      generalize daysF (C.take k) = D at *
      obtain ⟨n, nx⟩ := D
      dsimp only at *
      obtain ⟨hr0, hr1, hr2⟩ := hbd
      have hd := day_bd hq
      obtain ⟨hq0, hq1, hq2⟩ := hq
      obtain ⟨hd0, hd1, hd2⟩ := hd
      have ht1 : 0 ≤ t - 1 := by omega
      have w1 : IntKind.i64.wrap (t - 1) = t - 1 := IntWalk.i64_in _ (by omega)
      go_upto_region 5 with (fail)
      go_big_quiet (fail)
      obtain ⟨V, hV⟩ : ∃ V, V = wr.drewN nq := ⟨_, rfl⟩
      have hbV := below_drewN2 hb nq
      rw [← hV] at hbV ⊢
      clear hV c0 c1 w1
      have HR := Lib.hid (show daysF (C.take (k + 1)) = dStep (n, nx) (f, t) from HR.out)
      obtain ⟨la, hla⟩ : ∃ la, la = (t - 1) / 86400 := ⟨_, rfl⟩
      obtain ⟨fi, hfi⟩ : ∃ fi, fi = f / 86400 := ⟨_, rfl⟩
      rw [← hla, ← hfi]
      rw [← hfi] at hd0
      rw [← hla, ← hfi] at hd1
      rw [← hla] at hd2
      have HR2 := Lib.hid (show daysF (C.take (k + 1)) = if max fi nx ≤ la then (n + (la - max fi nx + 1), la + 1) else (n, nx) by rw [HR.out, hla, hfi]; rfl)
      clear hla hfi
      obtain ⟨fr, hfr⟩ : ∃ fr, fr = max fi nx := ⟨_, rfl⟩
      rw [← hfr] at HR2
      have hif : (if fi < nx then nx else fi) = fr := by rw [hfr]; split <;> omega
      have hfr0 : 0 ≤ fr ∧ nx ≤ fr := by omega
      clear hfr
      by_cases hle : fr ≤ la
      · have k1 : decide (fr ≤ la) = true := decide_eq_true hle
        have HE := Lib.hid (show daysF (C.take (k + 1)) = (n + (la - fr + 1), la + 1) by rw [HR2.out, if_pos hle])
        have w2 : IntKind.i64.wrap (la - fr) = la - fr := IntWalk.i64_in _ (by omega)
        have w3 : IntKind.i64.wrap (la - fr + 1) = la - fr + 1 := IntWalk.i64_in _ (by omega)
        have w4 : IntKind.i64.wrap (n + (la - fr + 1)) = n + (la - fr + 1) := IntWalk.i64_in _ (by omega)
        have w5 : IntKind.i64.wrap (la + 1) = la + 1 := IntWalk.i64_in _ (by omega)
        go_wp2_with fail
        exact ⟨⟨k + 1, by omega, by go_num, by rw [HE.out], by rw [HE.out], hbV⟩, by simp [intOf]; omega⟩
      · have k1 : decide (fr ≤ la) = false := decide_eq_false hle
        have HE := Lib.hid (show daysF (C.take (k + 1)) = (n, nx) by rw [HR2.out, if_neg hle])
        go_wp2_with fail
        exact ⟨⟨k + 1, by omega, by go_num, by rw [HE.out], by rw [HE.out], hbV⟩, by simp [intOf]; omega⟩
    · have HE := Lib.hid (show C.take k = C from List.take_of_length_le (by omega))
      go_wp2
      go_ret
      exact ⟨ret_int (by rw [HE.out]), hb⟩
end Go.Proofs.Ytimclpgkdplnhaa
