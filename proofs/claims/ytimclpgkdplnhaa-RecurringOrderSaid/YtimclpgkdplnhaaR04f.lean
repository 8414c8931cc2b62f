/-
  The walks of the reference's Total and of the laws' `in`.
-/
import Derived.Test.YtimclpgkdplnhaaR04e
import Derived.Test.YtimclpgkdplnhaaChosen04
namespace Go.Proofs.Ytimclpgkdplnhaa
open Go.RowKit

theorem choose_in (a b : List (Int × Int)) (ig inb : Bool) : ∀ q ∈ chooseL a b ig inb, 0 ≤ q.1 ∧ q.1 < q.2 ∧ q.2 ≤ 12622780800 := by
  intro q hq
  obtain ⟨h1, h2⟩ := choose_law a b ig inb
  have h3 := can_ends h1 q hq
  have inA : ∀ x, q.1 ≤ x → x < q.2 → 0 ≤ x ∧ x < 12622780800 := by
    intro x g1 g2
    have g := (h2 x).1 ⟨q, hq, g1, g2⟩
    unfold selB at g
    rw [Bool.and_eq_true] at g
    obtain ⟨p, -, hv, k1, k2⟩ := (inL_iff a x).1 g.1
    have := (validB_iff _ _).1 hv
    omega
  have g1 := inA q.1 (Int.le_refl _) h3
  have g2 := inA (q.2 - 1) (by omega) (by omega)
  omega
theorem choose_len (a b : List (Int × Int)) (ig inb : Bool) : (chooseL a b ig inb).length ≤ 2 * (a.length + b.length) := by
  have h1 := chUpto_len (limitsL (limitsL [] a) b) (selB a b ig inb) ((limitsL (limitsL [] a) b).length - 1)
  have h2 := limits_len [] a
  have h3 := limits_len (limitsL [] a) b
  rw [List.length_nil] at h2
  unfold chooseL
  omega

/-- The number of instants of a list of periods, summed one by one. -/
def totL : List (Int × Int) → Int
  | [] => 0
  | q :: r => (q.2 - q.1) + totL r
theorem totL_snoc (l : List (Int × Int)) (q : Int × Int) : totL (l ++ [q]) = totL l + q.2 - q.1 := by
  induction l with
  | nil => show q.2 - q.1 + 0 = 0 + q.2 - q.1; omega
  | cons p r ih => show p.2 - p.1 + totL (r ++ [q]) = p.2 - p.1 + totL r + q.2 - q.1; rw [ih]; omega
theorem totL_take (l : List (Int × Int)) (k : Nat) (h : k < l.length) : totL (l.take (k + 1)) = totL (l.take k) + l[k].2 - l[k].1 := by
  rw [List.take_succ_eq_append_getElem h, totL_snoc]
theorem totL_bound (l : List (Int × Int)) (hq : ∀ q ∈ l, 0 ≤ q.1 ∧ q.1 < q.2 ∧ q.2 ≤ 12622780800) : 0 ≤ totL l ∧ totL l ≤ l.length * 12622780800 := by
  induction l with
  | nil => exact ⟨Int.le_refl _, Int.le_refl _⟩
  | cons p r ih =>
    have h1 := ih fun q h => hq q (by simp [h])
    have h2 := hq p (by simp)
    show 0 ≤ p.2 - p.1 + totL r ∧ p.2 - p.1 + totL r ≤ ((r.length + 1 : Nat) : Int) * 12622780800
    omega

set_option maxRecDepth 100000 in
set_option maxHeartbeats 1600000 in
theorem rtotal_calls (va : Value) (a : List (Int × Int)) (w : World) (ha : PersAt w va a) (hn : a.length ≤ 2000) :
    Calls Try.prog 25 #[va] w fun e w' => e = .returned (.int .i64 (totL (chooseL a [] true false))) ∧ Below w.heap.size w w' := by
  have H := Lib.hid (rcover_calls va a w ha hn)
  have hlen := choose_len a [] true false
  rw [List.length_nil] at hlen
  have hin := choose_in a [] true false
  generalize chooseL a [] true false = C at *
  have HIN := Lib.hid hin
  have HB := Lib.hid (fun k => totL_bound (C.take k) (fun q h => hin q (List.mem_of_mem_take h)))
  clear hin
  obtain ⟨aa, ca, rfl, -⟩ := ha
  go_enter Try.func25, Try.ntmps25
  go_wp2_with fail
  refine H.out.mono ?_
  rintro e w1 ⟨v1, rfl, hp, hb1⟩
  have HP := Lib.hid hp
  obtain ⟨a1, c1, rfl, hl1, hm1, -⟩ := hp
  have hm1 := hm1.1
  unfold maxLen at hm1
  go_wp2_with fail
  go_loopw [4, 5] (fun n i wr => ∃ k : Nat, k ≤ C.length ∧ i = .int .i64 k ∧ n = .int .i64 (totL (C.take k)) ∧ Below w1.heap.size w1 wr) (fun _ i _ => C.length - (intOf i).toNat)
  case atStart => exact ⟨0, Nat.zero_le _, rfl, rfl, Below.refl _ _⟩
  case round =>
    obtain ⟨k, hk, rfl, rfl, hb⟩ := hrel
    have hb3 := hb1.trans (hb.mono hb1.size)
    have hbd := HB.out k
    rw [List.length_take] at hbd
    by_cases hlt : k < C.length
    · obtain ⟨av2, cap2, e2, -, -, hx⟩ := HP.out.below hb
      cases e2
      obtain ⟨b, o, rfl, hB, hx⟩ := hx (by rintro rfl; cases hlt)
      obtain ⟨c0, c1⟩ := hx k hlt
      have hk0 : (0 : Int) ≤ (k : Int) := Int.natCast_nonneg _
      have hk1 : (k : Int) < (C.length : Int) := by omega
      have HS := Lib.hid (totL_take C k hlt)
      have hq := HIN.out C[k] (List.getElem_mem hlt)
      clear hx
      generalize C[k] = q at *
      obtain ⟨f, t⟩ := q
      dsimp only at *
      have HT := Lib.hid (show C.take k = C.take k from rfl)
      generalize totL (C.take k) = n at *
      obtain ⟨hn0, hn1⟩ := hbd
      have hn2 : n ≤ 4000 * 12622780800 := by omega
      clear hn1
      go_wp2_with fail
      go_quiet (fail)
      go_wp2
      exact ⟨⟨k + 1, by omega, by go_num, by rw [HS.out], below_drewN2 hb _⟩, by simp [intOf]; omega⟩
    · have HE := Lib.hid (show C.take k = C from List.take_of_length_le (by omega))
      go_wp2
      go_ret
      exact ⟨ret_int (by rw [HE.out]), hb3⟩
end Go.Proofs.Ytimclpgkdplnhaa
