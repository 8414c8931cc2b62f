/-
  The walk of the laws' canonical, on a list that is canonical and whose periods are valid: true.
-/
import Derived.Test.YtimclpgkdplnhaaR04f
import Derived.Shelf.SlSortCmp.QuietGrown
namespace Go.Proofs.Ytimclpgkdplnhaa
open Go.RowKit

theorem can_next : ∀ (C : List (Int × Int)), Can C → ∀ (i : Nat) (h : i + 1 < C.length), (C[i]'(by omega)).2 < (C[i + 1]).1 := by
  intro C
  induction C with
  | nil => intro _ i h; cases h
  | cons p r ih =>
    intro hC i h
    match i, h with
    | 0, h => exact hC.2.1 _ (List.getElem_mem _)
    | i + 1, h => exact ih hC.2.2 i (by simpa using h)

theorem below_grow {B : Nat} {a w : World} (h : Below B a w) (hB : B ≤ w.heap.size) (os : Array Obj) : Below B a (Go.Sort.grow w os) :=
  ⟨h.os, h.tape, h.output, by have := h.size; rw [Go.Sort.size_grow]; omega, fun k hk => (Go.Sort.heap_grow_old w os (Nat.lt_of_lt_of_le hk hB)).trans (h.block k hk)⟩
theorem rvalid_grow (f t : Int) (h : validB f t = true) (W : World) : Calls Try.prog 15 #[.agg #[.int .i64 f, .int .i64 t]] W fun e w' => e = .returned (.bool true) ∧ ∃ q os', w' = Go.Sort.grow (W.drewN q) os' := by
  obtain ⟨h1, h2, h3⟩ := (validB_iff f t).1 h
  have k1 : decide (0 ≤ f) = true := decide_eq_true h1
  have k2 : decide (f < t) = true := decide_eq_true h2
  have k3 : decide (t ≤ 12622780800) = true := decide_eq_true h3
  clear h
  go_enter Try.func15, Try.ntmps15
  go_wp2
  go_ret
  exact ⟨rfl, 0, _, by rw [Go.Sort.alloc_eq_grow]; rfl⟩

set_option maxRecDepth 100000 in
set_option maxHeartbeats 1600000 in
theorem canonical_calls (v : Value) (C : List (Int × Int)) (w : World) (h : PersAt w v C) (hc : Can C) (hv : ∀ q ∈ C, validB q.1 q.2 = true) :
    Calls Try.prog 36 #[v] w fun e w' => e = .returned (.bool true) ∧ Below w.heap.size w w' := by
  have hh := h
  obtain ⟨av, cap, rfl, hlc, hm, -⟩ := h
  have hm := hm.1
  unfold maxLen at hm
  have HN := Lib.hid (can_next C hc)
  have HV := Lib.hid (fun k (hk : k < C.length) => hv C[k] (List.getElem_mem hk))
  clear hc hv
  go_enter Try.func36, Try.ntmps36
  go_wp2_with fail
  go_loopw [3] (fun i wr => ∃ k : Nat, k ≤ C.length ∧ i = .int .i64 k ∧ Below w.heap.size w wr) (fun i _ => C.length - (intOf i).toNat)
  case atStart => exact ⟨0, Nat.zero_le _, rfl, Below.refl _ _⟩
  case round =>
    obtain ⟨k, hk, rfl, hb⟩ := hrel
    by_cases hlt : k < C.length
    · have hpr := hh.below hb
      obtain ⟨av2, cap2, e2, -, -, hx⟩ := hpr
      cases e2
      obtain ⟨b, o, rfl, hB, hx⟩ := hx (by rintro rfl; cases hlt)
      have hk0 : (0 : Int) ≤ (k : Int) := Int.natCast_nonneg _
      have hk1 : (k : Int) < (C.length : Int) := by omega
      have hq := HV.out k hlt
      obtain ⟨c0, c1⟩ := hx k hlt
      have Hx := Lib.hid hx
      clear hx
      have HNk := Lib.hid (fun j (e : k = j + 1) => show (C[j]'(by omega)).2 < C[k].1 from by subst e; exact HN.out j hlt)
      generalize C[k] = q at *
      obtain ⟨f, t⟩ := q
      dsimp only at *
      have Hc := Lib.hid (fun w1 => rvalid_calls f t w1)
      rw [hq] at Hc
      have hr0 := Below.refl wr.heap.size wr
      by_cases hz : (0 : Int) < (k : Int)
      · have hzd : decide ((0 : Int) < (k : Int)) = true := decide_eq_true hz
        obtain ⟨j, hj⟩ : ∃ j, k = j + 1 := ⟨k - 1, by omega⟩
        have hjl : j < C.length := by omega
        obtain ⟨-, p1⟩ := Hx.out j hjl
        have hn := HNk.out j hj
        clear Hx HNk
        generalize C[j]'hjl = p at *
        obtain ⟨f0, t0⟩ := p
        dsimp only at *
        have hnd : decide (f ≤ t0) = false := decide_eq_false (by omega)
        have hjw : IntKind.i64.wrap ((k : Int) - 1) = (j : Int) := by rw [show (k : Int) - 1 = (j : Int) by omega]; exact IntWalk.i64_in _ (by omega)
        have hj0 : (0 : Int) ≤ (j : Int) := Int.natCast_nonneg _
        have hj1 : (j : Int) < (C.length : Int) := by omega
        have hzn : 0 < k := by omega
        have hznd : decide (0 < k) = true := decide_eq_true hzn
        clear hj
        have Mk := Lib.hid (show ∀ w' : World, Below wr.heap.size wr w' → Below wr.heap.size wr w' ∧ w'.cell? ⟨b, o + k * 2, none⟩ = some (.int .i64 f) ∧ w'.cell? ⟨b, o + k * 2 + 1, none⟩ = some (.int .i64 t) ∧ w'.cell? ⟨b, o + j * 2 + 1, none⟩ = some (.int .i64 t0) from
          fun w' h => ⟨h, (h.cell (p := ⟨b, o + k * 2, none⟩) hB).trans c0, (h.cell (p := ⟨b, o + k * 2 + 1, none⟩) hB).trans c1, (h.cell (p := ⟨b, o + j * 2 + 1, none⟩) hB).trans p1⟩)
        clear c0 c1 p1
        go_wp2_with fail
        go_region_held3 (fun w' : World => Below wr.heap.size wr w' ∧ w'.cell? ⟨b, o + k * 2, none⟩ = some (.int .i64 f) ∧ w'.cell? ⟨b, o + k * 2 + 1, none⟩ = some (.int .i64 t) ∧ w'.cell? ⟨b, o + j * 2 + 1, none⟩ = some (.int .i64 t0))
          (first
            | exact Mk.out _ (by assumption)
            | exact Mk.out _ (Below.drew (by assumption)))
          (first
            | (go_at_call_of 15 (Value.agg #[Value.int IntKind.i64 f, Value.int IntKind.i64 t])
               refine (Hc.out _).mono ?_
               rintro e w6 ⟨rfl, hb6⟩
               have hY6 : Below wr.heap.size wr w6 := Below.trans (And.left (by assumption)) (hb6.mono (Below.size (And.left (by assumption))))
               clear hb6))
        go_wp2
        exact ⟨⟨k + 1, by omega, by go_num, hb.trans (hY6.mono hb.size)⟩, by simp [intOf]; omega⟩
      · obtain rfl : k = 0 := by omega
        clear hz Hx HNk
        rw [Nat.zero_mul, Nat.add_zero] at c0 c1
        have hk2 : (0 : Int) < (C.length : Int) := by omega
        rw [show ((0 : Nat) : Int) = 0 from rfl]
        have l0 : ∀ n os, (Go.Sort.grow (wr.drewN n) os).cell? ⟨b, o, none⟩ = some (.int .i64 f) := fun n os => cell_grown hB c0 n os
        have l1 : ∀ n os, (Go.Sort.grow (wr.drewN n) os).cell? ⟨b, o + 1, none⟩ = some (.int .i64 t) := fun n os => cell_grown hB c1 n os
        clear c0 c1
        go_upto_region 4 with (fail)
        refine wp_region_quiet_grown (by kernel_rfl) (by kernel_rfl) ?_
        repeat (go_big_quiet_step (first | (go_at_call 15; refine Calls.grown_of (rvalid_grow f t hq _))))
        refine wpQuiet_nil ?_
        intro _ hw'
        obtain ⟨⟨nq, osq⟩, hw''⟩ := hw'
        subst hw''
        have hY6 : Below wr.heap.size wr (Go.Sort.grow (wr.drewN nq) osq) := below_grow (below_drewN2 (Below.refl _ _) nq) (Nat.le_refl _) osq
        generalize Go.Sort.grow (wr.drewN nq) osq = w6 at *
        go_wp2
        exact ⟨⟨1, by omega, rfl, hb.trans (hY6.mono hb.size)⟩, by simp [intOf]; omega⟩
    · go_wp2
      go_ret
      exact ⟨rfl, hb⟩
end Go.Proofs.Ytimclpgkdplnhaa
