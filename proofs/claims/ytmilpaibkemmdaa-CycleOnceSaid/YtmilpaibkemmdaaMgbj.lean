/-
  The walks of the reference of cycles: opened, closing, lives, the cycle of an instant.
-/
import Derived.Test.YtmilpaibkemmdaaMgao
import Derived.Test.YtmilpaibkemmdaaMgbg
import Derived.Test.YtmilpaibkemmdaaMgbe
import Derived.Test.YtmilpaibkemmdaaMgbi
namespace Go.Proofs.Ytmilpaibkemmdaa
open Go.RowKit

theorem find_none {α : Type} {l : List α} {p : α → Bool} {k : Nat} (hk : k < l.length) (h : (l.take k).any p = false) (hp : p l[k] = true) : l.find? p = some l[k] := by
  have e : l = l.take k ++ (l[k] :: l.drop (k + 1)) := by rw [← List.drop_eq_getElem_cons hk, List.take_append_drop]
  have h0 : (l.take k).find? p = none := List.find?_eq_none.2 (fun x hx => by have := List.any_eq_false.1 h x hx; simpa using this)
  have h2 : l.find? p = (l.take k ++ (l[k] :: l.drop (k + 1))).find? p := congrArg (List.find? p) e
  rw [h2, List.find?_append, h0, Option.none_or, List.find?_cons_of_pos hp]
theorem find_all {α : Type} {l : List α} {p : α → Bool} {k : Nat} (hk : l.length ≤ k) (h : (l.take k).any p = false) : l.find? p = none := by
  rw [List.take_of_length_le hk] at h
  exact List.find?_eq_none.2 (fun x hx => by have := List.any_eq_false.1 h x hx; simpa using this)

theorem instant_calls (t : Int) (w : World) : Calls Try.prog 26 #[.int .i64 t] w fun e w' => e = .returned (.bool (decide (0 ≤ t) && decide (t < 12622780800))) ∧ w = w' := by
  by_cases h1 : 0 ≤ t
  · have k1 : decide (0 ≤ t) = true := decide_eq_true h1
    cases k2 : decide (t < 12622780800)
    all_goals
      rw [k1]
      go_enter Try.func26, Try.ntmps26
      go_wp2
      go_ret
      exact ⟨rfl, rfl⟩
  · have k1 : decide (0 ≤ t) = false := decide_eq_false h1
    rw [k1, Bool.false_and]
    go_enter Try.func26, Try.ntmps26
    go_wp2
    go_ret
    exact ⟨rfl, rfl⟩

/-- The opening event and whether there is one. -/
def OpTo (o : Option Ev) (w : World) (e : Ending) (w' : World) : Prop := e = .returned (.tuple #[evVal (o.getD default), .bool o.isSome]) ∧ Below w.heap.size w w'

set_option maxRecDepth 100000 in
set_option maxHeartbeats 3200000 in
theorem closing_calls (v : Value) (l : List Ev) (n : Int) (w : World) (h : EvsAt w v l) :
    Calls Try.prog 43 #[v, .int .i64 n] w fun e w' => e = .returned (.int .i64 (closeT l n)) ∧ w = w' := by
  have HE := Lib.hid h.1
  obtain ⟨av, cap, rfl, hlc, hcm⟩ := rec_shape h.1
  unfold maxLen at hcm
  clear h
  go_enter Try.func43, Try.ntmps43
  go_wp2_with fail
  go_loop [5] (fun i => ∃ k : Nat, k ≤ l.length ∧ i = .int .i64 k ∧ (l.take k).any (isClose n) = false) (fun i => l.length - (intOf i).toNat)
  case atStart => exact ⟨0, Nat.zero_le _, rfl, rfl⟩
  case round =>
    obtain ⟨k, hk, rfl, hno⟩ := hrel
    have Hno := Lib.hid hno
    clear hno
    by_cases hlt : k < l.length
    · have hk1 : (k : Int) < (l.length : Int) := by omega
      have hk0 : (0 : Int) ≤ (k : Int) := Int.natCast_nonneg _
      obtain ⟨a2, n2, e2, -, -, hx⟩ := HE.out
      cases e2
      obtain ⟨bb, o, rfl, hB, hx⟩ := hx (by rintro rfl; cases hlt)
      have x0 : w.cell? ⟨bb, o + k * 7, none⟩ = some (.int .i64 (l[k]).tm) := hx k hlt 0 (by decide)
      have x1 : w.cell? ⟨bb, o + k * 7 + 1, none⟩ = some (.int .i64 (l[k]).kd) := hx k hlt 1 (by decide)
      have x2 : w.cell? ⟨bb, o + k * 7 + 2, none⟩ = some (.int .i64 (l[k]).ac) := hx k hlt 2 (by decide)
      have HH := Lib.hid (fun hp => find_none (p := isClose n) hlt Hno.out hp)
      have HT := Lib.hid (fun hp => any_take (p := isClose n) hlt Hno.out hp)
      clear hx
      generalize l[k] = ev at *
      obtain ⟨tm, kd, ac, sb, nu, nm, vl⟩ := ev
      dsimp only at x0 x1 x2
      cases hq1 : (kd == 2) with
      | false =>
        have HE2 := Lib.hid (HT.out (by unfold isClose; rw [show decide (kd = 2) = false from decide_eq_false (beq_eq_false_iff_ne.1 hq1)]; rfl))
        clear HH HT
        go_wp2
        exact ⟨⟨k + 1, by omega, by go_num, HE2.out⟩, by simp [intOf]; omega⟩
      | true =>
        cases hq2 : (ac == n) with
        | false =>
          have HE2 := Lib.hid (HT.out (by unfold isClose; rw [show decide (ac = n) = false from decide_eq_false (beq_eq_false_iff_ne.1 hq2), Bool.and_false]))
          clear HH HT
          go_wp2
          exact ⟨⟨k + 1, by omega, by go_num, HE2.out⟩, by simp [intOf]; omega⟩
        | true =>
          have HE2 := Lib.hid (HH.out (by unfold isClose; rw [show decide (kd = 2) = true from decide_eq_true (beq_iff_eq.1 hq1), show decide (ac = n) = true from decide_eq_true (beq_iff_eq.1 hq2)]; rfl))
          clear HH HT
          go_wp2
          go_ret
          exact ⟨ret_int (by unfold closeT; rw [HE2.out]), rfl⟩
    · have HE2 := Lib.hid (find_all (p := isClose n) (by omega) Hno.out)
      go_wp2
      go_ret
      exact ⟨ret_int (by unfold closeT; rw [HE2.out]), rfl⟩

set_option maxRecDepth 100000 in
set_option maxHeartbeats 3200000 in
theorem opened_calls (v : Value) (l : List Ev) (n : Int) (w : World) (h : EvsAt w v l) :
    Calls Try.prog 27 #[v, .int .i64 n] w (OpTo (openE l n) w) := by
  have HE := Lib.hid h.1
  obtain ⟨av, cap, rfl, hlc, hcm⟩ := rec_shape h.1
  unfold maxLen at hcm
  clear h
  obtain ⟨W, hW⟩ : ∃ W, W = w.alloc (Obj.cells #[.int .i64 0, .int .i64 0, .int .i64 0, .int .i64 0, .string ⟨#[]⟩, .string ⟨#[]⟩, .int .i64 0] 55) := ⟨_, rfl⟩
  have hw0 : Below w.heap.size w W := by rw [hW]; go_grown
  have HrW := Lib.hid (show W.heap[w.heap.size]? = some (Obj.cells #[.int .i64 0, .int .i64 0, .int .i64 0, .int .i64 0, .string ⟨#[]⟩, .string ⟨#[]⟩, .int .i64 0] 55) by rw [hW]; exact heap_alloc_new _ _)
  have HE := Lib.hid (HE.out.below hw0)
  have HW := Lib.hid hW
  have Hw0 := Lib.hid hw0
  clear hW hw0
  go_enter Try.func27, Try.ntmps27
  go_wp2_with fail
  rw [← HW.out]
  go_loop [6] (fun i => ∃ k : Nat, k ≤ l.length ∧ i = .int .i64 k ∧ (l.take k).any (isOpen n) = false) (fun i => l.length - (intOf i).toNat)
  case atStart => exact ⟨0, Nat.zero_le _, rfl, rfl⟩
  case round =>
    obtain ⟨k, hk, rfl, hno⟩ := hrel
    have Hno := Lib.hid hno
    clear hno
    by_cases hlt : k < l.length
    · have hk1 : (k : Int) < (l.length : Int) := by omega
      have hk0 : (0 : Int) ≤ (k : Int) := Int.natCast_nonneg _
      obtain ⟨a2, n2, e2, -, -, hx⟩ := HE.out
      cases e2
      obtain ⟨bb, o, rfl, hB, hx⟩ := hx (by rintro rfl; cases hlt)
      have x0 : W.cell? ⟨bb, o + k * 7, none⟩ = some (.int .i64 (l[k]).tm) := hx k hlt 0 (by decide)
      have x1 : W.cell? ⟨bb, o + k * 7 + 1, none⟩ = some (.int .i64 (l[k]).kd) := hx k hlt 1 (by decide)
      have x2 : W.cell? ⟨bb, o + k * 7 + 2, none⟩ = some (.int .i64 (l[k]).ac) := hx k hlt 2 (by decide)
      have x3 : W.cell? ⟨bb, o + k * 7 + 3, none⟩ = some (.int .i64 (l[k]).sb) := hx k hlt 3 (by decide)
      have x4 : W.cell? ⟨bb, o + k * 7 + 4, none⟩ = some (.string (l[k]).nu) := hx k hlt 4 (by decide)
      have x5 : W.cell? ⟨bb, o + k * 7 + 5, none⟩ = some (.string (l[k]).nm) := hx k hlt 5 (by decide)
      have x6 : W.cell? ⟨bb, o + k * 7 + 6, none⟩ = some (.int .i64 (l[k]).vl) := hx k hlt 6 (by decide)
      have HH := Lib.hid (fun hp => find_none (p := isOpen n) hlt Hno.out hp)
      have HT := Lib.hid (fun hp => any_take (p := isOpen n) hlt Hno.out hp)
      clear hx
      generalize l[k] = ev at *
      obtain ⟨tm, kd, ac, sb, nu, nm, vl⟩ := ev
      dsimp only at x0 x1 x2 x3 x4 x5 x6
      cases hq1 : (kd == 1) with
      | false =>
        have HE2 := Lib.hid (HT.out (by unfold isOpen; rw [show decide (kd = 1) = false from decide_eq_false (beq_eq_false_iff_ne.1 hq1)]; rfl))
        clear HH HT
        go_wp2
        exact ⟨⟨k + 1, by omega, by go_num, HE2.out⟩, by simp [intOf]; omega⟩
      | true =>
        cases hq2 : (ac == n) with
        | false =>
          have HE2 := Lib.hid (HT.out (by unfold isOpen; rw [show decide (ac = n) = false from decide_eq_false (beq_eq_false_iff_ne.1 hq2), Bool.and_false]))
          clear HH HT
          go_wp2
          exact ⟨⟨k + 1, by omega, by go_num, HE2.out⟩, by simp [intOf]; omega⟩
        | true =>
          have HE2 := Lib.hid (HH.out (by unfold isOpen; rw [show decide (kd = 1) = true from decide_eq_true (beq_iff_eq.1 hq1), show decide (ac = n) = true from decide_eq_true (beq_iff_eq.1 hq2)]; rfl))
          clear HH HT
          go_upto_region 5 with (fail)
          have t0 := cell_setRow_same W w.heap.size 0 _ #[.int .i64 tm, .int .i64 kd, .int .i64 ac, .int .i64 sb, .string nu, .string nm, .int .i64 vl] _ _ HrW.out
          have t1 := cell_setRow_same W w.heap.size 1 _ #[.int .i64 tm, .int .i64 kd, .int .i64 ac, .int .i64 sb, .string nu, .string nm, .int .i64 vl] _ _ HrW.out
          have t2 := cell_setRow_same W w.heap.size 2 _ #[.int .i64 tm, .int .i64 kd, .int .i64 ac, .int .i64 sb, .string nu, .string nm, .int .i64 vl] _ _ HrW.out
          have t3 := cell_setRow_same W w.heap.size 3 _ #[.int .i64 tm, .int .i64 kd, .int .i64 ac, .int .i64 sb, .string nu, .string nm, .int .i64 vl] _ _ HrW.out
          have t4 := cell_setRow_same W w.heap.size 4 _ #[.int .i64 tm, .int .i64 kd, .int .i64 ac, .int .i64 sb, .string nu, .string nm, .int .i64 vl] _ _ HrW.out
          have t5 := cell_setRow_same W w.heap.size 5 _ #[.int .i64 tm, .int .i64 kd, .int .i64 ac, .int .i64 sb, .string nu, .string nm, .int .i64 vl] _ _ HrW.out
          have t6 := cell_setRow_same W w.heap.size 6 _ #[.int .i64 tm, .int .i64 kd, .int .i64 ac, .int .i64 sb, .string nu, .string nm, .int .i64 vl] _ _ HrW.out
          repeat (first | refine wpList_store_row rfl _ _ _ rfl w.heap.size #[.int .i64 tm, .int .i64 kd, .int .i64 ac, .int .i64 sb, .string nu, .string nm, .int .i64 vl] rfl rfl 55 _ HrW.out (by kernel_rfl) rfl (by simp [Value.oneCell']) ?_ | go_step)
          refine bodyPost_ret (v := .tuple #[.agg #[.int .i64 tm, .int .i64 kd, .int .i64 ac, .int .i64 sb, .string nu, .string nm, .int .i64 vl], .bool true]) (by simp [results, Try.results27, go_sem, t0, t1, t2, t3, t4, t5, t6]) rfl ?_
          exact ⟨by unfold openE; rw [HE2.out]; rfl, below_setRow1 Hw0.out (Nat.le_refl _) _⟩
    · have HE2 := Lib.hid (find_all (p := isOpen n) (by omega) Hno.out)
      go_upto_region 6 with (fail)
      have t0 := cell_setRow_same W w.heap.size 0 _ #[.int .i64 0, .int .i64 0, .int .i64 0, .int .i64 0, .string ⟨#[]⟩, .string ⟨#[]⟩, .int .i64 0] _ _ HrW.out
      have t1 := cell_setRow_same W w.heap.size 1 _ #[.int .i64 0, .int .i64 0, .int .i64 0, .int .i64 0, .string ⟨#[]⟩, .string ⟨#[]⟩, .int .i64 0] _ _ HrW.out
      have t2 := cell_setRow_same W w.heap.size 2 _ #[.int .i64 0, .int .i64 0, .int .i64 0, .int .i64 0, .string ⟨#[]⟩, .string ⟨#[]⟩, .int .i64 0] _ _ HrW.out
      have t3 := cell_setRow_same W w.heap.size 3 _ #[.int .i64 0, .int .i64 0, .int .i64 0, .int .i64 0, .string ⟨#[]⟩, .string ⟨#[]⟩, .int .i64 0] _ _ HrW.out
      have t4 := cell_setRow_same W w.heap.size 4 _ #[.int .i64 0, .int .i64 0, .int .i64 0, .int .i64 0, .string ⟨#[]⟩, .string ⟨#[]⟩, .int .i64 0] _ _ HrW.out
      have t5 := cell_setRow_same W w.heap.size 5 _ #[.int .i64 0, .int .i64 0, .int .i64 0, .int .i64 0, .string ⟨#[]⟩, .string ⟨#[]⟩, .int .i64 0] _ _ HrW.out
      have t6 := cell_setRow_same W w.heap.size 6 _ #[.int .i64 0, .int .i64 0, .int .i64 0, .int .i64 0, .string ⟨#[]⟩, .string ⟨#[]⟩, .int .i64 0] _ _ HrW.out
      repeat (first | refine wpList_store_row rfl _ _ _ rfl w.heap.size #[.int .i64 0, .int .i64 0, .int .i64 0, .int .i64 0, .string ⟨#[]⟩, .string ⟨#[]⟩, .int .i64 0] rfl rfl 55 _ HrW.out (by kernel_rfl) rfl (by simp [Value.oneCell']) ?_ | go_step)
      refine bodyPost_ret (v := .tuple #[.agg #[.int .i64 0, .int .i64 0, .int .i64 0, .int .i64 0, .string ⟨#[]⟩, .string ⟨#[]⟩, .int .i64 0], .bool false]) (by simp [results, Try.results27, go_sem, t0, t1, t2, t3, t4, t5, t6]) rfl ?_
      exact ⟨by unfold openE; rw [HE2.out]; rfl, below_setRow1 Hw0.out (Nat.le_refl _) _⟩
end Go.Proofs.Ytmilpaibkemmdaa
