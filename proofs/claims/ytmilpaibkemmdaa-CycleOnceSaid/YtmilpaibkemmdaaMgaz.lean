/-
  The walks of the errors of an event about an account and about a subscription.
-/
import Derived.Test.YtmilpaibkemmdaaMgay
import Derived.Test.YtmilpaibkemmdaaMgae
namespace Go.Proofs.Ytmilpaibkemmdaa
open Go.RowKit

/-- Some truth, in a world behind. -/
def SomeT (w : World) (e : Ending) (w' : World) : Prop := ∃ b, e = .returned (.bool b) ∧ Below w.heap.size w w'
theorem someT {w w' : World} (b : Bool) (h : Below w.heap.size w w') : SomeT w (.returned (.bool b)) w' := ⟨b, rfl, h⟩

set_option maxRecDepth 100000 in
set_option maxHeartbeats 1600000 in
theorem taken_calls (va vs ve : Value) (X : List SbX) (b : Bk) (s : ByteArray) (w : World) (h : BkAt w va vs ve X b) :
    Calls Try.prog 81 #[.agg #[va, vs, ve], .string s] w (SomeT w) := by
  have hA := h.s
  have hR := h.r
  obtain ⟨aa, an, rfl, -, -⟩ := rec_shape h.a
  obtain ⟨sa, sn, rfl, hla, hma⟩ := rec_shape h.s
  obtain ⟨ea, en, rfl, -, -⟩ := rec_shape h.e
  obtain ⟨W, hW⟩ : ∃ W, W = w.alloc (Obj.cells #[.slice aa b.accs.length an, .slice sa X.length sn, .slice ea b.ended.length en] 72) := ⟨_, rfl⟩
  have hw0 : Below w.heap.size w W := by rw [hW]; go_grown
  have r0 : W.heap[w.heap.size]? = some (Obj.cells #[.slice aa b.accs.length an, .slice sa X.length sn, .slice ea b.ended.length en] 72) := by rw [hW]; exact heap_alloc_new _ _
  have c0 := cell_of_row W _ 1 _ _ _ r0
  have HA := Lib.hid (hA.below hw0)
  have HR := Lib.hid (fun x hx => (hR x hx).below hw0)
  unfold maxLen at hma
  have HW := Lib.hid hW
  have Hw0 := Lib.hid hw0
  clear hW hw0 r0 h hA hR
  go_enter Try.func81, Try.ntmps81
  go_upto_region 1 with (fail)
  rw [← HW.out]
  go_wp2_with fail
  go_loop [5] (fun i => ∃ k : Nat, k ≤ X.length ∧ i = .int .i64 k) (fun i => X.length - (intOf i).toNat)
  case atStart => exact ⟨0, Nat.zero_le _, rfl⟩
  case round =>
    obtain ⟨k, hk, rfl⟩ := hrel
    by_cases hlt : k < X.length
    · have hk1 : (k : Int) < (X.length : Int) := by omega
      have hk0 : (0 : Int) ≤ (k : Int) := Int.natCast_nonneg _
      obtain ⟨a2, n2, e2, -, -, hx⟩ := HA.out
      cases e2
      obtain ⟨bb, o, rfl, hB, hx⟩ := hx (by rintro rfl; cases hlt)
      have x4 := hx k hlt 4 (by decide)
      have Hr := Lib.hid (HR.out X[k] (List.getElem_mem hlt)).1
      clear hx
      generalize X[k] = x at *
      obtain ⟨⟨i1, i2, i3, i4, nus, prs, i5, i6⟩, na, nn, nc, pa, pn, pc⟩ := x
      unfold sbCells at x4
      dsimp only at x4 Hr
      have x4 : W.cell? ⟨bb, o + k * 8 + 4, none⟩ = some (.slice na nn nc) := x4
      go_wp2_with (go_at_call 82; refine (has_calls _ _ _ _ Hr.out).mono ?_; rintro e w2 ⟨rfl, rfl⟩)
      all_goals first
        | (go_ret; exact someT _ Hw0.out)
        | exact ⟨⟨k + 1, by omega, by go_num⟩, by simp [intOf]; omega⟩
    · go_wp2
      go_ret
      exact someT _ Hw0.out

set_option maxRecDepth 100000 in
set_option maxHeartbeats 3200000 in
theorem busy_calls (va vs ve : Value) (X : List SbX) (b : Bk) (n : Int) (w : World) (h : BkAt w va vs ve X b) :
    Calls Try.prog 79 #[.agg #[va, vs, ve], .int .i64 n] w (SomeT w) := by
  have hh := h
  have hA := h.s
  obtain ⟨aa, an, rfl, -, -⟩ := rec_shape h.a
  obtain ⟨sa, sn, rfl, hla, hma⟩ := rec_shape h.s
  obtain ⟨ea, en, rfl, -, -⟩ := rec_shape h.e
  obtain ⟨W, hW⟩ : ∃ W, W = w.alloc (Obj.cells #[.slice aa b.accs.length an, .slice sa X.length sn, .slice ea b.ended.length en] 72) := ⟨_, rfl⟩
  have hw0 : Below w.heap.size w W := by rw [hW]; go_grown
  have r0 : W.heap[w.heap.size]? = some (Obj.cells #[.slice aa b.accs.length an, .slice sa X.length sn, .slice ea b.ended.length en] 72) := by rw [hW]; exact heap_alloc_new _ _
  have hz : w.heap.size < W.heap.size := by rw [hW]; simp
  have HC := Lib.hid (show ∀ Y, Below W.heap.size W Y → Y.cell? ⟨w.heap.size, 0, none⟩ = some (.slice aa b.accs.length an) ∧ Y.cell? ⟨w.heap.size, 1, none⟩ = some (.slice sa X.length sn) ∧ Y.cell? ⟨w.heap.size, 2, none⟩ = some (.slice ea b.ended.length en) from fun Y hb => by
    have q := (hb.block _ hz).trans r0
    exact ⟨cell_of_row Y _ 0 _ _ _ q, cell_of_row Y _ 1 _ _ _ q, cell_of_row Y _ 2 _ _ _ q⟩)
  have HA := Lib.hid (hA.below hw0)
  have HE := Lib.hid (fun i (Y : World) (hb : Below W.heap.size W Y) => ended_calls _ _ _ X b i Y (hh.below (hw0.trans (hb.mono hw0.size))))
  unfold maxLen at hma
  have HW := Lib.hid hW
  have Hw0 := Lib.hid hw0
  clear hW hw0 r0 h hA hh hz
  go_enter Try.func79, Try.ntmps79
  go_upto_region 1 with (fail)
  rw [← HW.out]
  go_wp2_with fail
  go_loopw [5] (fun i wr => ∃ k : Nat, k ≤ X.length ∧ i = .int .i64 k ∧ Below W.heap.size W wr) (fun i _ => X.length - (intOf i).toNat)
  case atStart => exact ⟨0, Nat.zero_le _, rfl, Below.refl _ _⟩
  case round =>
    obtain ⟨wo, rfl⟩ : ∃ wo : World, wo = wr := ⟨_, rfl⟩
    obtain ⟨k, hk, rfl, hb⟩ := hrel
    obtain ⟨c0, c1, c2⟩ := HC.out wo hb
    have Hb := Lib.hid hb
    by_cases hlt : k < X.length
    · have hk1 : (k : Int) < (X.length : Int) := by omega
      have hk0 : (0 : Int) ≤ (k : Int) := Int.natCast_nonneg _
      obtain ⟨a2, n2, e2, -, -, hx⟩ := HA.out.below hb
      cases e2
      obtain ⟨bb, o, rfl, hB, hx⟩ := hx (by rintro rfl; cases hlt)
      have x0 := hx k hlt 0 (by decide)
      have x1 := hx k hlt 1 (by decide)
      clear hx
      generalize X[k] = x at *
      obtain ⟨⟨i1, i2, i3, i4, nus, prs, i5, i6⟩, na, nn, nc, pa, pn, pc⟩ := x
      unfold sbCells at x0 x1
      dsimp only at x0 x1
      have x0 : wo.cell? ⟨bb, o + k * 8, none⟩ = some (.int .i64 i1) := x0
      have x1 : wo.cell? ⟨bb, o + k * 8 + 1, none⟩ = some (.int .i64 i2) := x1
      have f0 := fun p : BelowOf wo => BelowOf.cell (a := ⟨bb, _, none⟩) hB x0 p
      have f1 := fun p : BelowOf wo => BelowOf.cell (a := ⟨bb, _, none⟩) hB x1 p
      have g0 := fun p : BelowOf wo => (HC.out p.w (Hb.out.trans (p.h.mono Hb.out.size))).1
      have g1 := fun p : BelowOf wo => (HC.out p.w (Hb.out.trans (p.h.mono Hb.out.size))).2.1
      have g2 := fun p : BelowOf wo => (HC.out p.w (Hb.out.trans (p.h.mono Hb.out.size))).2.2
      have hrr := Below.refl wo.heap.size wo
      have HEi := Lib.hid (fun p : BelowOf wo => HE.out i1 p.w (Hb.out.trans (p.h.mono Hb.out.size)))
      generalize endedB b i1 = en0 at *
      clear hb
      cases hq : (i2 == n) <;> cases en0
      all_goals
        go_upto_region 4 with (fail)
        refine wp_region_quiet_below hrr (by kernel_rfl) (by kernel_rfl) ?_
        repeat (go_big_quiet_step (first | (go_at_call 80; refine calls_below_of (HEi.out _) (fun e w' h => h))))
        refine wpQuiet_nil ?_
        intro wa hw'
        have hYa : Below wo.heap.size wo wa := by obtain ⟨pq, rfl⟩ := hw'; exact pq.h
        clear hw' f0 f1 g0 g1 g2 hrr
        have Hba := Lib.hid (Hb.out.trans (hYa.mono Hb.out.size))
        clear hYa
        go_wp2
        first
          | (go_ret; exact someT _ (Hw0.out.trans (Hba.out.mono Hw0.out.size)))
          | exact ⟨⟨k + 1, by omega, by go_num, Hba.out⟩, by simp [intOf]; omega⟩
    · go_wp2
      go_ret
      exact someT _ (Hw0.out.trans (Hb.out.mono Hw0.out.size))
end Go.Proofs.Ytmilpaibkemmdaa
