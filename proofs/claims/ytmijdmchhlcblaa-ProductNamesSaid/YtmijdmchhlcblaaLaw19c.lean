/-
  The body of ProductCovers.
-/
import Derived.Test.YtmijdmchhlcblaaLaw19b
import Derived.Test.YtmijdmchhlcblaaCover19
namespace Go.Proofs.Ytmijdmchhlcblaa
open Go.RowKit

/-- What At returns, as far as the laws look at it. -/
def AtU (w : World) (o : Option Pd) (e : Ending) (w' : World) : Prop :=
  ∃ (nm : ByteArray) (fm fe : Int) (ct : ByteArray) (pro : Bool) (av : Option Addr) (n cap : Nat), e = .returned (.tuple #[.agg #[.string nm, .int .i64 fm, .int .i64 fe, .string ct, .bool pro, .slice av n cap], .bool o.isSome]) ∧
    (∀ p, o = some p → fm = p.fm ∧ fe = p.fe) ∧ Below w.heap.size w w'

theorem at_u (v : Value) (l : List Pd) (s : ByteArray) (x : Int) (w : World) (h : PdsAt w v l) (hf : FewP l) :
    Calls Try.prog 21 #[v, .string s, .int .i64 x] w (AtU w (atL l s x)) := by
  cases ha : atL l s x with
  | none =>
    exact (at_no v l s x w h hf ha).mono fun _ _ ⟨h1, h2⟩ => ⟨⟨#[]⟩, 0, 0, ⟨#[]⟩, false, none, 0, 0, h1, fun p hp => by (cases hp), h2⟩
  | some p =>
    refine (at_yes v l s x p w h hf ha).mono fun _ _ ⟨bv, h1, h2, h3⟩ => ?_
    obtain ⟨av, cap, rfl, -⟩ := h2
    exact ⟨p.nm, p.fm, p.fe, p.ct, p.pro, av, p.bs.length, cap, h1, fun q hq => by (injection hq with hq; rw [hq]; exact ⟨rfl, rfl⟩), h3⟩

theorem fees_r (v : Value) (l : List Pd) (s : ByteArray) (f t : Int) (w : World) (h : PdsAt w v l) (hf : FewP l) (h1 : 0 ≤ f) (h2 : f < t) (h3 : t ≤ 12622780800) :
    Calls Try.prog 28 #[v, .string s, .agg #[.int .i64 f, .int .i64 t]] w (PrsTo w (feesR f t (l.filter fun p : Pd => eqS p.nm s))) :=
  (fees_calls v l s f t w h hf.1 h1 h2 h3).mono fun _ _ ⟨v', g1, g2, g3⟩ => ⟨v', g1, by rw [← feesL_R]; exact PrsAt.own g2, g3⟩

set_option maxRecDepth 100000 in
set_option maxHeartbeats 3200000 in
theorem covers_no (hA : Awake19) (v : Value) (l : List Pd) (s : ByteArray) (f t : Int) (w : World) (h : PdsAt w v l) (hno : fewL l = false ∨ ascB l = false ∨ f < 0 ∨ t ≤ f ∨ 12622780800 < t) :
    Calls Try.prog 7 #[v, .string s, .agg #[.int .i64 f, .int .i64 t]] w fun e w' => e = .returned (.bool true) ∧ Below w.heap.size w w' := by
  obtain ⟨W, hW⟩ : ∃ W, W = w.alloc (Obj.cells #[Value.int .i64 f, Value.int .i64 t] 42) := ⟨_, rfl⟩
  have hw0 : Below w.heap.size w W := by rw [hW]; go_grown
  have hz : W.heap.size = w.heap.size + 1 := by rw [hW]; simp
  have r2 : W.heap[w.heap.size]? = some (Obj.cells #[Value.int .i64 f, Value.int .i64 t] 42) := by rw [hW]; exact heap_alloc_new _ _
  have HW := Lib.hid hW
  have HA := Lib.hid hA
  have hz2 : w.heap.size < W.heap.size := by omega
  have Hf := Lib.hid (few_calls v l W (h.below hw0))
  have Hc := Lib.hid (asc_calls v l W (h.below hw0))
  have Hr := Lib.hid r2
  clear hW r2 hz h hA
  cases hx : fewL l with
  | false =>
    rw [hx] at Hf
    clear Hc hno
    go_enter Try.func7, Try.ntmps7
    go_wp2_with fail
    rw [← HW.out]
    refine Hf.out.mono ?_
    rintro e w0 ⟨rfl, hw1⟩
    subst w0
    go_wp2_with fail
    refine (HA.out _).mono ?_
    rintro e w2 ⟨rfl, hb⟩
    go_wp2
    go_ret
    exact ⟨rfl, hw0.trans (hb.mono hw0.size)⟩
  | true =>
    rw [hx] at Hf
    cases hy : ascB l with
    | false =>
      rw [hy] at Hc
      clear hno
      go_enter Try.func7, Try.ntmps7
      go_wp2_with fail
      rw [← HW.out]
      refine Hf.out.mono ?_
      rintro e w0 ⟨rfl, hw1⟩
      subst w0
      go_wp2_with fail
      refine Hc.out.mono ?_
      rintro e w1 ⟨rfl, hb0⟩
      go_wp2_with fail
      refine (HA.out _).mono ?_
      rintro e w2 ⟨rfl, hb⟩
      have hb2 := hb0.trans (hb.mono hb0.size)
      go_wp2
      go_ret
      exact ⟨rfl, hw0.trans (hb2.mono hw0.size)⟩
    | true =>
      rw [hy] at Hc
      have hno2 : f < 0 ∨ t ≤ f ∨ 12622780800 < t := by
        rcases hno with h | h | h
        · rw [hx] at h; cases h
        · rw [hy] at h; cases h
        · exact h
      clear hno hx hy
      by_cases h1 : f < 0
      · have k1 : decide (f < 0) = true := decide_eq_true h1
        clear hno2
        go_enter Try.func7, Try.ntmps7
        go_wp2_with fail
        rw [← HW.out]
        refine Hf.out.mono ?_
        rintro e w0 ⟨rfl, hw1⟩
        subst w0
        go_wp2_with fail
        refine Hc.out.mono ?_
        rintro e w1 ⟨rfl, hb0⟩
        have q := (hb0.block _ hz2).trans Hr.out
        have q0 : w1.cell? ⟨w.heap.size, 0, none⟩ = some (.int .i64 f) := cell_of_row w1 _ 0 _ _ _ q
        have q1 : w1.cell? ⟨w.heap.size, 1, none⟩ = some (.int .i64 t) := cell_of_row w1 _ 1 _ _ _ q
        clear q
        go_wp2_with fail
        refine (HA.out _).mono ?_
        rintro e w2 ⟨rfl, hb⟩
        have hb2 := hb0.trans (hb.mono hb0.size)
        go_wp2
        go_ret
        exact ⟨rfl, hw0.trans (hb2.mono hw0.size)⟩
      · have k1 : decide (f < 0) = false := decide_eq_false h1
        by_cases h2 : t ≤ f
        · have k2 : decide (t ≤ f) = true := decide_eq_true h2
          clear hno2
          go_enter Try.func7, Try.ntmps7
          go_wp2_with fail
          rw [← HW.out]
          refine Hf.out.mono ?_
          rintro e w0 ⟨rfl, hw1⟩
          subst w0
          go_wp2_with fail
          refine Hc.out.mono ?_
          rintro e w1 ⟨rfl, hb0⟩
          have q := (hb0.block _ hz2).trans Hr.out
          have q0 : w1.cell? ⟨w.heap.size, 0, none⟩ = some (.int .i64 f) := cell_of_row w1 _ 0 _ _ _ q
          have q1 : w1.cell? ⟨w.heap.size, 1, none⟩ = some (.int .i64 t) := cell_of_row w1 _ 1 _ _ _ q
          clear q
          go_wp2_with fail
          refine (HA.out _).mono ?_
          rintro e w2 ⟨rfl, hb⟩
          have hb2 := hb0.trans (hb.mono hb0.size)
          go_wp2
          go_ret
          exact ⟨rfl, hw0.trans (hb2.mono hw0.size)⟩
        · have k2 : decide (t ≤ f) = false := decide_eq_false h2
          have k3 : decide (12622780800 < t) = true := decide_eq_true (by omega)
          clear hno2
          go_enter Try.func7, Try.ntmps7
          go_wp2_with fail
          rw [← HW.out]
          refine Hf.out.mono ?_
          rintro e w0 ⟨rfl, hw1⟩
          subst w0
          go_wp2_with fail
          refine Hc.out.mono ?_
          rintro e w1 ⟨rfl, hb0⟩
          have q := (hb0.block _ hz2).trans Hr.out
          have q0 : w1.cell? ⟨w.heap.size, 0, none⟩ = some (.int .i64 f) := cell_of_row w1 _ 0 _ _ _ q
          have q1 : w1.cell? ⟨w.heap.size, 1, none⟩ = some (.int .i64 t) := cell_of_row w1 _ 1 _ _ _ q
          clear q
          go_wp2_with fail
          refine (HA.out _).mono ?_
          rintro e w2 ⟨rfl, hb⟩
          have hb2 := hb0.trans (hb.mono hb0.size)
          go_wp2
          go_ret
          exact ⟨rfl, hw0.trans (hb2.mono hw0.size)⟩
end Go.Proofs.Ytmijdmchhlcblaa
