/-
  Arguments that are events, opened; arrays of three numbers.
  An argument of three numbers, opened.
-/
import Derived.Test.YtmilpaibkemmdaaMgbq
import Derived.Test.YtmilpaibkemmdaaMgac
import Derived.Test.YtmilpaibkemmdaaMgas
namespace Go.Proofs.Ytmilpaibkemmdaa
open Go.ChangeShapes Go.WideShapes Go.ChangeAt Go.RowKit Go.Deep

theorem Try.eventCells : Try.prog.cellsOf 55 = 7 := by kernel_rfl
theorem Try.textCells17 : Try.prog.cellsOf 9 = 1 := by kernel_rfl

theorem okWide_array {P : Program} {w : World} {r : Reach} {base : Nat} {t e : TypeId} {n : Nat} {v : Value} (ht : P.underlying t = some (.array n e)) (h : Value.okWide P w r base t v) : ∃ cs, v = .agg cs ∧ cs.size = P.cellsOf t := by
  simp only [Value.okWide, ht] at h
  obtain ⟨cs, h1, h2, _⟩ := h
  exact ⟨cs, h1, h2⟩
/-- An event in memory, with texts of a length. -/
def EvR (w : World) (b o : Nat) (e : Ev) : Prop := RecR evCells 7 w b o e ∧ e.nu.size ≤ maxLen ∧ e.nm.size ≤ maxLen
section
variable {H : Type} {enc : TypeId × Value → H}
theorem evs_of {W : World} {sp : Nat → Bool} {fuel : Nat} {v : Value} {x : DataW H × List MemPlace} (h : DataW.trod enc Try.prog W 0 sp true fuel 22 [v] = some x) : ∃ l, EvsAt W v l := by
  obtain ⟨l, hl⟩ := sliceOf (R := EvR) (c := 7) Try.underlying22 Try.eventCells (by omega) h fun b o cs n y hl hc ht => by
    obtain ⟨tm, e0, -⟩ := int_field Try.underlying55 ht Try.underlying3 Try.intCells2 0 0 rfl
    obtain ⟨kd, e1, -⟩ := int_field Try.underlying55 ht Try.underlying3 Try.intCells2 1 1 rfl
    obtain ⟨ac, e2, -⟩ := int_field Try.underlying55 ht Try.underlying3 Try.intCells2 2 2 rfl
    obtain ⟨sb, e3, -⟩ := int_field Try.underlying55 ht Try.underlying3 Try.intCells2 3 3 rfl
    obtain ⟨nu, e4, s4⟩ := string_field Try.underlying55 ht Try.underlying9 Try.textCells17 4 4 rfl
    obtain ⟨nm, e5, s5⟩ := string_field Try.underlying55 ht Try.underlying9 Try.textCells17 5 5 rfl
    obtain ⟨vl, e6, -⟩ := int_field Try.underlying55 ht Try.underlying3 Try.intCells2 6 6 rfl
    match cs, hl with
    | [v0, v1, v2, v3, v4, v5, v6], _ =>
      simp only [List.drop, List.take, List.cons.injEq, and_true] at e0 e1 e2 e3 e4 e5 e6
      subst e0; subst e1; subst e2; subst e3; subst e4; subst e5; subst e6
      exact ⟨⟨tm, kd, ac, sb, nu, nm, vl⟩, fun j hj => hc j hj, s4, s5⟩
  obtain ⟨av, cap, e, hlc, hm, hx⟩ := hl
  refine ⟨l, ⟨av, cap, e, hlc, hm, fun hne => ?_⟩, fun r hr => ?_⟩
  · obtain ⟨b, o, e2, hB, hx⟩ := hx hne
    exact ⟨b, o, e2, hB, fun i hi => (hx i hi).1⟩
  · obtain ⟨i, hi, rfl⟩ := List.mem_iff_getElem.1 hr
    obtain ⟨b, o, -, -, hx⟩ := hx (List.ne_nil_of_mem hr)
    exact (hx i hi).2
end
end Go.Proofs.Ytmilpaibkemmdaa

namespace Go.Proofs.Ytmilpaibkemmdaa
open Go.ChangeShapes Go.WideShapes Go.ChangeAt Go.RowKit Go.Deep

theorem Try.threeCells : Try.prog.cellsOf 35 = 3 := by kernel_rfl
section
variable {H : Type} {enc : TypeId × Value → H}
theorem array_cells {P : Program} {W : World} {sp : Nat → Bool} {fuel n : Nat} {T e : TypeId} {cs : List Value} {x : DataW H × List MemPlace} (ht : P.underlying T = some (.array n e)) (hc : P.cellsOf e = 1) (h : DataW.trod enc P W 0 sp true fuel T cs = some x) :
    cs.length = P.cellsOf T ∧ ∀ i, i < n → ∃ m y, DataW.trod enc P W 0 sp true m e ((cs.drop i).take 1) = some y := by
  obtain ⟨xs, m, -, -, hl, hlx, hx⟩ := DataW.trod_array ht h
  refine ⟨hl, fun i hi => ⟨m, xs[i], ?_⟩⟩
  have h0 := hx i hi
  rw [hc, Nat.mul_one, List.getElem?_eq_getElem (by omega)] at h0
  exact h0
theorem open_three {W : World} {sp : Nat → Bool} {fuel : Nat} {cs : List Value} {x : DataW H × List MemPlace} (hl : cs.length = 3) (h : DataW.trod enc Try.prog W 0 sp true fuel 35 cs = some x) : ∃ a b c : Int, cs = [.int .i64 a, .int .i64 b, .int .i64 c] := by
  obtain ⟨-, hx⟩ := array_cells Try.underlying35 Try.intCells2 h
  obtain ⟨m0, y0, h0⟩ := hx 0 (by decide)
  obtain ⟨m1, y1, h1⟩ := hx 1 (by decide)
  obtain ⟨m2, y2, h2⟩ := hx 2 (by decide)
  match cs, hl with
  | [v0, v1, v2], _ =>
    simp only [List.drop, List.take] at h0 h1 h2
    obtain ⟨a, ea, -⟩ := DataW.trod_int Try.underlying3 h0
    obtain ⟨b, eb, -⟩ := DataW.trod_int Try.underlying3 h1
    obtain ⟨c, ec, -⟩ := DataW.trod_int Try.underlying3 h2
    simp only [List.cons.injEq, and_true] at ea eb ec
    subst ea; subst eb; subst ec
    exact ⟨a, b, c, rfl⟩
end
end Go.Proofs.Ytmilpaibkemmdaa
