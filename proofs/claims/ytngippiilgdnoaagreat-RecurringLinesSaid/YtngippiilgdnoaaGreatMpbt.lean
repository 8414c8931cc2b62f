/-
  Arguments that are events, opened; arrays of three numbers.
  The case of law 44, opened: events, products, a period.
-/
import Derived.Test.YtngippiilgdnoaaGreatMpbs
import Derived.Test.YtngippiilgdnoaaGreatMpae
import Derived.Test.YtngippiilgdnoaaGreatMpao
import Derived.Test.YtngippiilgdnoaaGreatMpbm
namespace Go.Proofs.YtngippiilgdnoaaGreat
open Go.ChangeShapes Go.WideShapes Go.ChangeAt Go.RowKit Go.Deep

theorem Tryz.eventCells : Tryz.prog.cellsOf 55 = 7 := by kernel_rfl
theorem Tryz.textCells17 : Tryz.prog.cellsOf 9 = 1 := by kernel_rfl

/-- An event in memory, with texts of a length. -/
def EvR (w : World) (b o : Nat) (e : Ev) : Prop := RecR evCells 7 w b o e ∧ e.nu.size ≤ maxLen ∧ e.nm.size ≤ maxLen
section
variable {H : Type} {enc : TypeId × Value → H}
theorem evs_of {W : World} {sp : Nat → Bool} {fuel : Nat} {v : Value} {x : DataW H × List MemPlace} (h : DataW.trod enc Tryz.prog W 0 sp true fuel 22 [v] = some x) : ∃ l, EvsAt W v l := by
  obtain ⟨l, hl⟩ := sliceOf (R := EvR) (c := 7) Tryz.underlying22 Tryz.eventCells (by omega) h fun b o cs n y hl hc ht => by
    obtain ⟨tm, e0, -⟩ := int_field Tryz.underlying55 ht Tryz.underlying3 Tryz.intCells2 0 0 rfl
    obtain ⟨kd, e1, -⟩ := int_field Tryz.underlying55 ht Tryz.underlying3 Tryz.intCells2 1 1 rfl
    obtain ⟨ac, e2, -⟩ := int_field Tryz.underlying55 ht Tryz.underlying3 Tryz.intCells2 2 2 rfl
    obtain ⟨sb, e3, -⟩ := int_field Tryz.underlying55 ht Tryz.underlying3 Tryz.intCells2 3 3 rfl
    obtain ⟨nu, e4, s4⟩ := string_field Tryz.underlying55 ht Tryz.underlying9 Tryz.textCells17 4 4 rfl
    obtain ⟨nm, e5, s5⟩ := string_field Tryz.underlying55 ht Tryz.underlying9 Tryz.textCells17 5 5 rfl
    obtain ⟨vl, e6, -⟩ := int_field Tryz.underlying55 ht Tryz.underlying3 Tryz.intCells2 6 6 rfl
    match cs, hl with
    | [v0, v1, v2, v3, v4, v5, v6], _ =>
      simp only [List.drop, List.take, List.cons.injEq, and_true] at e0 e1 e2 e3 e4 e5 e6
      subst e0; subst e1; subst e2; subst e3; subst e4; subst e5; subst e6
      exact ⟨⟨tm, kd, ac, sb, nu, nm, vl⟩, fun j hj => hc j hj, s4, s5⟩
  obtain ⟨av, cap, e, hlc, hm, hx⟩ := hl
  refine ⟨l, ⟨av, cap, e, hlc, hm, fun hne => ?_⟩, fun r hr => ?_⟩
  · obtain ⟨b, o, e2, hB, hx⟩ := hx hne
    exact ⟨b, o, e2, hB, fun i hi => (hx i hi).1⟩
  · obtain ⟨i, hi, rfl⟩ := List.mem_iff_getElem.1 hr
    obtain ⟨b, o, -, -, hx⟩ := hx (List.ne_nil_of_mem hr)
    exact (hx i hi).2
end
end Go.Proofs.YtngippiilgdnoaaGreat

namespace Go.Proofs.YtngippiilgdnoaaGreat
open Go.ChangeShapes Go.WideShapes Go.ChangeAt Go.RowKit Go.Deep

theorem Tryz.caseCells44 : Tryz.prog.cellsOf 27 = 4 := by kernel_rfl
theorem Tryz.eventsCells44 : Tryz.prog.cellsOf 22 = 1 := by kernel_rfl
theorem Tryz.productsCells44 : Tryz.prog.cellsOf 23 = 1 := by kernel_rfl

section
variable {H : Type} {enc : TypeId × Value → H}
theorem open_case44 {W : World} {sp : Nat → Bool} {fuel : Nat} {cs : List Value} {x : DataW H × List MemPlace} (hl : cs.length = 4) (h : DataW.trod enc Tryz.prog W 0 sp true fuel 27 cs = some x) :
    ∃ (ea pa : Option Addr) (en pn ec pc : Nat) (f t : Int) (l : List Ev) (P : List Pd), cs = [.slice ea en ec, .slice pa pn pc, .int .i64 f, .int .i64 t] ∧ EvsAt W (.slice ea en ec) l ∧ PdsAt W (.slice pa pn pc) P := by
  obtain ⟨n0, y0, e0⟩ := struct_field Tryz.underlying27 h 0 0 22 1 rfl Tryz.eventsCells44
  obtain ⟨n1, y1, e1⟩ := struct_field Tryz.underlying27 h 1 1 23 1 rfl Tryz.productsCells44
  obtain ⟨n2, y2, e2⟩ := struct_field Tryz.underlying27 h 2 2 25 2 rfl Tryz.periodCells
  match cs, hl with
  | [v0, v1, v2, v3], _ =>
    simp only [List.drop, List.take] at e0 e1 e2
    obtain ⟨f, t, he, -⟩ := open_period rfl e2
    simp only [List.cons.injEq, and_true] at he
    obtain ⟨rfl, rfl⟩ := he
    obtain ⟨l, hl⟩ := evs_of e0
    obtain ⟨P, hP⟩ := pds_of e1
    have q1 := hl
    have q2 := hP
    obtain ⟨⟨ea, ec, g1, -⟩, -⟩ := q1
    obtain ⟨pa, pc, g2, -⟩ := q2
    subst g1; subst g2
    exact ⟨ea, pa, _, _, ec, pc, f, t, l, P, rfl, hl, hP⟩
end
end Go.Proofs.YtngippiilgdnoaaGreat
