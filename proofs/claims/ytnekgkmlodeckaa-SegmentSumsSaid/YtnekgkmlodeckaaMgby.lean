/-
  Arguments of chapter 30, opened within the form's reach: tariffs whose ladders are bounded, cases, pairs of texts.
-/
import Derived.Test.YtnekgkmlodeckaaMgbb
import Derived.Test.YtnekgkmlodeckaaMgbg
import Derived.Test.YtnekgkmlodeckaaMgaw
namespace Go.Proofs.Ytnekgkmlodeckaa
open Go.ChangeShapes Go.WideShapes Go.ChangeAt Go.RowKit Go.Deep

theorem Try.stepBytes : Try.prog.bytesOf 94 = 24 := by kernel_rfl
theorem Try.caseCells30 : Try.prog.cellsOf 42 = 14 := by kernel_rfl
theorem Try.usageCells30 : Try.prog.cellsOf 40 = 12 := by kernel_rfl
theorem Try.pairCells30 : Try.prog.cellsOf 28 = 2 := by kernel_rfl
theorem Try.intsCells30 : Try.prog.cellsOf 38 = 1 := by kernel_rfl

/-- A rate whose ladder lies within the form's reach. -/
def RtB (w : World) (b o : Nat) (x : Rt) : Prop := RtR w b o x ∧ x.2.2.2.2.length ≤ 5864062014634

theorem okWide_array {P : Program} {w : World} {r : Reach} {base : Nat} {t e : TypeId} {n : Nat} {v : Value} (ht : P.underlying t = some (.array n e)) (h : Value.okWide P w r base t v) : ∃ cs, v = .agg cs ∧ cs.size = P.cellsOf t := by
  simp only [Value.okWide, ht] at h
  obtain ⟨cs, h1, h2, _⟩ := h
  exact ⟨cs, h1, h2⟩

section
variable {H : Type} {enc : TypeId × Value → H}
theorem stps_ofW {W : World} {sp : Nat → Bool} {fuel : Nat} {v : Value} {x : DataW H × List MemPlace} (h : DataW.trod enc Try.prog W 0 sp true fuel 31 [v] = some x) (hw : Within Try.prog reachBytes 31 x.1) : ∃ l, StpAt W v l ∧ l.length ≤ 5864062014634 := by
  obtain ⟨l, hl, hb⟩ := sliceOfW (R := StCells) (c := 3) Try.underlying31 Try.stepCells (by omega) h hw fun b o cs n y hl hc ht _ => by
    obtain ⟨s, rfl⟩ := open_step ht
    exact ⟨s, hc 0 (by omega), hc 1 (by omega), hc 2 (by omega)⟩
  rw [Try.stepBytes] at hb
  unfold reachBytes at hb
  exact ⟨l, hl, by omega⟩
theorem rts_ofW {W : World} {sp : Nat → Bool} {fuel : Nat} {v : Value} {x : DataW H × List MemPlace} (h : DataW.trod enc Try.prog W 0 sp true fuel 24 [v] = some x) (hw : Within Try.prog reachBytes 24 x.1) : ∃ l, RtsAt W v l ∧ ∀ r ∈ l, r.2.2.2.2.length ≤ 5864062014634 := by
  obtain ⟨l, hl, -⟩ := sliceOfW (R := RtB) (c := 5) Try.underlying24 Try.rateCells (by omega) h hw fun b o cs n y hl hc ht hwy => by
    obtain ⟨kd, e0, -⟩ := int_field Try.underlying33 ht Try.underlying3 Try.intCells 0 0 rfl
    obtain ⟨zn, e1, s1⟩ := string_field Try.underlying33 ht Try.underlying9 Try.textCells6 1 1 rfl
    obtain ⟨bn, e2, s2⟩ := string_field Try.underlying33 ht Try.underlying9 Try.textCells6 2 2 rfl
    obtain ⟨su, e3, -⟩ := int_field Try.underlying33 ht Try.underlying3 Try.intCells 3 3 rfl
    obtain ⟨m, z, e4, w4⟩ := struct_fieldW Try.underlying33 ht hwy 4 4 31 1 rfl Try.stepsCells30
    match cs, hl with
    | [v0, v1, v2, v3, v4], _ =>
      simp only [List.drop, List.take, List.cons.injEq, and_true] at e0 e1 e2 e3 e4
      subst e0; subst e1; subst e2; subst e3
      obtain ⟨ss, hs, hsb⟩ := stps_ofW e4 w4
      exact ⟨(kd, zn, bn, su, ss), ⟨hc 0 (by omega), ⟨hc 1 (by omega), s1⟩, ⟨hc 2 (by omega), s2⟩, hc 3 (by omega), v4, hc 4 (by omega), hs⟩, hsb⟩
  obtain ⟨av, cap, e, hlc, hm, hx⟩ := hl
  refine ⟨l, ⟨av, cap, e, hlc, hm, fun hne => ?_⟩, fun r hr => ?_⟩
  · obtain ⟨b, o, e2, hB, hx⟩ := hx hne
    exact ⟨b, o, e2, hB, fun i hi => (hx i hi).1⟩
  · obtain ⟨i, hi, rfl⟩ := List.mem_iff_getElem.1 hr
    obtain ⟨b, o, -, -, hx⟩ := hx (List.ne_nil_of_mem hr)
    exact (hx i hi).2
theorem open_tariffW {W : World} {sp : Nat → Bool} {fuel : Nat} {cs : List Value} {x : DataW H × List MemPlace} (hl : cs.length = 7) (h : DataW.trod enc Try.prog W 0 sp true fuel 27 cs = some x) (hw : Within Try.prog reachBytes 27 x.1) :
    ∃ (nm : ByteArray) (fr : Int) (sl : Bool) (zv bv rv dv : Value) (zs : List Zn) (bs : List Bn) (rs : List Rt) (ds : List (Nat × List Value)), cs = [.string nm, .int .i64 fr, .bool sl, zv, bv, rv, dv] ∧ ZnsAt W zv zs ∧ BnsAt W bv bs ∧ RtsAt W rv rs ∧ DssAt W dv ds ∧ ∀ r ∈ rs, r.2.2.2.2.length ≤ 5864062014634 := by
  obtain ⟨nm, fr, sl, zv, bv, rv, dv, zs, bs, rs, ds, rfl, hz, hb, -, hd⟩ := open_tariff hl h
  obtain ⟨m5, z5, e5, w5⟩ := struct_fieldW Try.underlying27 h hw 5 5 24 1 rfl Try.ratesCells30
  obtain ⟨rs, hr, hrb⟩ := rts_ofW e5 w5
  exact ⟨nm, fr, sl, zv, bv, rv, dv, zs, bs, rs, ds, rfl, hz, hb, hr, hd, hrb⟩
theorem open_usage {W : World} {sp : Nat → Bool} {fuel : Nat} {cs : List Value} {x : DataW H × List MemPlace} (hl : cs.length = 12) (h : DataW.trod enc Try.prog W 0 sp true fuel 40 cs = some x) : ∃ u : Us, cs = u.row.toList ∧ u.b.size ≤ maxLen := by
  obtain ⟨n0, e0, -⟩ := int_field Try.underlying40 h Try.underlying3 Try.intCells 0 0 rfl
  obtain ⟨n1, e1, -⟩ := int_field Try.underlying40 h Try.underlying3 Try.intCells 1 1 rfl
  obtain ⟨n2, e2, -⟩ := int_field Try.underlying40 h Try.underlying3 Try.intCells 2 2 rfl
  obtain ⟨n3, e3, -⟩ := int_field Try.underlying40 h Try.underlying3 Try.intCells 3 3 rfl
  obtain ⟨n4, e4, -⟩ := string_field Try.underlying40 h Try.underlying9 Try.textCells6 4 4 rfl
  obtain ⟨n5, e5, s5⟩ := string_field Try.underlying40 h Try.underlying9 Try.textCells6 5 5 rfl
  obtain ⟨n6, e6, -⟩ := int_field Try.underlying40 h Try.underlying3 Try.intCells 6 6 rfl
  obtain ⟨n7, e7, -⟩ := int_field Try.underlying40 h Try.underlying3 Try.intCells 7 7 rfl
  obtain ⟨n8, e8, -⟩ := int_field Try.underlying40 h Try.underlying3 Try.intCells 8 8 rfl
  obtain ⟨n9, e9⟩ := bool_field Try.underlying40 h Try.underlying4 Try.boolCells30 9 9 rfl
  obtain ⟨n10, e10, -⟩ := int_field Try.underlying40 h Try.underlying3 Try.intCells 10 10 rfl
  obtain ⟨n11, e11, -⟩ := int_field Try.underlying40 h Try.underlying3 Try.intCells 11 11 rfl
  match cs, hl with
  | [v0, v1, v2, v3, v4, v5, v6, v7, v8, v9, v10, v11], _ =>
    simp only [List.drop, List.take, List.cons.injEq, and_true] at e0 e1 e2 e3 e4 e5 e6 e7 e8 e9 e10 e11
    subst e0; subst e1; subst e2; subst e3; subst e4; subst e5; subst e6; subst e7; subst e8; subst e9; subst e10; subst e11
    exact ⟨⟨n0, n1, n2, n3, n4, n5, n6, n7, n8, n9, n10, n11⟩, rfl, s5⟩
set_option maxRecDepth 100000 in
theorem open_case30 {W : World} {sp : Nat → Bool} {fuel : Nat} {cs : List Value} {x : DataW H × List MemPlace} (hl : cs.length = 14) (h : DataW.trod enc Try.prog W 0 sp true fuel 42 cs = some x) : ∃ (vh : Value) (hol : List Int) (u : Us) (free : Int), cs = vh :: (u.row.toList ++ [.int .i64 free]) ∧ IcsAt W vh hol ∧ u.b.size ≤ maxLen := by
  obtain ⟨m0, z0, e0⟩ := struct_field Try.underlying42 h 0 0 38 1 rfl Try.intsCells30
  obtain ⟨m1, z1, e1⟩ := struct_field Try.underlying42 h 1 1 40 12 rfl Try.usageCells30
  obtain ⟨n2, e2, -⟩ := int_field Try.underlying42 h Try.underlying3 Try.intCells 2 13 rfl
  obtain ⟨u, hu, hub⟩ := open_usage (by rw [List.length_take, List.length_drop]; omega) e1
  match cs, hl with
  | [v0, v1, v2, v3, v4, v5, v6, v7, v8, v9, v10, v11, v12, v13], _ =>
    simp only [List.drop, List.take, List.cons.injEq, and_true] at e0 e2
    subst e2
    obtain ⟨hol, hh⟩ := ics_of e0
    refine ⟨v0, hol, u, n2, ?_, hh, hub⟩
    rw [← hu]
    rfl
theorem array_cells {P : Program} {W : World} {sp : Nat → Bool} {fuel n : Nat} {T e : TypeId} {cs : List Value} {x : DataW H × List MemPlace} (ht : P.underlying T = some (.array n e)) (hc : P.cellsOf e = 1) (h : DataW.trod enc P W 0 sp true fuel T cs = some x) :
    cs.length = P.cellsOf T ∧ ∀ i, i < n → ∃ m y, DataW.trod enc P W 0 sp true m e ((cs.drop i).take 1) = some y := by
  obtain ⟨xs, m, -, -, hl, hlx, hx⟩ := DataW.trod_array ht h
  refine ⟨hl, fun i hi => ⟨m, xs[i], ?_⟩⟩
  have h0 := hx i hi
  rw [hc, Nat.mul_one, List.getElem?_eq_getElem (by omega)] at h0
  exact h0
theorem open_pair {W : World} {sp : Nat → Bool} {fuel : Nat} {cs : List Value} {x : DataW H × List MemPlace} (hl : cs.length = 2) (h : DataW.trod enc Try.prog W 0 sp true fuel 28 cs = some x) : ∃ a b : ByteArray, cs = [.string a, .string b] := by
  obtain ⟨-, hx⟩ := array_cells Try.underlying28 Try.textCells6 h
  obtain ⟨m0, y0, h0⟩ := hx 0 (by decide)
  obtain ⟨m1, y1, h1⟩ := hx 1 (by decide)
  match cs, hl with
  | [v0, v1], _ =>
    simp only [List.drop, List.take] at h0 h1
    obtain ⟨a, ea, -⟩ := DataW.trod_string Try.underlying9 h0
    obtain ⟨b, eb, -⟩ := DataW.trod_string Try.underlying9 h1
    simp only [List.cons.injEq, and_true] at ea eb
    subst ea; subst eb
    exact ⟨a, b, rfl⟩
end
end Go.Proofs.Ytnekgkmlodeckaa
