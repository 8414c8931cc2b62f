/-
  Arguments that are tariffs or usages, opened.
-/
import Derived.Test.YtnekgkmlodeckaaMgba
import Derived.Test.YtnekgkmlodeckaaMgam
import Derived.Test.YtnekgkmlodeckaaMgaz
import Derived.Test.YtnekgkmlodeckaaMgaw
namespace Go.Proofs.Ytnekgkmlodeckaa
open Go.ChangeShapes Go.WideShapes Go.ChangeAt Go.RowKit Go.Deep

theorem Try.rateCells : Try.prog.cellsOf 33 = 5 := by kernel_rfl
theorem Try.discountCells : Try.prog.cellsOf 92 = 6 := by kernel_rfl
theorem Try.exprCells : Try.prog.cellsOf 90 = 4 := by kernel_rfl
theorem Try.exprsCells : Try.prog.cellsOf 88 = 1 := by kernel_rfl
theorem Try.stepsCells30 : Try.prog.cellsOf 31 = 1 := by kernel_rfl
theorem Try.zonesCells30 : Try.prog.cellsOf 22 = 1 := by kernel_rfl
theorem Try.bandsCells30 : Try.prog.cellsOf 23 = 1 := by kernel_rfl
theorem Try.ratesCells30 : Try.prog.cellsOf 24 = 1 := by kernel_rfl
theorem Try.discountsCells30 : Try.prog.cellsOf 25 = 1 := by kernel_rfl
theorem Try.tariffCells : Try.prog.cellsOf 27 = 7 := by kernel_rfl
theorem Try.boolCells30 : Try.prog.cellsOf 4 = 1 := by kernel_rfl

section
variable {H : Type} {enc : TypeId × Value → H}
/-- A slice that came in, with the depth of its reading. -/
theorem slice_cellsF {P : Program} {W : World} {sp : Nat → Bool} {fuel c : Nat} {T E : TypeId} {v : Value} {x : DataW H × List MemPlace} (hT : P.underlying T = some (.slice E)) (hc : P.cellsOf E = c) (hc0 : 0 < c) (h : DataW.trod enc P W 0 sp true fuel T [v] = some x) :
    ∃ (av : Option Addr) (len cap n : Nat), n ≤ fuel ∧ v = .slice av len cap ∧ len ≤ cap ∧ cap ≤ maxLen ∧ (0 < len → ∃ b off, av = some ⟨b, off, none⟩ ∧ b < W.heap.size ∧
      ∀ i, i < len → ∃ (cs : List Value) (y : DataW H × List MemPlace), cs.length = c ∧ (∀ j, j < c → W.cell? ⟨b, off + i * c + j, none⟩ = cs[j]?) ∧ DataW.trod enc P W 0 sp true n E cs = some y) := by
  rcases DataW.trod_slice hT h with ⟨hv, -⟩ | ⟨a, len, cap, elems, rest, n, hfu, hv, -, -, hl, hm, hlen, hx, -, -⟩
  · simp only [List.cons.injEq, and_true] at hv
    exact ⟨none, 0, 0, 0, Nat.zero_le _, hv, Nat.le_refl _, Nat.zero_le _, fun h => absurd h (Nat.lt_irrefl _)⟩
  · simp only [List.cons.injEq, and_true] at hv
    refine ⟨some a, len, cap, n, by omega, hv, hl, hm, fun h0 => ?_⟩
    rw [hc] at hx
    have hx2 : ∀ i, i < len → ∃ cs' y, W.cells? 0 (a.add (i * c)) c = some cs' ∧ DataW.trod enc P W 0 sp true n E cs' = some y := fun i hi => by
      have h1 := hx i hi
      rw [List.getElem?_eq_getElem (by omega)] at h1
      obtain ⟨cs', g1, g2⟩ := Option.bind_eq_some_iff.1 h1
      exact ⟨cs', _, g1, g2⟩
    obtain ⟨b, off, spot⟩ := a
    have first : ∃ u, W.cell? ⟨b, off, spot⟩ = some u := by
      obtain ⟨cs', y, g1, -⟩ := hx2 0 h0
      obtain ⟨_, hlen, hcell⟩ := World.cells?_some g1
      have := hcell 0 hc0
      simp only [Nat.zero_mul, Addr.add, if_true] at this
      exact ⟨cs'[0], this.trans (List.getElem?_eq_getElem (by omega))⟩
    obtain ⟨u, hu⟩ := first
    obtain rfl : spot = none := World.cell?_spot hu
    refine ⟨b, off, rfl, World.block_lt_of_cell? W _ hu, fun i hi => ?_⟩
    obtain ⟨cs', y, g1, g2⟩ := hx2 i hi
    obtain ⟨_, hlen, hcell⟩ := World.cells?_some g1
    refine ⟨cs', y, hlen, fun j hj => ?_, g2⟩
    have := hcell j hj
    rw [Go.Deep.add_add, Go.WideShapes.add_plain, ← Nat.add_assoc] at this
    exact this

set_option maxRecDepth 100000 in
theorem expr_of {W : World} {sp : Nat → Bool} : ∀ (k fuel : Nat) (cs : List Value) (x : DataW H × List MemPlace), fuel ≤ k → DataW.trod enc Try.prog W 0 sp true fuel 90 cs = some x → ExprAt W k cs := by
  intro k
  induction k with
  | zero =>
    intro fuel cs x hk h
    obtain rfl : fuel = 0 := by omega
    simp [DataW.trod] at h
  | succ k ih =>
    intro fuel cs x hk h
    obtain ⟨op, e0, -⟩ := int_field Try.underlying90 h Try.underlying3 Try.intCells 0 0 rfl
    obtain ⟨num, e1, -⟩ := int_field Try.underlying90 h Try.underlying3 Try.intCells 1 1 rfl
    obtain ⟨tx, e2, hs⟩ := string_field Try.underlying90 h Try.underlying9 Try.textCells6 2 2 rfl
    obtain ⟨xs, n, hfu, -, hl, hsz, hx⟩ := DataW.trod_struct Try.underlying90 h
    have h3 := hx 3 _ rfl
    rw [Try.exprCells] at hl
    match cs, hl with
    | [v0, v1, v2, v3], _ =>
      rw [List.getElem?_eq_getElem (by rw [hsz]; decide)] at h3
      have h3 : DataW.trod enc Try.prog W 0 sp true n 88 [v3] = some _ := h3
      simp only [List.drop, List.take, List.cons.injEq, and_true] at e0 e1 e2
      subst e0; subst e1; subst e2
      obtain ⟨av, len, cap, m, hmn, rfl, hlc, hcm, hel⟩ := slice_cellsF Try.underlying88 Try.exprCells (by omega) h3
      refine ⟨op, num, tx, av, len, cap, rfl, hs, hlc, hcm, fun h0 => ?_⟩
      obtain ⟨b, off, rfl, hB, hel⟩ := hel h0
      refine ⟨b, off, rfl, hB, fun i hi => ?_⟩
      obtain ⟨cs', y, -, hc, ht⟩ := hel i hi
      exact ⟨cs', hc, ih m cs' y (by omega) ht⟩

theorem stps_of {W : World} {sp : Nat → Bool} {fuel : Nat} {v : Value} {x : DataW H × List MemPlace} (h : DataW.trod enc Try.prog W 0 sp true fuel 31 [v] = some x) : ∃ l, StpAt W v l :=
  sliceOf (R := StCells) (c := 3) Try.underlying31 Try.stepCells (by omega) h fun b o cs n y hl hc ht => by
    obtain ⟨s, rfl⟩ := open_step ht
    exact ⟨s, hc 0 (by omega), hc 1 (by omega), hc 2 (by omega)⟩
theorem rts_of {W : World} {sp : Nat → Bool} {fuel : Nat} {v : Value} {x : DataW H × List MemPlace} (h : DataW.trod enc Try.prog W 0 sp true fuel 24 [v] = some x) : ∃ l, RtsAt W v l :=
  sliceOf (R := RtR) (c := 5) Try.underlying24 Try.rateCells (by omega) h fun b o cs n y hl hc ht => by
    obtain ⟨kd, e0, -⟩ := int_field Try.underlying33 ht Try.underlying3 Try.intCells 0 0 rfl
    obtain ⟨zn, e1, s1⟩ := string_field Try.underlying33 ht Try.underlying9 Try.textCells6 1 1 rfl
    obtain ⟨bn, e2, s2⟩ := string_field Try.underlying33 ht Try.underlying9 Try.textCells6 2 2 rfl
    obtain ⟨su, e3, -⟩ := int_field Try.underlying33 ht Try.underlying3 Try.intCells 3 3 rfl
    obtain ⟨m, z, e4⟩ := struct_field Try.underlying33 ht 4 4 31 1 rfl Try.stepsCells30
    match cs, hl with
    | [v0, v1, v2, v3, v4], _ =>
      simp only [List.drop, List.take, List.cons.injEq, and_true] at e0 e1 e2 e3 e4
      subst e0; subst e1; subst e2; subst e3
      obtain ⟨ss, hs⟩ := stps_of e4
      exact ⟨(kd, zn, bn, su, ss), hc 0 (by omega), ⟨hc 1 (by omega), s1⟩, ⟨hc 2 (by omega), s2⟩, hc 3 (by omega), v4, hc 4 (by omega), hs⟩
theorem dss_of {W : World} {sp : Nat → Bool} {fuel : Nat} {v : Value} {x : DataW H × List MemPlace} (h : DataW.trod enc Try.prog W 0 sp true fuel 25 [v] = some x) : ∃ l, DssAt W v l :=
  sliceOf (R := DsR) (c := 6) Try.underlying25 Try.discountCells (by omega) h fun b o cs n y hl hc ht => by
    obtain ⟨m, z, e1⟩ := struct_field Try.underlying92 ht 1 1 90 4 rfl Try.exprCells
    refine ⟨(m, (cs.drop 1).take 4), fun j hj => ?_, expr_of m m _ z (Nat.le_refl _) e1⟩
    have := hc (1 + j) (by omega)
    rw [← Nat.add_assoc] at this
    rw [this, List.getElem?_take_of_lt hj, List.getElem?_drop]
theorem open_tariff {W : World} {sp : Nat → Bool} {fuel : Nat} {cs : List Value} {x : DataW H × List MemPlace} (hl : cs.length = 7) (h : DataW.trod enc Try.prog W 0 sp true fuel 27 cs = some x) :
    ∃ (nm : ByteArray) (fr : Int) (sl : Bool) (zv bv rv dv : Value) (zs : List Zn) (bs : List Bn) (rs : List Rt) (ds : List (Nat × List Value)), cs = [.string nm, .int .i64 fr, .bool sl, zv, bv, rv, dv] ∧ ZnsAt W zv zs ∧ BnsAt W bv bs ∧ RtsAt W rv rs ∧ DssAt W dv ds := by
  obtain ⟨nm, e0, -⟩ := string_field Try.underlying27 h Try.underlying9 Try.textCells6 0 0 rfl
  obtain ⟨fr, e1, -⟩ := int_field Try.underlying27 h Try.underlying3 Try.intCells 1 1 rfl
  obtain ⟨sl, e2⟩ := bool_field Try.underlying27 h Try.underlying4 Try.boolCells30 2 2 rfl
  obtain ⟨m3, z3, e3⟩ := struct_field Try.underlying27 h 3 3 22 1 rfl Try.zonesCells30
  obtain ⟨m4, z4, e4⟩ := struct_field Try.underlying27 h 4 4 23 1 rfl Try.bandsCells30
  obtain ⟨m5, z5, e5⟩ := struct_field Try.underlying27 h 5 5 24 1 rfl Try.ratesCells30
  obtain ⟨m6, z6, e6⟩ := struct_field Try.underlying27 h 6 6 25 1 rfl Try.discountsCells30
  match cs, hl with
  | [v0, v1, v2, v3, v4, v5, v6], _ =>
    simp only [List.drop, List.take, List.cons.injEq, and_true] at e0 e1 e2 e3 e4 e5 e6
    subst e0; subst e1; subst e2
    obtain ⟨zs, hz⟩ := zns_of e3
    obtain ⟨bs, hb⟩ := bns_of e4
    obtain ⟨rs, hr⟩ := rts_of e5
    obtain ⟨ds, hd⟩ := dss_of e6
    exact ⟨nm, fr, sl, v3, v4, v5, v6, zs, bs, rs, ds, rfl, hz, hb, hr, hd⟩
end
end Go.Proofs.Ytnekgkmlodeckaa
