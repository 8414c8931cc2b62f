/-
  The case of the laws of chapter 35, opened within the form's reach: events, products, a state, an account; a subscription and a product; a bucket.
-/
import Derived.Test.YtngippiilgdnoaaMcbu
import Derived.Test.YtngippiilgdnoaaMcbv
import Derived.Test.YtngippiilgdnoaaMcbw
import Derived.Test.YtngippiilgdnoaaMcbt
set_option maxRecDepth 100000
set_option maxHeartbeats 25600000
namespace Go.Proofs.Ytngippiilgdnoaa
open Go.ChangeShapes Go.WideShapes Go.ChangeAt Go.RowKit Go.Deep
theorem Try.buCells35 : Try.prog.cellsOf 26 = 12 := by kernel_rfl
theorem Try.textBytes35 : Try.prog.bytesOf 9 = 16 := by kernel_rfl
section
variable {H : Type} {enc : TypeId × Value → H}
theorem strs_ofW {W : World} {sp : Nat → Bool} {fuel : Nat} {v : Value} {x : DataW H × List MemPlace} (h : DataW.trod enc Try.prog W 0 sp true fuel 22 [v] = some x) (hw : Within Try.prog reachBytes 22 x.1) : ∃ l, StrsAt W v l ∧ l.length * 16 ≤ 140737488355328 := by
 obtain ⟨l, hl, hb⟩ := sliceOfW (R := StrR) (c := 1) Try.underlying22 Try.stringCells1 (by omega) h hw fun b o cs n y hl hc ht _ => by
  obtain ⟨s, hs, -, hw⟩ := DataW.trod_string Try.underlying9 ht
  subst hs
  exact ⟨s, hc 0 (by omega), hw⟩
 rw [Try.textBytes35] at hb
 unfold reachBytes at hb
 exact ⟨l, hl, by omega⟩
theorem bu_ofW {W : World} {sp : Nat → Bool} {fuel : Nat} {cs : List Value} {x : DataW H × List MemPlace} (hl : cs.length = 12) (h : DataW.trod enc Try.prog W 0 sp true fuel 26 cs = some x) (hw : Within Try.prog reachBytes 26 x.1) :
 ∃ z : BuX, cs = buCells z ∧ BuRd W z ∧ KeyB z.b ∧ -9223372036854775808 ≤ z.b.un ∧ z.b.un ≤ 9223372036854775807 ∧ -9223372036854775808 ≤ z.b.lf ∧ z.b.lf ≤ 9223372036854775807 := by
 obtain ⟨ac, e0, b0⟩ := int_field Try.underlying26 h Try.underlying3 Try.intCells2 0 0 rfl
 obtain ⟨sb, e1, b1⟩ := int_field Try.underlying26 h Try.underlying3 Try.intCells2 1 1 rfl
 obtain ⟨ix, e3, b3⟩ := int_field Try.underlying26 h Try.underlying3 Try.intCells2 3 3 rfl
 obtain ⟨kd, e4, b4⟩ := int_field Try.underlying26 h Try.underlying3 Try.intCells2 4 4 rfl
 obtain ⟨un, e7, b7⟩ := int_field Try.underlying26 h Try.underlying3 Try.intCells2 7 8 rfl
 obtain ⟨lf, e8, b8⟩ := int_field Try.underlying26 h Try.underlying3 Try.intCells2 8 9 rfl
 obtain ⟨pt, e9, b9⟩ := int_field Try.underlying26 h Try.underlying3 Try.intCells2 9 10 rfl
 obtain ⟨pr, e2, s2⟩ := string_field Try.underlying26 h Try.underlying9 Try.textCells17 2 2 rfl
 obtain ⟨m5, z5, e5, w5⟩ := struct_fieldW Try.underlying26 h hw 5 5 22 1 rfl Try.textsCells
 obtain ⟨m6, z6, e6⟩ := struct_field Try.underlying26 h 6 6 24 2 rfl Try.periodCells
 obtain ⟨sh, e10⟩ := bool_field Try.underlying26 h Try.underlying4 Try.boolCells 10 11 rfl
 match cs, hl with
 | [v0, v1, v2, v3, v4, v5, v6, v7, v8, v9, v10, v11], _ =>
  simp only [List.drop, List.take] at e5 e6
  simp only [List.drop, List.take, List.cons.injEq, and_true] at e0 e1 e2 e3 e4 e7 e8 e9 e10
  obtain ⟨f, t, he, hb, -⟩ := open_period rfl e6
  simp only [List.cons.injEq, and_true] at he
  obtain ⟨rfl, rfl⟩ := he
  subst e0; subst e1; subst e2; subst e3; subst e4; subst e7; subst e8; subst e9; subst e10
  obtain ⟨zs, hz, hzl⟩ := strs_ofW e5 w5
  have hz2 := hz
  obtain ⟨za, zc, rfl, -⟩ := hz2
  exact ⟨⟨⟨ac, sb, pr, ix, kd, zs, f, t, un, lf, pt, sh⟩, za, zs.length, zc⟩, rfl, ⟨hz, s2, hzl⟩, ⟨wf64 b1.1 b1.2, s2, wf64 b3.1 b3.2, wf64 hb.1 hb.2⟩, b7.1, b7.2, b8.1, b8.2⟩
end
end Go.Proofs.Ytngippiilgdnoaa
