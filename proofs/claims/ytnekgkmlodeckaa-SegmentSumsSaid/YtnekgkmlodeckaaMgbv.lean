/-
  The example of chapter 30 in plain words: its segments and their price.
-/
import Derived.Test.YtnekgkmlodeckaaMgbt
namespace Go.Proofs.Ytnekgkmlodeckaa
open Go.RowKit

abbrev sDay : ByteArray := { data := #[100, 97, 121] }
abbrev sNight : ByteArray := { data := #[110, 105, 103, 104, 116] }
abbrev s49 : ByteArray := { data := #[52, 57] }
abbrev exB : List Bn := [(sDay, [(1, 480, 1080)]), (sNight, [])]
abbrev exR : List Rt := [(1, { data := #[] }, { data := #[] }, 5, [⟨60, 60, 1000⟩, ⟨0, 1, 20⟩])]
abbrev exU : Us := ⟨0, 1, 0, 0, { data := #[] }, s49, 201570, 100, 0, false, 0, 0⟩
abbrev exSg : List Sg := [(sNight, 201580, 20, 0), (sDay, 201600, 70, 0)]
abbrev exPr : List Sg := [(sNight, 201580, 20, 1000), (sDay, 201600, 70, 600)]
theorem exB_check : checkB exB = 0 := by decide +kernel
theorem exB_night : ∀ i : Fin 20, bandAt exB [] (201580 + (i.val : Int)) = sNight := by decide +kernel
theorem exB_day : ∀ i : Fin 70, bandAt exB [] (201600 + (i.val : Int)) = sDay := by decide +kernel
theorem exB_rle : Rle (bandAt exB []) 201580 201670 [(sNight, 201580, 201600), (sDay, 201600, 201670)] := by
  refine ⟨rfl, by dsimp only; decide, fun t h1 h2 => ?_, by dsimp only; decide, Or.inr ?_, rfl, by dsimp only; decide, fun t h1 h2 => ?_, by dsimp only; decide, Or.inl rfl, rfl⟩
  · dsimp only at h2 ⊢
    have h := exB_night ⟨(t - 201580).toNat, by omega⟩
    dsimp only at h
    rwa [show (201580 : Int) + ((t - 201580).toNat : Int) = t by omega] at h
  · dsimp only
    have h := exB_day ⟨0, by decide⟩
    dsimp only at h
    rw [show (201600 : Int) + ((0 : Nat) : Int) = 201600 by omega] at h
    rw [h]
    decide
  · dsimp only at h1 h2 ⊢
    have h := exB_day ⟨(t - 201600).toNat, by omega⟩
    dsimp only at h
    rwa [show (201600 : Int) + ((t - 201600).toNat : Int) = t by omega] at h
theorem exU_proper : properP exU 10 = true := by decide +kernel
theorem ex_seg {L : List Sg} (h : SegR exB [] true exU 10 L) : L = exSg := by
  unfold SegR at h
  rw [if_pos ⟨exU_proper, exB_check⟩, if_pos ⟨rfl, rfl⟩] at h
  obtain ⟨P, hP, rfl⟩ := h
  rw [rle_unique P _ 201580 (hP.1 ⟨exB_check, by decide, by decide⟩) exB_rle]
  decide +kernel
theorem ex_seg2 {L : List Sg} (h : SegR exB [] false exU 10 L) : L = [(sNight, 201580, 90, 0)] := by
  unfold SegR at h
  rw [if_pos ⟨exU_proper, exB_check⟩, if_neg (by simp)] at h
  rw [h]
  decide +kernel
theorem ex_price : priceS exR 1 (findZ [] s49).1 exSg = (exPr, 5, 0) := by decide +kernel
end Go.Proofs.Ytnekgkmlodeckaa
