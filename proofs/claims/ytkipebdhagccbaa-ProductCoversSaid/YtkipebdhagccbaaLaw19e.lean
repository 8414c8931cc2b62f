/-
  ProductCovers returns true for every list and period.
-/
import Derived.Test.YtkipebdhagccbaaLaw19d
namespace Go.Proofs.Ytkipebdhagccbaa
open Go.RowKit

theorem covers19_law (hA : Awake19) (v : Value) (l : List Pd) (s : ByteArray) (f t : Int) (w : World) (h : PdsAt w v l) :
    Calls Try.prog 14 #[v, .string s, .agg #[.int .i64 f, .int .i64 t]] w fun e w' => e = .returned (.bool true) ∧ Below w.heap.size w w' := by
  by_cases hno : fewL l = false ∨ ascB l = false ∨ f < 0 ∨ t ≤ f ∨ 12622780800 < t
  · exact covers_no hA v l s f t w h hno
  · have hx : fewL l = true := by cases e : fewL l with
      | true => rfl
      | false => exact absurd (Or.inl e) hno
    have hy : ascB l = true := by cases e : ascB l with
      | true => rfl
      | false => exact absurd (Or.inr (Or.inl e)) hno
    have h0 : 0 ≤ f := by
      by_cases e : 0 ≤ f
      · exact e
      · exact absurd (Or.inr (Or.inr (Or.inl (by omega)))) hno
    have hft : f < t := by
      by_cases e : f < t
      · exact e
      · exact absurd (Or.inr (Or.inr (Or.inr (Or.inl (by omega))))) hno
    have ht : t ≤ 12622780800 := by
      by_cases e : t ≤ 12622780800
      · exact e
      · exact absurd (Or.inr (Or.inr (Or.inr (Or.inr (by omega))))) hno
    rcases cover_cases (ascP_of hy).order s hft with ⟨hG, hn⟩ | ⟨a, hne, hcov, hfa, hfi, hbe⟩
    · exact covers_nil hA v l s f t w h hx hy h0 hft ht hG hn
    · refine covers_yes hA v l s f t a _ w h hx hy h0 hft ht rfl hne hcov hfa _ _ rfl rfl (fun hb => hfi ?_) (fun hb => hbe ?_)
      · intro e; rw [e] at hb; cases hb
      · cases e : atL l s f with
        | none => rfl
        | some p => rw [e] at hb; cases hb
end Go.Proofs.Ytkipebdhagccbaa
