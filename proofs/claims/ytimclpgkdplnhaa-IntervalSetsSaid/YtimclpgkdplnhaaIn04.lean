/-
  The walk of the laws' in.
-/
import Derived.Test.YtimclpgkdplnhaaR04b
namespace Go.Proofs.Ytimclpgkdplnhaa
open Go.RowKit

set_option maxRecDepth 100000 in
set_option maxHeartbeats 1600000 in
theorem lawin_calls (v : Value) (ps : List (Int × Int)) (t : Int) (w : World) (h : PersAt w v ps) :
    Calls Try.prog 35 #[v, .int .i64 t] w fun e w' => e = .returned (.bool (inL ps t)) ∧ Below w.heap.size w w' := by
  have hh := h
  obtain ⟨av, cap, rfl, hlc, hm, -⟩ := h
  have hm := hm.1
  unfold maxLen at hm
  go_enter Try.func35, Try.ntmps35
  go_wp2_with fail
  go_loopw [5] (fun i wr => ∃ k : Nat, k ≤ ps.length ∧ i = .int .i64 k ∧ inL (ps.take k) t = false ∧ Below w.heap.size w wr) (fun i _ => ps.length - (intOf i).toNat)
  case atStart => exact ⟨0, Nat.zero_le _, rfl, rfl, Below.refl _ _⟩
  case round =>
    obtain ⟨k, hk, rfl, hn, hb⟩ := hrel
    have Hn := Lib.hid hn
    clear hn
    by_cases hlt : k < ps.length
    · obtain ⟨av2, cap2, e2, -, -, hx⟩ := hh.below hb
      cases e2
      obtain ⟨b, o, rfl, hB, hx⟩ := hx (by rintro rfl; cases hlt)
      obtain ⟨c0, c1⟩ := hx k hlt
      have hk0 : (0 : Int) ≤ (k : Int) := Int.natCast_nonneg _
      have hk1 : (k : Int) < (ps.length : Int) := by omega
      have HF := Lib.hid (fun h2 => inL_snoc hlt Hn.out h2)
      have HT := Lib.hid (fun h2 => @inL_at ps t k hlt h2)
      clear hx
      generalize ps[k] = p at *
      obtain ⟨f, e⟩ := p
      dsimp only at *
      have Hc := Lib.hid (contains_calls f e t wr)
      generalize hct : containsB f e t = ct at *
      clear hct
      cases ct with
      | true =>
        have HE := Lib.hid (HT.out rfl)
        go_wp2_with fail
        refine Hc.out.mono ?_
        rintro e w2 ⟨rfl, hb2⟩
        have hb3 := hb.trans (hb2.mono hb.size)
        go_wp2
        go_ret
        exact ⟨ret_bool HE.out.symm, hb3⟩
      | false =>
        have HE := Lib.hid (HF.out rfl)
        go_wp2_with fail
        refine Hc.out.mono ?_
        rintro e w2 ⟨rfl, hb2⟩
        have hb3 := hb.trans (hb2.mono hb.size)
        go_wp2
        exact ⟨⟨k + 1, by omega, by go_num, HE.out, hb3⟩, by simp [intOf]; omega⟩
    · have e : ps.take k = ps := List.take_of_length_le (by omega)
      have HE := Lib.hid (show inL ps t = false by rw [← e]; exact Hn.out)
      clear e
      go_wp2
      go_ret
      exact ⟨ret_bool HE.out.symm, hb⟩
end Go.Proofs.Ytimclpgkdplnhaa
