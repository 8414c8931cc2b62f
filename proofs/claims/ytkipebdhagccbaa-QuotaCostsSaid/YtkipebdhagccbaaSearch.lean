/-
  The walk of ladder.Units: a search by halves.
-/
import Derived.Test.YtkipebdhagccbaaUnits
import Derived.Deep.LoopGhost
namespace Go.Proofs.Ytkipebdhagccbaa
open Go.RowKit

set_option maxHeartbeats 800000 in
theorem units_no (v : Value) (l : List St) (f a : Int) (w : World) (h : StepsAt w v l) (hp : paysL l f 0 a = false) :
    Calls Try.prog 22 #[v, .int .i64 f, .int .i64 a] w fun e w' => e = .returned (.int .i64 (unitsL l f a)) ∧ Below w.heap.size w w' := by
  have H := Lib.hid (unitsL_no hp)
  have Hc := Lib.hid (fun (w1 : World) (hb1 : Below w.heap.size w w1) (b1 b2 b3 : Nat) h1 h2 h3 => fits_calls v l f 0 a b1 b2 b3 false w1 (h.below hb1) (by omega) (by omega) hp h1 h2 h3)
  clear hp
  obtain ⟨av, cap, rfl, hm, hc⟩ := h
  clear hc hm
  go_enter Try.func22, Try.ntmps22
  go_wp2_with fail
  go_step3
  go_wp2_with fail
  refine (Hc.out _ ?_ _ _ _ ?_ ?_ ?_).mono ?_
  · go_grown
  · simp [go_sem]
  · simp [go_sem]
  · simp [go_sem]
  rintro e w1 ⟨rfl, hb1⟩
  have hb2 : Below w.heap.size w w1 := Below.trans (by go_grown) (hb1.mono (by simp; omega))
  go_wp2
  rw [Exit.noGoto_ret]
  go_ret
  exact ⟨ret_int H.out.symm, hb2⟩

set_option maxHeartbeats 800000 in
theorem units_yes (v : Value) (l : List St) (f a : Int) (w : World) (h : StepsAt w v l) (hp : paysL l f 0 a = true) :
    Calls Try.prog 22 #[v, .int .i64 f, .int .i64 a] w fun e w' => e = .returned (.int .i64 (unitsL l f a)) ∧ Below w.heap.size w w' := by
  have Hc := Lib.hid (fun (w1 : World) (hb1 : Below w.heap.size w w1) (b1 b2 b3 : Nat) n r hn0 hn1 hr h1 h2 h3 => fits_calls v l f n a b1 b2 b3 r w1 (h.below hb1) hn0 hn1 hr h1 h2 h3)
  have Hu := Lib.hid (fun n => @unitsL_of l f a n hp)
  have Hp := Lib.hid hp
  obtain ⟨hok, hf0, -, hf1, -, -⟩ := paysL_ok hp
  have Hno := Lib.hid (show ∀ n, 1099511627776 - f < n → paysL l f n a = false from fun n hn => by
    cases hq : paysL l f n a with
    | false => rfl
    | true => have := paysL_ok hq; omega)
  have Hmono := Lib.hid (fun n m => @paysL_mono l f n m a)
  generalize unitsL l f a = R at *
  clear hp hok
  obtain ⟨av, cap, rfl, hm, hc⟩ := h
  clear hc hm
  go_enter Try.func22, Try.ntmps22
  go_wp2_with fail
  go_step3
  go_wp2_with fail
  refine (Hc.out _ ?_ _ _ _ 0 true (by omega) (by omega) Hp.out ?_ ?_ ?_).mono ?_
  · go_grown
  · simp [go_sem]
  · simp [go_sem]
  · simp [go_sem]
  rintro e w1 ⟨rfl, hb1⟩
  have hb2 : Below w.heap.size w w1 := Below.trans (by go_grown) (hb1.mono (by simp; omega))
  have m1 := hb1.cell (p := ⟨w.heap.size, 0, none⟩) (by simp; omega)
  have m2 := hb1.cell (p := ⟨w.heap.size + 1, 0, none⟩) (by simp)
  have m3 := hb1.cell (p := ⟨w.heap.size + 1 + 1, 0, none⟩) (by simp)
  have hz1 := hb1.size
  simp [go_sem] at m1 m2 m3 hz1
  clear hb1
  go_wp2_with fail
  go_quiet (fail)
  go_wp2_with fail
  go_step3
  go_wp2_with fail
  go_loopw [8, 9] (fun lv hv wr => ∃ lo hi : Int, 0 ≤ lo ∧ lo ≤ hi ∧ hi ≤ 1099511627776 ∧ lv = .int .i64 lo ∧ hv = .int .i64 hi ∧ Hid (paysL l f lo a = true) ∧ Hid (∀ n, hi < n → paysL l f n a = false) ∧ Below w1.heap.size w1 wr) (fun lv hv _ => (intOf hv - intOf lv).toNat)
  case atStart => exact ⟨0, 1099511627776 - f, by omega, by omega, by omega, rfl, rfl, Hp.out, Hno.out, below_drewN (Below.refl _ _) _⟩
  case round =>
    obtain ⟨lo, hi, hl0, hlh, hh, rfl, rfl, H1, H2, hb3⟩ := hrel
    have hb4 : Below w.heap.size w wr := hb2.trans (hb3.mono (by omega))
    have n1 := (hb3.cell (p := ⟨w.heap.size, 0, none⟩) (by dsimp only; omega)).trans m1
    have n2 := (hb3.cell (p := ⟨w.heap.size + 1, 0, none⟩) (by dsimp only; omega)).trans m2
    have n3 := (hb3.cell (p := ⟨w.heap.size + 1 + 1, 0, none⟩) (by dsimp only; omega)).trans m3
    by_cases he : lo = hi
    · subst he
      have HR := Lib.hid (Hu.out lo hl0 H1.out (H2.out _ (by omega)))
      clear H1 H2 Hu
      go_wp2
      rw [Exit.noGoto_ret]
      go_ret
      exact ⟨ret_int HR.out, hb4⟩
    · have he2 : (lo == hi) = false := beq_eq_false_iff_ne.2 he
      cases hp : paysL l f (lo + (hi - lo + 1) / 2) a with
      | true =>
        have Hq := Lib.hid (Hc.out wr hb4 _ _ _ (lo + (hi - lo + 1) / 2) true (by omega) (by omega) hp n1 n2 n3)
        have HP := Lib.hid hp
        clear hp
        go_wp2_with fail
        refine Hq.out.mono ?_
        rintro e w2 ⟨rfl, hb5⟩
        have hb6 := hb3.trans (hb5.mono hb3.size)
        go_wp2
        exact ⟨⟨lo + (hi - lo + 1) / 2, hi, by omega, by omega, by omega, rfl, rfl, HP, H2, hb6⟩, by simp [intOf]; omega⟩
      | false =>
        have Hq := Lib.hid (Hc.out wr hb4 _ _ _ (lo + (hi - lo + 1) / 2) false (by omega) (by omega) hp n1 n2 n3)
        have H3 := Lib.hid (show ∀ n, lo + (hi - lo + 1) / 2 - 1 < n → paysL l f n a = false from fun n hn => by
          cases hq : paysL l f n a with
          | false => rfl
          | true => rw [Hmono.out _ n hq (by omega) (by omega)] at hp; cases hp)
        clear hp
        go_wp2_with fail
        refine Hq.out.mono ?_
        rintro e w2 ⟨rfl, hb5⟩
        have hb6 := hb3.trans (hb5.mono hb3.size)
        go_wp2
        exact ⟨⟨lo, lo + (hi - lo + 1) / 2 - 1, by omega, by omega, by omega, rfl, rfl, H1, H3, hb6⟩, by simp [intOf]; omega⟩

theorem units_calls (v : Value) (l : List St) (f a : Int) (w : World) (h : StepsAt w v l) :
    Calls Try.prog 22 #[v, .int .i64 f, .int .i64 a] w fun e w' => e = .returned (.int .i64 (unitsL l f a)) ∧ Below w.heap.size w w' := by
  cases hp : paysL l f 0 a with
  | false => exact units_no v l f a w h hp
  | true => exact units_yes v l f a w h hp
end Go.Proofs.Ytkipebdhagccbaa
