/-
  The walk of the reference's Same.
-/
import Derived.Test.YtcfmndhjmlbcoaaZoneX
namespace Go.Proofs.Ytcfmndhjmlbcoaa
open Go.RowKit Go.Sort

set_option maxRecDepth 100000 in
set_option maxHeartbeats 6400000 in
theorem rsame_calls (va vb : Value) (L M : List Zn) (w : World) (ha : ZnsAt w va L) (hb0 : ZnsAt w vb M) :
    Calls Try.prog 39 #[va, vb] w (BoolTo (alikeL L M) w) := by
  have hA := ha
  have hB := hb0
  obtain ⟨aa, ca, rfl, hla, hma, -⟩ := ha
  obtain ⟨ab, cb, rfl, hlb, hmb, -⟩ := hb0
  have hma := hma.1
  have hmb := hmb.1
  unfold maxLen at hma hmb
  by_cases hl : L.length = M.length
  · have he : ((L.length : Int) != (M.length : Int)) = false := bne_eq_false_iff_eq.2 (by omega)
    have HAl := Lib.hid (show alikeL L M = (L.zip M).all fun x => alikeZ x.1 x.2 by unfold alikeL; rw [decide_eq_true hl]; rfl)
    have Hzl := Lib.hid (show (L.zip M).length = L.length by rw [List.length_zip]; omega)
    have hl1 : L.length ≤ M.length := by omega
    have hl2 : M.length ≤ L.length := by omega
    clear hl
    go_enter Try.func39, Try.ntmps39
    go_wp2_with fail
    go_loopw [5] (fun i wr => ∃ k : Nat, k ≤ L.length ∧ i = .int .i64 k ∧ ((L.zip M).take k).all (fun x => alikeZ x.1 x.2) = true ∧ Below w.heap.size w wr) (fun i _ => L.length - (intOf i).toNat)
    case atStart => exact ⟨0, Nat.zero_le _, rfl, rfl, Below.refl _ _⟩
    case round =>
      obtain ⟨k, hk, rfl, hn, hb⟩ := hrel
      have Hn := Lib.hid hn
      clear hn
      by_cases hlt : k < L.length
      · have hlt2 : k < M.length := by omega
        have hkz : k < (L.zip M).length := by rw [Hzl.out]; exact hlt
        have HT := Lib.hid (fun h2 => all_take (p := fun x : Zn × Zn => alikeZ x.1 x.2) hkz Hn.out h2)
        have HF := Lib.hid (fun h2 => all_bad (p := fun x : Zn × Zn => alikeZ x.1 x.2) hkz h2)
        have hzk : (L.zip M)[k]'hkz = (L[k], M[k]) := List.getElem_zip
        rw [hzk] at HT HF
        obtain ⟨av2, cap2, e2, -, -, hx⟩ := hA.below hb
        cases e2
        obtain ⟨b1, o1, rfl, hB1, hx⟩ := hx (by rintro rfl; cases hlt)
        obtain ⟨⟨c0, -⟩, sx, c1, hsx⟩ := hx k hlt
        obtain ⟨av3, cap3, e3, -, -, hy⟩ := hB.below hb
        cases e3
        obtain ⟨b2, o2, rfl, hB2, hy⟩ := hy (by rintro rfl; cases hlt2)
        obtain ⟨⟨d0, -⟩, sy, d1, hsy⟩ := hy k hlt2
        have hk0 : (0 : Int) ≤ (k : Int) := Int.natCast_nonneg _
        have hk1 : (k : Int) < (L.length : Int) := by omega
        have hk2 : (k : Int) < (M.length : Int) := by omega
        clear hx hy hzk
        generalize L[k] = x at *
        generalize M[k] = y at *
        obtain ⟨xn, xp⟩ := x
        obtain ⟨yn, yp⟩ := y
        dsimp only at HT HF c0 c1 d0 d1 hsx hsy
        have HZ := Lib.hid (show alikeZ (xn, xp) (yn, yp) = ((xn.toList == yn.toList) && alikeT xp yp) from rfl)
        have HX := Lib.hid (fun w1 (hb1 : Below wr.heap.size wr w1) => rtexts_calls sx sy xp yp w1 (hsx.below hb1) (hsy.below hb1))
        obtain ⟨ax, cx, rfl, -, -, -⟩ := hsx
        obtain ⟨ay, cy, rfl, -, -, -⟩ := hsy
        cases hE : (xn.toList == yn.toList) with
        | true =>
          have HZ := Lib.hid (HZ.out.trans (by rw [hE]; rfl) : alikeZ (xn, xp) (yn, yp) = alikeT xp yp)
          have Mk := Lib.hid (show ∀ w' : World, Below wr.heap.size wr w' → (fun w' => Below wr.heap.size wr w' ∧ w'.cell? ⟨b1, o1 + k * 2, none⟩ = some (.string xn) ∧ w'.cell? ⟨b1, o1 + k * 2 + 1, none⟩ = some (.slice ax xp.length cx) ∧ w'.cell? ⟨b2, o2 + k * 2, none⟩ = some (.string yn) ∧ w'.cell? ⟨b2, o2 + k * 2 + 1, none⟩ = some (.slice ay yp.length cy)) w' from fun w' h =>
            ⟨h, (h.cell (p := ⟨b1, _, none⟩) hB1).trans c0, (h.cell (p := ⟨b1, _, none⟩) hB1).trans c1, (h.cell (p := ⟨b2, _, none⟩) hB2).trans d0, (h.cell (p := ⟨b2, _, none⟩) hB2).trans d1⟩)
          have hr := Below.refl wr.heap.size wr
          cases hal : alikeT xp yp with
          | true =>
            rw [hal] at HX HZ
            have HE := Lib.hid (HT.out HZ.out)
            clear HT HF hal
            go_upto_region 6 with (fail)
            go_region_held3 (fun w' : World => Below wr.heap.size wr w' ∧ w'.cell? ⟨b1, o1 + k * 2, none⟩ = some (.string xn) ∧ w'.cell? ⟨b1, o1 + k * 2 + 1, none⟩ = some (.slice ax xp.length cx) ∧ w'.cell? ⟨b2, o2 + k * 2, none⟩ = some (.string yn) ∧ w'.cell? ⟨b2, o2 + k * 2 + 1, none⟩ = some (.slice ay yp.length cy))
              (first
                | exact Mk.out _ (by assumption)
                | exact Mk.out _ (Below.drew (by assumption)))
              (first
                | (go_at_call 32
                   refine (HX.out _ (And.left (by assumption))).mono ?_
                   rintro e w5 ⟨rfl, hb5⟩
                   have hY5 : Below wr.heap.size wr w5 := Below.trans (And.left (by assumption)) (hb5.mono (Below.size (And.left (by assumption))))
                   clear hb5))
            go_wp2
            exact ⟨⟨k + 1, by omega, by go_num, HE.out, hb.trans (hY5.mono hb.size)⟩, by simp [intOf]; omega⟩
          | false =>
            rw [hal] at HX HZ
            have HE := Lib.hid (HAl.out.trans (Bool.not_eq_true _ ▸ HF.out HZ.out))
            clear HT HF hal
            go_upto_region 6 with (fail)
            go_region_held3 (fun w' : World => Below wr.heap.size wr w' ∧ w'.cell? ⟨b1, o1 + k * 2, none⟩ = some (.string xn) ∧ w'.cell? ⟨b1, o1 + k * 2 + 1, none⟩ = some (.slice ax xp.length cx) ∧ w'.cell? ⟨b2, o2 + k * 2, none⟩ = some (.string yn) ∧ w'.cell? ⟨b2, o2 + k * 2 + 1, none⟩ = some (.slice ay yp.length cy))
              (first
                | exact Mk.out _ (by assumption)
                | exact Mk.out _ (Below.drew (by assumption)))
              (first
                | (go_at_call 32
                   refine (HX.out _ (And.left (by assumption))).mono ?_
                   rintro e w5 ⟨rfl, hb5⟩
                   have hY5 : Below wr.heap.size wr w5 := Below.trans (And.left (by assumption)) (hb5.mono (Below.size (And.left (by assumption))))
                   clear hb5))
            go_wp2
            go_ret
            exact ⟨ret_bool HE.out.symm, hb.trans (hY5.mono hb.size)⟩
        | false =>
          have HZ := Lib.hid (HZ.out.trans (by rw [hE]; rfl) : alikeZ (xn, xp) (yn, yp) = false)
          have HE := Lib.hid (HAl.out.trans (Bool.not_eq_true _ ▸ HF.out HZ.out))
          clear HT HF
          go_upto_region 6 with (fail)
          go_big_quiet (fail)
          go_wp2
          go_ret
          exact ⟨ret_bool HE.out.symm, below_drewN5 hb _⟩
      · have HE := Lib.hid (HAl.out.trans (all_end (by rw [Hzl.out]; omega) Hn.out))
        go_wp2
        go_ret
        exact ⟨ret_bool HE.out.symm, hb⟩
  · have he : ((L.length : Int) != (M.length : Int)) = true := bne_iff_ne.2 (by omega)
    have HAl := Lib.hid (show alikeL L M = false by unfold alikeL; rw [decide_eq_false hl]; rfl)
    go_enter Try.func39, Try.ntmps39
    go_wp2
    go_ret
    exact ⟨ret_bool HAl.out.symm, Below.refl _ _⟩
end Go.Proofs.Ytcfmndhjmlbcoaa
