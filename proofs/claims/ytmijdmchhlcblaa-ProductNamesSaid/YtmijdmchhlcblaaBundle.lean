/-
  The walks of product.bundle and of the reference's Bundle and zones.
-/
import Derived.Test.YtmijdmchhlcblaaFilterS
import Derived.Test.YtmijdmchhlcblaaProd
import Derived.Deep.QuietTactic
import Derived.BigQuiet
import Derived.Deep.RegionHeld3
namespace Go.Proofs.Ytmijdmchhlcblaa
open Go.RowKit

theorem below_drewN {B : Nat} {a w : World} (h : Below B a w) (n : Nat) : Below B a (w.drewN n) := ⟨h.os, h.tape, h.output, h.size, h.block⟩

/-- The value of a bundle whose zones are zv. -/
def bdVal (b : Bd) (zv : Value) : Value := .agg #[.int .i64 b.kd, zv, .int .i64 b.un, .int .i64 b.ro, .int .i64 b.pr, .bool b.sh]

set_option maxRecDepth 100000 in
set_option maxHeartbeats 1600000 in
theorem zones_calls (v : Value) (l : List ByteArray) (w : World) (h : StrsAt w v l) :
    Calls Try.prog 73 #[v] w fun e w' => e = .returned (.int .i64 (zonesE l)) ∧ ∃ n, w' = w.drewN n := by
  have hh := h
  obtain ⟨av, cap, rfl, hlc, hm, hc⟩ := h
  have hm := hm.1
  unfold maxLen at hm
  by_cases h64 : 64 < l.length
  · have H := Lib.hid (show zonesE l = 5 from if_pos h64)
    go_enter Try.func73, Try.ntmps73
    go_wp2
    go_ret
    exact ⟨ret_int H.out.symm, 0, rfl⟩
  · have hs : ∀ k (hk : k < l.length), ∃ b o, av = some ⟨b, o, none⟩ ∧ b < w.heap.size ∧ StrR w b (o + k) l[k] := by
      intro k hk
      obtain ⟨b, o, e, hB, hx⟩ := hc (by rintro rfl; cases hk)
      exact ⟨b, o, e, hB, by simpa using hx k hk⟩
    have Hs := Lib.hid hs
    have HZ := Lib.hid (show zonesE l = if l.all isName = false then 8 else if ascS l = false then 9 else 0 from if_neg h64)
    clear hc hs hh
    go_enter Try.func73, Try.ntmps73
    go_wp2
    go_loop [3] (fun i => ∃ k : Nat, k ≤ l.length ∧ i = .int .i64 k ∧ (l.take k).all isName = true) (fun i => l.length - (intOf i).toNat)
    case atStart => exact ⟨0, Nat.zero_le _, rfl, rfl⟩
    case round =>
      obtain ⟨k, hk, rfl, ha⟩ := hrel
      by_cases hlt : k < l.length
      · obtain ⟨b, o, rfl, hB, hcell, hsz⟩ := Hs.out k hlt
        have hat : (l.take (k + 1)).all isName = ((l.take k).all isName && isName l[k]) := by
          rw [List.take_succ_eq_append_getElem hlt, List.all_append]; simp
        have haf : isName l[k] = false → l.all isName = false := fun hf => by
          rw [List.all_eq_false]; exact ⟨l[k], List.getElem_mem hlt, by rw [hf]; decide⟩
        rw [ha, Bool.true_and] at hat
        generalize l[k] = x at *
        cases hx : isName x with
        | true =>
          have HA := Lib.hid (hat.trans hx)
          have HX := Lib.hid hx
          clear ha hat haf hx
          go_wp2_with fail
          refine (rname_calls x _ hsz).mono ?_
          rintro e w1 ⟨rfl, rfl⟩
          rw [HX.out]
          go_wp2
          exact ⟨⟨k + 1, by omega, by go_num, HA.out⟩, by simp [intOf]; omega⟩
        | false =>
          have H := Lib.hid (show zonesE l = 8 by rw [HZ.out, if_pos (haf hx)])
          have HX := Lib.hid hx
          clear ha hat haf hx
          go_wp2_with fail
          refine (rname_calls x _ hsz).mono ?_
          rintro e w1 ⟨rfl, rfl⟩
          rw [HX.out]
          go_wp2
          go_ret
          exact ⟨ret_int H.out.symm, 0, rfl⟩
      · have hall : l.all isName = true := by rw [← ha, List.take_of_length_le (by omega)]
        have HZ2 := Lib.hid (show zonesE l = if ascS l = false then 9 else 0 by rw [HZ.out, if_neg (by rw [hall]; decide)])
        clear hall ha
        go_wp2
        go_loopw [4] (fun i wr => ∃ j n : Nat, i = .int .i64 ((j : Int) + 1) ∧ ascUpto l j = true ∧ j ≤ l.length ∧ wr = w.drewN n) (fun i _ => l.length + 1 - (intOf i).toNat)
        case atStart => exact ⟨0, 0, rfl, rfl, Nat.zero_le _, rfl⟩
        case round =>
          obtain ⟨j, n, rfl, ha, hjl, rfl⟩ := hrel
          by_cases hlt2 : j + 1 < l.length
          · obtain ⟨b, o, rfl, hB, hcell, hsz⟩ := Hs.out (j + 1) hlt2
            obtain ⟨b', o', e', hB', hcell', hsz'⟩ := Hs.out j (by omega)
            cases e'
            have hat := ascUpto_succ l (j + 1) (by omega) hlt2
            have haf := ascUpto_false l (j + 1) (by omega) hlt2
            simp only [Nat.add_sub_cancel] at hat haf
            rw [ha, Bool.true_and] at hat
            generalize l[j + 1] = y at *
            generalize l[j] = x at *
            unfold ltS at hat haf
            have hj1 : (0 : Int) ≤ (j : Int) := Int.natCast_nonneg _
            have hj2 : (j : Int) < (l.length : Int) := by omega
            have hj3 : (j : Int) + 1 < (l.length : Int) := by omega
            have hj4 : (0 : Int) ≤ (j : Int) + 1 := by omega
            cases hx : Op.bytesLess x.toList y.toList with
            | true =>
              have HA := Lib.hid (hat.trans hx)
              clear ha hat haf
              go_wp2_with fail
              have hj5 : IntKind.i64.wrap ((j : Int) + 1 - 1) = (j : Int) := by rw [Int.add_sub_cancel]; exact IntWalk.i64_in _ (by omega)
              have hj6 : ((j : Int) + 1).toNat = j + 1 := by omega
              have hj7 : IntKind.i64.wrap (j : Int) = (j : Int) := IntWalk.i64_in _ (by omega)
              go_quiet (fail)
              clear hj5 hj6 hj7
              go_wp2
              exact ⟨⟨j + 1, _, by go_num, HA.out, by omega, rfl⟩, by simp [intOf]; omega⟩
            | false =>
              have H := Lib.hid (show zonesE l = 9 by rw [HZ2.out, if_pos (haf hx)])
              clear ha hat haf
              go_wp2_with fail
              have hj5 : IntKind.i64.wrap ((j : Int) + 1 - 1) = (j : Int) := by rw [Int.add_sub_cancel]; exact IntWalk.i64_in _ (by omega)
              have hj6 : ((j : Int) + 1).toNat = j + 1 := by omega
              have hj7 : IntKind.i64.wrap (j : Int) = (j : Int) := IntWalk.i64_in _ (by omega)
              go_quiet (fail)
              clear hj5 hj6 hj7
              go_wp2
              go_ret
              exact ⟨ret_int H.out.symm, _, World.drewN_drewN _ _ _⟩
          · have hasc : ascS l = true := by
              unfold ascS
              by_cases hz : l.length = 0
              · rw [hz]; rfl
              · have : l.length - 1 ≤ j := by omega
                rw [ascUpto, List.all_eq_true] at ha ⊢
                exact fun i hi => ha i (by simp at hi ⊢; omega)
            have H := Lib.hid (show zonesE l = 0 by rw [HZ2.out, hasc]; rfl)
            clear hasc ha
            go_wp2
            go_ret
            exact ⟨ret_int H.out.symm, _, rfl⟩

set_option maxRecDepth 100000 in
set_option maxHeartbeats 1600000 in
theorem rbundle_calls (b : Bd) (zv : Value) (w : World) (h : StrsAt w zv b.zs) :
    Calls Try.prog 68 #[bdVal b zv] w fun e w' => e = .returned (.int .i64 (bundleE b)) ∧ Below w.heap.size w w' := by
  have hw0 : ∀ o, Below w.heap.size w (w.alloc o) := fun o => by go_grown
  have Hz := Lib.hid (fun o => zones_calls zv b.zs (w.alloc o) (h.below (hw0 o)))
  obtain ⟨av, cap, rfl, -, -, -⟩ := h
  obtain ⟨kd, zs, un, ro, pr, sh⟩ := b
  unfold bdVal
  dsimp only at *
  by_cases hk : kd < 1 ∨ 4 < kd
  · have H := Lib.hid (show bundleE ⟨kd, zs, un, ro, pr, sh⟩ = 7 from if_pos hk)
    have hc : kd < 1 ∨ (1 ≤ kd ∧ 4 < kd) := by omega
    clear hk
    rcases hc with hc | hc
    all_goals
      go_enter Try.func68, Try.ntmps68
      go_wp2
      go_ret
      exact ⟨ret_int H.out.symm, by go_grown⟩
  · have h1 : 1 ≤ kd := by omega
    have h4 : kd ≤ 4 := by omega
    have HB := Lib.hid (show bundleE ⟨kd, zs, un, ro, pr, sh⟩ = if zonesE zs ≠ 0 then zonesE zs else if ¬ Bd.ok ⟨kd, zs, un, ro, pr, sh⟩ then 6 else 0 from if_neg hk)
    clear hk
    by_cases hz : zonesE zs = 0
    · have HZ := Lib.hid hz
      have HB2 := Lib.hid (show bundleE ⟨kd, zs, un, ro, pr, sh⟩ = if ¬ Bd.ok ⟨kd, zs, un, ro, pr, sh⟩ then 6 else 0 by rw [HB.out, if_neg (not_not_intro hz)])
      clear hz
      by_cases hok : Bd.ok ⟨kd, zs, un, ro, pr, sh⟩
      · have H := Lib.hid (show bundleE ⟨kd, zs, un, ro, pr, sh⟩ = 0 by rw [HB2.out, if_neg (not_not_intro hok)])
        obtain ⟨a1, a2, a3, a4, a5, a6⟩ := hok
        dsimp only at a1 a2 a3 a4 a5 a6
        go_enter Try.func68, Try.ntmps68
        go_wp2_with fail
        refine (Hz.out _).mono ?_
        rintro e w1 ⟨rfl, n, rfl⟩
        rw [HZ.out]
        go_wp2
        go_ret
        exact ⟨ret_int H.out.symm, below_drewN (by go_grown) _⟩
      · have H := Lib.hid (show bundleE ⟨kd, zs, un, ro, pr, sh⟩ = 6 by rw [HB2.out, if_pos hok])
        have hcase : un < 1 ∨ (1 ≤ un ∧ 1099511627776 < un) ∨ (1 ≤ un ∧ un ≤ 1099511627776 ∧ ro < 0) ∨ (1 ≤ un ∧ un ≤ 1099511627776 ∧ 0 ≤ ro ∧ 1099511627776 < ro) ∨ (1 ≤ un ∧ un ≤ 1099511627776 ∧ 0 ≤ ro ∧ ro ≤ 1099511627776 ∧ pr < 0) ∨ (1 ≤ un ∧ un ≤ 1099511627776 ∧ 0 ≤ ro ∧ ro ≤ 1099511627776 ∧ 0 ≤ pr ∧ 99 < pr) := by
          simp only [Bd.ok] at hok; omega
        clear hok
        rcases hcase with hc | hc | hc | hc | hc | hc
        all_goals
          go_enter Try.func68, Try.ntmps68
          go_wp2_with fail
          refine (Hz.out _).mono ?_
          rintro e w1 ⟨rfl, n, rfl⟩
          rw [HZ.out]
          go_wp2
          go_ret
          exact ⟨ret_int H.out.symm, below_drewN (by go_grown) _⟩
    · have H := Lib.hid (show bundleE ⟨kd, zs, un, ro, pr, sh⟩ = zonesE zs by rw [HB.out, if_pos hz])
      have hz2 : (zonesE zs != 0) = true := by rw [bne_iff_ne]; exact hz
      clear hz
      go_enter Try.func68, Try.ntmps68
      go_wp2_with fail
      refine (Hz.out _).mono ?_
      rintro e w1 ⟨rfl, n, rfl⟩
      go_wp2
      go_ret
      exact ⟨ret_int H.out.symm, below_drewN (by go_grown) _⟩

/-- The first n of a list were kept. -/
def FilteredN (w : World) (n : Nat) (e : Ending) (w' : World) : Prop := ∃ av cap, e = .returned (.slice av n cap) ∧ Below w.heap.size w w'

theorem keep_box {W x w' : World} {k : Nat} {v1 v2 v3 v4 : Value} (hx : Below W.heap.size W x) (h2 : Below x.heap.size x w') (hk : k < W.heap.size)
    (m1 : x.cell? ⟨k, 1, none⟩ = some v1) (m2 : x.cell? ⟨k, 2, none⟩ = some v2) (m3 : x.cell? ⟨k, 3, none⟩ = some v3) (m4 : x.cell? ⟨k, 4, none⟩ = some v4) :
    Below W.heap.size W w' ∧ w'.cell? ⟨k, 1, none⟩ = some v1 ∧ w'.cell? ⟨k, 2, none⟩ = some v2 ∧ w'.cell? ⟨k, 3, none⟩ = some v3 ∧ w'.cell? ⟨k, 4, none⟩ = some v4 := by
  have hk' : k < x.heap.size := Nat.lt_of_lt_of_le hk hx.size
  exact ⟨hx.trans (h2.mono hx.size), (h2.cell (p := ⟨k, 1, none⟩) hk').trans m1, (h2.cell (p := ⟨k, 2, none⟩) hk').trans m2, (h2.cell (p := ⟨k, 3, none⟩) hk').trans m3, (h2.cell (p := ⟨k, 4, none⟩) hk').trans m4⟩

set_option maxRecDepth 100000 in
set_option maxHeartbeats 3200000 in
theorem bundle_calls (b : Bd) (zv : Value) (w : World) (h : StrsAt w zv b.zs) :
    Calls Try.prog 66 #[bdVal b zv] w fun e w' => e = .returned (.int .i64 (bundleE b)) ∧ Below w.heap.size w w' := by
  have hh := h
  obtain ⟨av, cap, rfl, hlc, hm, -⟩ := h
  obtain ⟨kd, zs, un, ro, pr, sh⟩ := b
  unfold bdVal
  dsimp only at *
  have hm := hm.1
  unfold maxLen at hm
  by_cases hk : kd < 1 ∨ 4 < kd
  · have H := Lib.hid (show bundleE ⟨kd, zs, un, ro, pr, sh⟩ = 7 from if_pos hk)
    have hc : kd < 1 ∨ (1 ≤ kd ∧ 4 < kd) := by omega
    clear hk
    rcases hc with hc | hc
    all_goals
      go_enter Try.func66, Try.ntmps66
      go_wp2
      go_ret
      exact ⟨ret_int H.out.symm, by go_grown⟩
  · have h1 : 1 ≤ kd := by omega
    have h4 : kd ≤ 4 := by omega
    have HB := Lib.hid (show bundleE ⟨kd, zs, un, ro, pr, sh⟩ = if zonesE zs ≠ 0 then zonesE zs else if ¬ Bd.ok ⟨kd, zs, un, ro, pr, sh⟩ then 6 else 0 from if_neg hk)
    clear hk
    by_cases h64 : 64 < zs.length
    · have H := Lib.hid (show bundleE ⟨kd, zs, un, ro, pr, sh⟩ = 5 by rw [HB.out, zonesE, if_pos h64]; rfl)
      go_enter Try.func66, Try.ntmps66
      go_wp2
      go_ret
      exact ⟨ret_int H.out.symm, by go_grown⟩
    · obtain ⟨W, hW⟩ : ∃ W, W = w.alloc (Obj.cells #[Value.int .i64 kd, Value.slice av zs.length cap, Value.int .i64 un, Value.int .i64 ro, Value.int .i64 pr, Value.bool sh] 77) := ⟨_, rfl⟩
      have hw0 : Below w.heap.size w W := by rw [hW]; go_grown
      have hlt : w.heap.size < W.heap.size := by rw [hW]; simp
      have m1 : W.cell? ⟨w.heap.size, 1, none⟩ = some (Value.slice av zs.length cap) := by rw [hW]; simp [go_sem]
      have m2 : W.cell? ⟨w.heap.size, 2, none⟩ = some (Value.int .i64 un) := by rw [hW]; simp [go_sem]
      have m3 : W.cell? ⟨w.heap.size, 3, none⟩ = some (Value.int .i64 ro) := by rw [hW]; simp [go_sem]
      have m4 : W.cell? ⟨w.heap.size, 4, none⟩ = some (Value.int .i64 pr) := by rw [hW]; simp [go_sem]
      have HW := Lib.hid hW
      have Hs := Lib.hid (hh.below hw0)
      clear hW hh
      cases ha : zs.all isName with
      | false =>
        have H := Lib.hid (show bundleE ⟨kd, zs, un, ro, pr, sh⟩ = 8 by rw [HB.out, zonesE, if_neg h64, if_pos ha]; rfl)
        have hn := filter_less isName zs ha
        have HF := Lib.hid (fun w1 (hb : Below W.heap.size W w1) => show Calls _ _ _ w1 (FilteredN w1 (zs.filter isName).length) from filterS_calls _ zs w1 (Hs.out.below hb) (by omega))
        generalize (zs.filter isName).length = F at *
        clear ha
        go_enter Try.func66, Try.ntmps66
        go_wp2_with fail
        rw [← HW.out]
        go_region_held3 (fun w' => Below W.heap.size W w' ∧ w'.cell? ⟨w.heap.size, 1, none⟩ = some (Value.slice av zs.length cap) ∧ w'.cell? ⟨w.heap.size, 2, none⟩ = some (Value.int .i64 un) ∧ w'.cell? ⟨w.heap.size, 3, none⟩ = some (Value.int .i64 ro) ∧ w'.cell? ⟨w.heap.size, 4, none⟩ = some (Value.int .i64 pr))
          (first | exact ⟨(Below.refl _ _).drew, m1, m2, m3, m4⟩ | exact hk3)
          (first | (go_at_call 72; refine (HF.out _ (Below.refl _ _).drew).mono ?_; rintro e w3 ⟨av', cap', rfl, hb3⟩; have hk3 := keep_box (Below.refl _ _).drew hb3 hlt m1 m2 m3 m4; clear hb3))
        obtain ⟨hb, n1, n2, n3, n4⟩ := hk3
        go_wp2
        go_ret
        exact ⟨ret_int H.out.symm, hw0.trans (hb.mono hw0.size)⟩
      | true =>
        have hn := filter_all isName zs ha
        have HF := Lib.hid (fun w1 (hb : Below W.heap.size W w1) => show Calls _ _ _ w1 (FilteredN w1 zs.length) from by rw [← hn]; exact filterS_calls _ zs w1 (Hs.out.below hb) (by omega))
        have HB2 := Lib.hid (show bundleE ⟨kd, zs, un, ro, pr, sh⟩ = if ascS zs = false then 9 else if ¬ Bd.ok ⟨kd, zs, un, ro, pr, sh⟩ then 6 else 0 by
          have hz : zonesE zs = if ascS zs = false then 9 else 0 := by rw [zonesE, if_neg h64, if_neg (by simp [ha])]
          rw [HB.out, hz]
          cases hq : ascS zs <;> simp)
        clear ha hn
        go_enter Try.func66, Try.ntmps66
        go_wp2_with fail
        rw [← HW.out]
        go_region_held3 (fun w' => Below W.heap.size W w' ∧ w'.cell? ⟨w.heap.size, 1, none⟩ = some (Value.slice av zs.length cap) ∧ w'.cell? ⟨w.heap.size, 2, none⟩ = some (Value.int .i64 un) ∧ w'.cell? ⟨w.heap.size, 3, none⟩ = some (Value.int .i64 ro) ∧ w'.cell? ⟨w.heap.size, 4, none⟩ = some (Value.int .i64 pr))
          (first | exact ⟨(Below.refl _ _).drew, m1, m2, m3, m4⟩ | exact hk3)
          (first | (go_at_call 72; refine (HF.out _ (Below.refl _ _).drew).mono ?_; rintro e w3 ⟨av', cap', rfl, hb3⟩; have hk3 := keep_box (Below.refl _ _).drew hb3 hlt m1 m2 m3 m4; clear hb3))
        obtain ⟨hb, n1, n2, n3, n4⟩ := hk3
        have Hs3 := Lib.hid (show ∀ k (hk : k < zs.length), ∃ b o, av = some ⟨b, o, none⟩ ∧ StrR w3 b (o + k) zs[k] from fun k hk => by
          obtain ⟨av2, cap2, e2, -, -, hx⟩ := Hs.out.below hb
          cases e2
          obtain ⟨b, o, e, hB, hx⟩ := hx (by rintro rfl; cases hk)
          exact ⟨b, o, e, by simpa using hx k hk⟩)
        go_wp2_with fail
        go_loopw [3] (fun i wr => ∃ j n : Nat, i = .int .i64 ((j : Int) + 1) ∧ ascUpto zs j = true ∧ j ≤ zs.length ∧ wr = w3.drewN n) (fun i _ => zs.length + 1 - (intOf i).toNat)
        case atStart => exact ⟨0, 0, rfl, rfl, Nat.zero_le _, rfl⟩
        case round =>
          obtain ⟨j, n, rfl, ha, hjl, rfl⟩ := hrel
          by_cases hlt2 : j + 1 < zs.length
          · obtain ⟨b, o, rfl, hcell, hsz⟩ := Hs3.out (j + 1) hlt2
            obtain ⟨b', o', e', hcell', hsz'⟩ := Hs3.out j (by omega)
            cases e'
            have hat := ascUpto_succ zs (j + 1) (by omega) hlt2
            have haf := ascUpto_false zs (j + 1) (by omega) hlt2
            simp only [Nat.add_sub_cancel] at hat haf
            rw [ha, Bool.true_and] at hat
            generalize zs[j + 1] = y at *
            generalize zs[j] = x at *
            unfold ltS at hat haf
            have hj1 : (0 : Int) ≤ (j : Int) := Int.natCast_nonneg _
            have hj2 : (j : Int) < (zs.length : Int) := by omega
            have hj3 : (j : Int) + 1 < (zs.length : Int) := by omega
            have hj4 : (0 : Int) ≤ (j : Int) + 1 := by omega
            cases hx : Op.bytesLess x.toList y.toList with
            | true =>
              have HA := Lib.hid (hat.trans hx)
              clear ha hat haf
              go_wp2_with fail
              have hj5 : IntKind.i64.wrap ((j : Int) + 1 - 1) = (j : Int) := by rw [Int.add_sub_cancel]; exact IntWalk.i64_in _ (by omega)
              have hj6 : ((j : Int) + 1).toNat = j + 1 := by omega
              have hj7 : IntKind.i64.wrap (j : Int) = (j : Int) := IntWalk.i64_in _ (by omega)
              go_quiet (fail)
              clear hj5 hj6 hj7
              go_wp2
              exact ⟨⟨j + 1, _, by go_num, HA.out, by omega, rfl⟩, by simp [intOf]; omega⟩
            | false =>
              have H := Lib.hid (show bundleE ⟨kd, zs, un, ro, pr, sh⟩ = 9 by rw [HB2.out, if_pos (haf hx)])
              clear ha hat haf
              go_wp2_with fail
              have hj5 : IntKind.i64.wrap ((j : Int) + 1 - 1) = (j : Int) := by rw [Int.add_sub_cancel]; exact IntWalk.i64_in _ (by omega)
              have hj6 : ((j : Int) + 1).toNat = j + 1 := by omega
              have hj7 : IntKind.i64.wrap (j : Int) = (j : Int) := IntWalk.i64_in _ (by omega)
              go_quiet (fail)
              clear hj5 hj6 hj7
              go_wp2
              go_ret
              exact ⟨ret_int H.out.symm, below_drewN (below_drewN (hw0.trans (hb.mono hw0.size)) _) _⟩
          · have hasc : ascS zs = true := by
              unfold ascS
              by_cases hz : zs.length = 0
              · rw [hz]; rfl
              · have : zs.length - 1 ≤ j := by omega
                rw [ascUpto, List.all_eq_true] at ha ⊢
                exact fun i hi => ha i (by simp at hi ⊢; omega)
            have HB3 := Lib.hid (show bundleE ⟨kd, zs, un, ro, pr, sh⟩ = if ¬ Bd.ok ⟨kd, zs, un, ro, pr, sh⟩ then 6 else 0 by rw [HB2.out, if_neg (by rw [hasc]; decide)])
            clear hasc ha
            by_cases hok : Bd.ok ⟨kd, zs, un, ro, pr, sh⟩
            · have H := Lib.hid (show bundleE ⟨kd, zs, un, ro, pr, sh⟩ = 0 by rw [HB3.out, if_neg (not_not_intro hok)])
              obtain ⟨a1, a2, a3, a4, a5, a6⟩ := hok
              dsimp only at a1 a2 a3 a4 a5 a6
              go_wp2
              go_ret
              exact ⟨ret_int H.out.symm, below_drewN (hw0.trans (hb.mono hw0.size)) _⟩
            · have H := Lib.hid (show bundleE ⟨kd, zs, un, ro, pr, sh⟩ = 6 by rw [HB3.out, if_pos hok])
              have hcase : un < 1 ∨ (1 ≤ un ∧ 1099511627776 < un) ∨ (1 ≤ un ∧ un ≤ 1099511627776 ∧ ro < 0) ∨ (1 ≤ un ∧ un ≤ 1099511627776 ∧ 0 ≤ ro ∧ 1099511627776 < ro) ∨ (1 ≤ un ∧ un ≤ 1099511627776 ∧ 0 ≤ ro ∧ ro ≤ 1099511627776 ∧ pr < 0) ∨ (1 ≤ un ∧ un ≤ 1099511627776 ∧ 0 ≤ ro ∧ ro ≤ 1099511627776 ∧ 0 ≤ pr ∧ 99 < pr) := by
                simp only [Bd.ok] at hok; omega
              clear hok
              rcases hcase with hc | hc | hc | hc | hc | hc
              all_goals
                go_wp2
                go_ret
                exact ⟨ret_int H.out.symm, below_drewN (hw0.trans (hb.mono hw0.size)) _⟩
end Go.Proofs.Ytmijdmchhlcblaa
