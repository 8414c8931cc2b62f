/-
  The walks of product.check and of the reference's One.
-/
import Derived.Test.YtmijdmchhlcblaaBundle
namespace Go.Proofs.Ytmijdmchhlcblaa
open Go.RowKit

/-- A bundle in six cells. -/
def BdR (w : World) (b o : Nat) (x : Bd) : Prop :=
  w.cell? ⟨b, o, none⟩ = some (.int .i64 x.kd) ∧ (∃ zv, w.cell? ⟨b, o + 1, none⟩ = some zv ∧ StrsAt w zv x.zs) ∧ w.cell? ⟨b, o + 2, none⟩ = some (.int .i64 x.un) ∧ w.cell? ⟨b, o + 3, none⟩ = some (.int .i64 x.ro) ∧
    w.cell? ⟨b, o + 4, none⟩ = some (.int .i64 x.pr) ∧ w.cell? ⟨b, o + 5, none⟩ = some (.bool x.sh)

theorem BdR.stays : Stays BdR := fun w w' b _ _ hb hB ⟨h0, ⟨zv, h1, hz⟩, h2, h3, h4, h5⟩ =>
  have c : ∀ j, w'.cell? ⟨b, j, none⟩ = w.cell? ⟨b, j, none⟩ := fun j => hb.cell (p := ⟨b, j, none⟩) hB
  ⟨(c _).trans h0, ⟨zv, (c _).trans h1, hz.below hb⟩, (c _).trans h2, (c _).trans h3, (c _).trans h4, (c _).trans h5⟩

def BdsAt (w : World) (v : Value) (l : List Bd) : Prop := SliceAt 6 BdR w v l
theorem BdsAt.below {w w' : World} {v : Value} {l : List Bd} (h : BdsAt w v l) (hb : Below w.heap.size w w') : BdsAt w' v l := SliceAt.below BdR.stays h hb

/-- The value of a product whose bundles are bv. -/
def pdVal (p : Pd) (bv : Value) : Value := .agg #[.string p.nm, .int .i64 p.fm, .int .i64 p.fe, .string p.ct, .bool p.pro, bv]

theorem bundlesE_step (l : List Bd) (k : Nat) (h : k < l.length) : bundlesE (l.drop k) = if bundleE l[k] ≠ 0 then bundleE l[k] else bundlesE (l.drop (k + 1)) := by
  rw [List.drop_eq_getElem_cons h, bundlesE]
theorem bundlesE_end (l : List Bd) (k : Nat) (h : l.length ≤ k) : bundlesE (l.drop k) = 0 := by
  rw [List.drop_of_length_le h]; rfl

theorem namec {s : ByteArray} {b : Bool} (h : isName s = b) (hs : s.size ≤ maxLen) (w : World) : Calls Try.prog 64 #[.string s] w fun e w' => e = .returned (.bool b) ∧ w = w' := by
  rw [← h]; exact name_calls s w hs
theorem rnamec {s : ByteArray} {b : Bool} (h : isName s = b) (hs : s.size ≤ maxLen) (w : World) : Calls Try.prog 67 #[.string s] w fun e w' => e = .returned (.bool b) ∧ w = w' := by
  rw [← h]; exact rname_calls s w hs

set_option maxRecDepth 100000 in
set_option maxHeartbeats 3200000 in
theorem check_calls (p : Pd) (bv : Value) (w : World) (hns : p.nm.size ≤ maxLen) (hcs : p.ct.size ≤ maxLen) (h : BdsAt w bv p.bs) :
    Calls Try.prog 47 #[pdVal p bv] w fun e w' => e = .returned (.int .i64 (prodE p)) ∧ Below w.heap.size w w' := by
  have hh := h
  obtain ⟨av, cap, rfl, hlc, hm, -⟩ := h
  obtain ⟨nm, fm, fe, ct, pro, bs⟩ := p
  unfold pdVal
  dsimp only at *
  have hm2 := hm.1
  unfold maxLen at hm2
  obtain ⟨W, hW⟩ : ∃ W, W = w.alloc (Obj.cells #[Value.string nm, Value.int .i64 fm, Value.int .i64 fe, Value.string ct, Value.bool pro, Value.slice av bs.length cap] 33) := ⟨_, rfl⟩
  have hw0 : Below w.heap.size w W := by rw [hW]; go_grown
  have hlt : w.heap.size < W.heap.size := by rw [hW]; simp
  have m0 : W.cell? ⟨w.heap.size, 0, none⟩ = some (Value.string nm) := by rw [hW]; simp [go_sem]
  have m1 : W.cell? ⟨w.heap.size, 1, none⟩ = some (Value.int .i64 fm) := by rw [hW]; simp [go_sem]
  have m2 : W.cell? ⟨w.heap.size, 2, none⟩ = some (Value.int .i64 fe) := by rw [hW]; simp [go_sem]
  have m3 : W.cell? ⟨w.heap.size, 3, none⟩ = some (Value.string ct) := by rw [hW]; simp [go_sem]
  have m5 : W.cell? ⟨w.heap.size, 5, none⟩ = some (Value.slice av bs.length cap) := by rw [hW]; simp [go_sem]
  have HW := Lib.hid hW
  have Hs := Lib.hid (hh.below hw0)
  clear hW hh hm
  cases h1 : isName nm with
  | false =>
    have H := Lib.hid (show prodE ⟨nm, fm, fe, ct, pro, bs⟩ = 8 from if_pos h1)
    have H1 := Lib.hid h1
    clear h1
    go_enter Try.func47, Try.ntmps47
    go_wp2_with fail
    rw [← HW.out]
    refine (namec H1.out hns _).mono ?_
    rintro e w1 ⟨rfl, rfl⟩
    go_wp2
    go_ret
    exact ⟨ret_int H.out.symm, hw0⟩
  | true =>
    have H1 := Lib.hid h1
    by_cases h2 : fm < 0 ∨ 12622780800 ≤ fm
    · have H := Lib.hid (show prodE ⟨nm, fm, fe, ct, pro, bs⟩ = 15 by rw [prodE, if_neg (by simp [h1]), if_pos h2])
      have hc : fm < 0 ∨ (0 ≤ fm ∧ 12622780800 ≤ fm) := by omega
      clear h1 h2
      rcases hc with hc | hc
      all_goals
        go_enter Try.func47, Try.ntmps47
        go_wp2_with fail
        rw [← HW.out]
        refine (namec H1.out hns _).mono ?_
        rintro e w1 ⟨rfl, rfl⟩
        go_wp2
        go_ret
        exact ⟨ret_int H.out.symm, hw0⟩
    · have f1 : 0 ≤ fm := by omega
      have f2 : fm < 12622780800 := by omega
      by_cases h3 : fe < 0 ∨ 1125899906842624 < fe
      · have H := Lib.hid (show prodE ⟨nm, fm, fe, ct, pro, bs⟩ = 6 by rw [prodE, if_neg (by simp [h1]), if_neg h2, if_pos h3])
        have hc : fe < 0 ∨ (0 ≤ fe ∧ 1125899906842624 < fe) := by omega
        clear h1 h2 h3
        rcases hc with hc | hc
        · skip
          go_enter Try.func47, Try.ntmps47
          go_wp2_with fail
          rw [← HW.out]
          refine (namec H1.out hns _).mono ?_
          rintro e w1 ⟨rfl, rfl⟩
          go_wp2
          go_ret
          exact ⟨ret_int H.out.symm, hw0⟩
        · skip
          have HV := Lib.hid (show decide (-1125899906842624 ≤ fe ∧ fe ≤ 1125899906842624) = false from decide_eq_false (by omega))
          go_enter Try.func47, Try.ntmps47
          go_wp2_with fail
          rw [← HW.out]
          refine (namec H1.out hns _).mono ?_
          rintro e w1 ⟨rfl, rfl⟩
          go_wp2_with fail
          refine (valid_amount fe _).mono ?_
          rintro e w1 ⟨rfl, rfl⟩
          rw [HV.out]
          go_wp2
          go_ret
          exact ⟨ret_int H.out.symm, hw0⟩
      · have g1 : 0 ≤ fe := by omega
        have g2 : fe ≤ 1125899906842624 := by omega
        have HV := Lib.hid (show decide (-1125899906842624 ≤ fe ∧ fe ≤ 1125899906842624) = true from decide_eq_true (by omega))
        cases h4 : isName ct with
        | false =>
          have H := Lib.hid (show prodE ⟨nm, fm, fe, ct, pro, bs⟩ = 8 by rw [prodE, if_neg (by simp [h1]), if_neg h2, if_neg h3, if_pos h4])
          have H4 := Lib.hid h4
          clear h1 h2 h3 h4
          go_enter Try.func47, Try.ntmps47
          go_wp2_with fail
          rw [← HW.out]
          refine (namec H1.out hns _).mono ?_
          rintro e w1 ⟨rfl, rfl⟩
          go_wp2_with fail
          refine (valid_amount fe _).mono ?_
          rintro e w1 ⟨rfl, rfl⟩
          rw [HV.out]
          go_wp2_with fail
          refine (namec H4.out hcs _).mono ?_
          rintro e w1 ⟨rfl, rfl⟩
          go_wp2
          go_ret
          exact ⟨ret_int H.out.symm, hw0⟩
        | true =>
          have H4 := Lib.hid h4
          by_cases h5 : 64 < bs.length
          · have H := Lib.hid (show prodE ⟨nm, fm, fe, ct, pro, bs⟩ = 5 by rw [prodE, if_neg (by simp [h1]), if_neg h2, if_neg h3, if_neg (by simp [h4]), if_pos h5])
            clear h1 h2 h3 h4
            go_enter Try.func47, Try.ntmps47
            go_wp2_with fail
            rw [← HW.out]
            refine (namec H1.out hns _).mono ?_
            rintro e w1 ⟨rfl, rfl⟩
            go_wp2_with fail
            refine (valid_amount fe _).mono ?_
            rintro e w1 ⟨rfl, rfl⟩
            rw [HV.out]
            go_wp2_with fail
            refine (namec H4.out hcs _).mono ?_
            rintro e w1 ⟨rfl, rfl⟩
            go_wp2
            go_ret
            exact ⟨ret_int H.out.symm, hw0⟩
          · have HP := Lib.hid (show prodE ⟨nm, fm, fe, ct, pro, bs⟩ = bundlesE bs by rw [prodE, if_neg (by simp [h1]), if_neg h2, if_neg h3, if_neg (by simp [h4]), if_neg h5])
            clear h1 h2 h3 h4
            go_enter Try.func47, Try.ntmps47
            go_wp2_with fail
            rw [← HW.out]
            refine (namec H1.out hns _).mono ?_
            rintro e w1 ⟨rfl, rfl⟩
            go_wp2_with fail
            refine (valid_amount fe _).mono ?_
            rintro e w1 ⟨rfl, rfl⟩
            rw [HV.out]
            go_wp2_with fail
            refine (namec H4.out hcs _).mono ?_
            rintro e w1 ⟨rfl, rfl⟩
            go_wp2_with fail
            go_loopw [43] (fun i wr => ∃ k : Nat, k ≤ bs.length ∧ i = .int .i64 k ∧ bundlesE bs = bundlesE (bs.drop k) ∧ Below W.heap.size W wr) (fun i _ => bs.length - (intOf i).toNat)
            case atStart => exact ⟨0, Nat.zero_le _, rfl, rfl, Below.refl _ _⟩
            case round =>
              obtain ⟨k, hk, rfl, he, hb⟩ := hrel
              have n5 := (hb.cell (p := ⟨w.heap.size, 5, none⟩) hlt).trans m5
              by_cases hlk : k < bs.length
              · obtain ⟨av2, cap2, e2, -, -, hx⟩ := Hs.out.below hb
                cases e2
                obtain ⟨b, o, rfl, hB, hx⟩ := hx (by rintro rfl; cases hlk)
                obtain ⟨c0, ⟨zv, c1, hz⟩, c2, c3, c4, c5⟩ := hx k hlk
                have hst := bundlesE_step bs k hlk
                rw [← he] at hst
                clear hx he
                generalize bs[k] = x at *
                have hk0 : (0 : Int) ≤ (k : Int) := Int.natCast_nonneg _
                have hk1 : (k : Int) < (bs.length : Int) := by omega
                have Hst := Lib.hid hst
                have Hb := Lib.hid (fun w1 (hb1 : Below wr.heap.size wr w1) => bundle_calls x zv w1 (hz.below hb1))
                have hbw := hb.size
                obtain ⟨az, cz, rfl, -, -, -⟩ := hz
                obtain ⟨kd, zs, un, ro, pr, sh⟩ := x
                unfold bdVal at Hb
                dsimp only at c0 c1 c2 c3 c4 c5 Hb
                clear hst
                by_cases hz0 : bundleE ⟨kd, zs, un, ro, pr, sh⟩ = 0
                · have HE := Lib.hid (show bundlesE bs = bundlesE (bs.drop (k + 1)) by rw [Hst.out, if_neg (not_not_intro hz0)])
                  have HZ := Lib.hid hz0
                  clear hz0
                  go_wp2_with fail
                  refine (Hb.out _ (by go_grown)).mono ?_
                  rintro e w2 ⟨rfl, hb2⟩
                  rw [HZ.out]
                  have hb3 : Below W.heap.size W w2 := Below.trans (by go_grown) (hb2.mono (by simp; omega))
                  go_wp2
                  exact ⟨⟨k + 1, by omega, by go_num, HE.out, hb3⟩, by simp [intOf]; omega⟩
                · have HE := Lib.hid (show prodE ⟨nm, fm, fe, ct, pro, bs⟩ = bundleE ⟨kd, zs, un, ro, pr, sh⟩ by rw [HP.out, Hst.out, if_pos hz0])
                  have hz2 : (bundleE ⟨kd, zs, un, ro, pr, sh⟩ != 0) = true := by rw [bne_iff_ne]; exact hz0
                  clear hz0
                  go_wp2_with fail
                  refine (Hb.out _ (by go_grown)).mono ?_
                  rintro e w2 ⟨rfl, hb2⟩
                  have hb3 : Below W.heap.size W w2 := Below.trans (by go_grown) (hb2.mono (by simp; omega))
                  go_wp2
                  go_ret
                  exact ⟨ret_int HE.out.symm, hw0.trans (hb3.mono hw0.size)⟩
              · have H := Lib.hid (show prodE ⟨nm, fm, fe, ct, pro, bs⟩ = 0 by rw [HP.out, he, bundlesE_end bs k (by omega)])
                clear he
                go_wp2
                go_ret
                exact ⟨ret_int H.out.symm, hw0.trans (hb.mono hw0.size)⟩

set_option maxRecDepth 100000 in
set_option maxHeartbeats 3200000 in
theorem one_calls (p : Pd) (bv : Value) (w : World) (hns : p.nm.size ≤ maxLen) (hcs : p.ct.size ≤ maxLen) (h : BdsAt w bv p.bs) :
    Calls Try.prog 48 #[pdVal p bv] w fun e w' => e = .returned (.int .i64 (prodE p)) ∧ Below w.heap.size w w' := by
  have hh := h
  obtain ⟨av, cap, rfl, hlc, hm, -⟩ := h
  obtain ⟨nm, fm, fe, ct, pro, bs⟩ := p
  unfold pdVal
  dsimp only at *
  have hm2 := hm.1
  unfold maxLen at hm2
  obtain ⟨W, hW⟩ : ∃ W, W = w.alloc (Obj.cells #[Value.string nm, Value.int .i64 fm, Value.int .i64 fe, Value.string ct, Value.bool pro, Value.slice av bs.length cap] 33) := ⟨_, rfl⟩
  have hw0 : Below w.heap.size w W := by rw [hW]; go_grown
  have hlt : w.heap.size < W.heap.size := by rw [hW]; simp
  have m0 : W.cell? ⟨w.heap.size, 0, none⟩ = some (Value.string nm) := by rw [hW]; simp [go_sem]
  have m1 : W.cell? ⟨w.heap.size, 1, none⟩ = some (Value.int .i64 fm) := by rw [hW]; simp [go_sem]
  have m2 : W.cell? ⟨w.heap.size, 2, none⟩ = some (Value.int .i64 fe) := by rw [hW]; simp [go_sem]
  have m3 : W.cell? ⟨w.heap.size, 3, none⟩ = some (Value.string ct) := by rw [hW]; simp [go_sem]
  have m5 : W.cell? ⟨w.heap.size, 5, none⟩ = some (Value.slice av bs.length cap) := by rw [hW]; simp [go_sem]
  have HW := Lib.hid hW
  have Hs := Lib.hid (hh.below hw0)
  clear hW hh hm
  cases h1 : isName nm with
  | false =>
    have H := Lib.hid (show prodE ⟨nm, fm, fe, ct, pro, bs⟩ = 8 from if_pos h1)
    have H1 := Lib.hid h1
    clear h1
    go_enter Try.func48, Try.ntmps48
    go_wp2_with fail
    rw [← HW.out]
    refine (rnamec H1.out hns _).mono ?_
    rintro e w1 ⟨rfl, rfl⟩
    go_wp2
    go_ret
    exact ⟨ret_int H.out.symm, hw0⟩
  | true =>
    have H1 := Lib.hid h1
    by_cases h2 : fm < 0 ∨ 12622780800 ≤ fm
    · have H := Lib.hid (show prodE ⟨nm, fm, fe, ct, pro, bs⟩ = 15 by rw [prodE, if_neg (by simp [h1]), if_pos h2])
      have hc : fm < 0 ∨ (0 ≤ fm ∧ 12622780800 ≤ fm) := by omega
      clear h1 h2
      rcases hc with hc | hc
      all_goals
        go_enter Try.func48, Try.ntmps48
        go_wp2_with fail
        rw [← HW.out]
        refine (rnamec H1.out hns _).mono ?_
        rintro e w1 ⟨rfl, rfl⟩
        go_wp2
        go_ret
        exact ⟨ret_int H.out.symm, hw0⟩
    · have f1 : 0 ≤ fm := by omega
      have f2 : fm < 12622780800 := by omega
      by_cases h3 : fe < 0 ∨ 1125899906842624 < fe
      · have H := Lib.hid (show prodE ⟨nm, fm, fe, ct, pro, bs⟩ = 6 by rw [prodE, if_neg (by simp [h1]), if_neg h2, if_pos h3])
        have hc : fe < 0 ∨ (0 ≤ fe ∧ 1125899906842624 < fe) := by omega
        clear h1 h2 h3
        rcases hc with hc | hc
        · skip
          go_enter Try.func48, Try.ntmps48
          go_wp2_with fail
          rw [← HW.out]
          refine (rnamec H1.out hns _).mono ?_
          rintro e w1 ⟨rfl, rfl⟩
          go_wp2
          go_ret
          exact ⟨ret_int H.out.symm, hw0⟩
        · skip
          go_enter Try.func48, Try.ntmps48
          go_wp2_with fail
          rw [← HW.out]
          refine (rnamec H1.out hns _).mono ?_
          rintro e w1 ⟨rfl, rfl⟩
          go_wp2
          go_ret
          exact ⟨ret_int H.out.symm, hw0⟩
      · have g1 : 0 ≤ fe := by omega
        have g2 : fe ≤ 1125899906842624 := by omega
        cases h4 : isName ct with
        | false =>
          have H := Lib.hid (show prodE ⟨nm, fm, fe, ct, pro, bs⟩ = 8 by rw [prodE, if_neg (by simp [h1]), if_neg h2, if_neg h3, if_pos h4])
          have H4 := Lib.hid h4
          clear h1 h2 h3 h4
          go_enter Try.func48, Try.ntmps48
          go_wp2_with fail
          rw [← HW.out]
          refine (rnamec H1.out hns _).mono ?_
          rintro e w1 ⟨rfl, rfl⟩
          go_wp2_with fail
          refine (rnamec H4.out hcs _).mono ?_
          rintro e w1 ⟨rfl, rfl⟩
          go_wp2
          go_ret
          exact ⟨ret_int H.out.symm, hw0⟩
        | true =>
          have H4 := Lib.hid h4
          by_cases h5 : 64 < bs.length
          · have H := Lib.hid (show prodE ⟨nm, fm, fe, ct, pro, bs⟩ = 5 by rw [prodE, if_neg (by simp [h1]), if_neg h2, if_neg h3, if_neg (by simp [h4]), if_pos h5])
            clear h1 h2 h3 h4
            go_enter Try.func48, Try.ntmps48
            go_wp2_with fail
            rw [← HW.out]
            refine (rnamec H1.out hns _).mono ?_
            rintro e w1 ⟨rfl, rfl⟩
            go_wp2_with fail
            refine (rnamec H4.out hcs _).mono ?_
            rintro e w1 ⟨rfl, rfl⟩
            go_wp2
            go_ret
            exact ⟨ret_int H.out.symm, hw0⟩
          · have HP := Lib.hid (show prodE ⟨nm, fm, fe, ct, pro, bs⟩ = bundlesE bs by rw [prodE, if_neg (by simp [h1]), if_neg h2, if_neg h3, if_neg (by simp [h4]), if_neg h5])
            clear h1 h2 h3 h4
            go_enter Try.func48, Try.ntmps48
            go_wp2_with fail
            rw [← HW.out]
            refine (rnamec H1.out hns _).mono ?_
            rintro e w1 ⟨rfl, rfl⟩
            go_wp2_with fail
            refine (rnamec H4.out hcs _).mono ?_
            rintro e w1 ⟨rfl, rfl⟩
            go_wp2_with fail
            go_loopw [3] (fun i wr => ∃ k : Nat, k ≤ bs.length ∧ i = .int .i64 k ∧ bundlesE bs = bundlesE (bs.drop k) ∧ Below W.heap.size W wr) (fun i _ => bs.length - (intOf i).toNat)
            case atStart => exact ⟨0, Nat.zero_le _, rfl, rfl, Below.refl _ _⟩
            case round =>
              obtain ⟨k, hk, rfl, he, hb⟩ := hrel
              have n5 := (hb.cell (p := ⟨w.heap.size, 5, none⟩) hlt).trans m5
              by_cases hlk : k < bs.length
              · obtain ⟨av2, cap2, e2, -, -, hx⟩ := Hs.out.below hb
                cases e2
                obtain ⟨b, o, rfl, hB, hx⟩ := hx (by rintro rfl; cases hlk)
                obtain ⟨c0, ⟨zv, c1, hz⟩, c2, c3, c4, c5⟩ := hx k hlk
                have hst := bundlesE_step bs k hlk
                rw [← he] at hst
                clear hx he
                generalize bs[k] = x at *
                have hk0 : (0 : Int) ≤ (k : Int) := Int.natCast_nonneg _
                have hk1 : (k : Int) < (bs.length : Int) := by omega
                have Hst := Lib.hid hst
                have Hb := Lib.hid (fun w1 (hb1 : Below wr.heap.size wr w1) => rbundle_calls x zv w1 (hz.below hb1))
                have hbw := hb.size
                obtain ⟨az, cz, rfl, -, -, -⟩ := hz
                obtain ⟨kd, zs, un, ro, pr, sh⟩ := x
                unfold bdVal at Hb
                dsimp only at c0 c1 c2 c3 c4 c5 Hb
                clear hst
                by_cases hz0 : bundleE ⟨kd, zs, un, ro, pr, sh⟩ = 0
                · have HE := Lib.hid (show bundlesE bs = bundlesE (bs.drop (k + 1)) by rw [Hst.out, if_neg (not_not_intro hz0)])
                  have HZ := Lib.hid hz0
                  clear hz0
                  go_wp2_with fail
                  refine (Hb.out _ (by go_grown)).mono ?_
                  rintro e w2 ⟨rfl, hb2⟩
                  rw [HZ.out]
                  have hb3 : Below W.heap.size W w2 := Below.trans (by go_grown) (hb2.mono (by omega))
                  go_wp2
                  exact ⟨⟨k + 1, by omega, by go_num, HE.out, hb3⟩, by simp [intOf]; omega⟩
                · have HE := Lib.hid (show prodE ⟨nm, fm, fe, ct, pro, bs⟩ = bundleE ⟨kd, zs, un, ro, pr, sh⟩ by rw [HP.out, Hst.out, if_pos hz0])
                  have hz2 : (bundleE ⟨kd, zs, un, ro, pr, sh⟩ != 0) = true := by rw [bne_iff_ne]; exact hz0
                  clear hz0
                  go_wp2_with fail
                  refine (Hb.out _ (by go_grown)).mono ?_
                  rintro e w2 ⟨rfl, hb2⟩
                  have hb3 : Below W.heap.size W w2 := Below.trans (by go_grown) (hb2.mono (by omega))
                  go_wp2
                  go_ret
                  exact ⟨ret_int HE.out.symm, hw0.trans (hb3.mono hw0.size)⟩
              · have H := Lib.hid (show prodE ⟨nm, fm, fe, ct, pro, bs⟩ = 0 by rw [HP.out, he, bundlesE_end bs k (by omega)])
                clear he
                go_wp2
                go_ret
                exact ⟨ret_int H.out.symm, hw0.trans (hb.mono hw0.size)⟩
end Go.Proofs.Ytmijdmchhlcblaa
