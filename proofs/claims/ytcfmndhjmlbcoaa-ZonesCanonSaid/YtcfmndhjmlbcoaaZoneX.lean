/-
  The walk of zones.Equal.
-/
import Derived.Test.YtcfmndhjmlbcoaaZoneV
namespace Go.Proofs.Ytcfmndhjmlbcoaa
open Go.RowKit Go.Sort

set_option maxRecDepth 100000 in
set_option maxHeartbeats 3200000 in
theorem sequal_calls (va vb : Value) (L M : List ByteArray) (w : World) (ha : StrsAt w va L) (hb0 : StrsAt w vb M) :
    Calls Try.prog 69 #[va, vb] w (BoolTo (alikeT L M) w) := by
  have hA := ha
  have hB := hb0
  obtain ⟨aa, ca, rfl, hla, hma, -⟩ := ha
  obtain ⟨ab, cb, rfl, hlb, hmb, -⟩ := hb0
  have hma := hma.1
  have hmb := hmb.1
  unfold maxLen at hma hmb
  by_cases hl : L.length = M.length
  · have he : ((L.length : Int) != (M.length : Int)) = false := bne_eq_false_iff_eq.2 (by omega)
    have HAl := Lib.hid (show alikeT L M = (L.zip M).all fun x => sameS x.1 x.2 by unfold alikeT; rw [decide_eq_true hl]; rfl)
    have hzl : (L.zip M).length = L.length := by rw [List.length_zip]; omega
    go_enter Try.func69, Try.ntmps69
    go_wp2_with fail
    go_loopw [5, 13] (fun _ i wr => ∃ k : Nat, k ≤ L.length ∧ i = .int .i64 k ∧ ((L.zip M).take k).all (fun x => sameS x.1 x.2) = true ∧ Below w.heap.size w wr) (fun _ i _ => L.length - (intOf i).toNat)
    case atStart => exact ⟨0, Nat.zero_le _, rfl, rfl, Below.refl _ _⟩
    case round =>
      obtain ⟨k, hk, rfl, hn, hb⟩ := hrel
      have Hn := Lib.hid hn
      clear hn
      by_cases hlt : k < L.length
      · have hlt2 : k < M.length := by omega
        have hkz : k < (L.zip M).length := by omega
        have HT := Lib.hid (fun h2 => all_take (p := fun x : ByteArray × ByteArray => sameS x.1 x.2) hkz Hn.out h2)
        have HF := Lib.hid (fun h2 => all_bad (p := fun x : ByteArray × ByteArray => sameS x.1 x.2) hkz h2)
        have hzk : (L.zip M)[k]'hkz = (L[k], M[k]) := List.getElem_zip
        rw [hzk] at HT HF
        obtain ⟨av2, cap2, e2, -, -, hx⟩ := hA.below hb
        cases e2
        obtain ⟨b1, o1, rfl, hB1, hx⟩ := hx (by rintro rfl; cases hlt)
        obtain ⟨c0, -⟩ := hx k hlt
        obtain ⟨av3, cap3, e3, -, -, hy⟩ := hB.below hb
        cases e3
        obtain ⟨b2, o2, rfl, hB2, hy⟩ := hy (by rintro rfl; cases hlt2)
        obtain ⟨d0, -⟩ := hy k hlt2
        rw [Nat.mul_one] at c0 d0
        have hk0 : (0 : Int) ≤ (k : Int) := Int.natCast_nonneg _
        have hk1 : (k : Int) < (L.length : Int) := by omega
        have hk2 : (k : Int) < (M.length : Int) := by omega
        clear hx hy hzk
        generalize L[k] = x at *
        generalize M[k] = y at *
        dsimp only at HT HF
        have hsm : sameS x y = (x.toList == y.toList) := rfl
        cases hE : (x.toList == y.toList) with
        | true =>
          have HE := Lib.hid (HT.out (hsm.trans hE))
          clear HT HF hsm
          go_upto_region 6 with (fail)
          go_big_quiet (fail)
          go_wp2
          exact ⟨⟨k + 1, by omega, by go_num, HE.out, below_drewN5 hb _⟩, by simp [intOf]; omega⟩
        | false =>
          have HE := Lib.hid (HAl.out.trans (Bool.not_eq_true _ ▸ HF.out (hsm.trans hE)))
          clear HT HF hsm
          go_upto_region 6 with (fail)
          go_big_quiet (fail)
          go_wp2
          go_ret
          exact ⟨ret_bool HE.out.symm, below_drewN5 hb _⟩
      · have HE := Lib.hid (HAl.out.trans (all_end (by omega) Hn.out))
        go_wp2
        go_ret
        exact ⟨ret_bool HE.out.symm, hb⟩
  · have he : ((L.length : Int) != (M.length : Int)) = true := bne_iff_ne.2 (by omega)
    have HAl := Lib.hid (show alikeT L M = false by unfold alikeT; rw [decide_eq_false hl]; rfl)
    go_enter Try.func69, Try.ntmps69
    go_wp2
    go_ret
    exact ⟨ret_bool HAl.out.symm, Below.refl _ _⟩

/-- Are two zones alike? -/
def alikeZ (x y : Zn) : Bool := sameS x.1 y.1 && alikeT x.2 y.2
theorem alikeZ_iff (x y : Zn) : alikeZ x y = true ↔ x = y := by
  unfold alikeZ
  rw [Bool.and_eq_true, sameS_iff, alikeT_iff]
  exact ⟨fun h => Prod.ext h.1 h.2, fun h => by rw [h]; exact ⟨rfl, rfl⟩⟩
/-- Are two lists of zones alike? -/
def alikeL (a b : List Zn) : Bool := decide (a.length = b.length) && (a.zip b).all fun x => alikeZ x.1 x.2
theorem alikeL_iff (a b : List Zn) : alikeL a b = true ↔ a = b := by
  induction a generalizing b with
  | nil => cases b <;> simp [alikeL]
  | cons x r ih =>
    cases b with
    | nil => simp [alikeL]
    | cons y q =>
      have := ih q
      unfold alikeL at this ⊢
      rw [Bool.and_eq_true, decide_eq_true_eq] at this ⊢
      rw [List.zip_cons_cons, List.all_cons, Bool.and_eq_true, List.cons.injEq, ← this, alikeZ_iff]
      simp only [List.length_cons, Nat.succ_inj]
      constructor
      · rintro ⟨h1, h2, h3⟩; exact ⟨h2, h1, h3⟩
      · rintro ⟨h2, h1, h3⟩; exact ⟨h1, h2, h3⟩

set_option maxHeartbeats 1600000 in
theorem zeq1_calls (x y : Zn) (sx sy : Value) (w : World) (hx : StrsAt w sx x.2) (hy : StrsAt w sy y.2) :
    Calls Try.prog 68 #[.agg #[.string x.1, sx], .agg #[.string y.1, sy]] w (BoolTo (alikeZ x y) w) := by
  have HA := Lib.hid (show alikeZ x y = (sameS x.1 y.1 && alikeT x.2 y.2) from rfl)
  have HS := Lib.hid (fun w1 (hb : Below w.heap.size w w1) => sequal_calls sx sy x.2 y.2 w1 (hx.below hb) (hy.below hb))
  have HB := Lib.hid (fun o1 o2 => show Below w.heap.size w ((w.alloc o1).alloc o2) from ((Below.refl _ _).alloc (Nat.le_refl _) _).alloc (by simp) _)
  obtain ⟨xn, xp⟩ := x
  obtain ⟨yn, yp⟩ := y
  dsimp only at HA HS hx hy ⊢
  obtain ⟨aa, ca, rfl, -, -, -⟩ := hx
  obtain ⟨ab, cb, rfl, -, -, -⟩ := hy
  have hsm : sameS xn yn = (xn.toList == yn.toList) := rfl
  cases hE : (xn.toList == yn.toList) with
  | true =>
    have HA := Lib.hid (HA.out.trans (by rw [hsm, hE]; rfl) : alikeZ (xn, xp) (yn, yp) = alikeT xp yp)
    clear hsm
    go_enter Try.func68, Try.ntmps68
    go_wp2_with fail
    refine (HS.out _ (HB.out _ _)).mono ?_
    rintro e w2 ⟨rfl, hb2⟩
    have H2 := Lib.hid ((HB.out _ _).trans (hb2.mono (HB.out _ _).size))
    clear hb2
    go_wp2
    go_ret
    exact ⟨ret_bool HA.out.symm, H2.out⟩
  | false =>
    have HA := Lib.hid (HA.out.trans (by rw [hsm, hE]; rfl) : alikeZ (xn, xp) (yn, yp) = false)
    clear hsm
    go_enter Try.func68, Try.ntmps68
    go_wp2
    go_ret
    exact ⟨ret_bool HA.out.symm, HB.out _ _⟩

set_option maxRecDepth 100000 in
set_option maxHeartbeats 6400000 in
theorem equalf_calls (va vb : Value) (L M : List Zn) (w : World) (ha : ZnsAt w va L) (hb0 : ZnsAt w vb M) :
    Calls Try.prog 67 #[va, vb, .func (.func 68) #[] #[]] w (BoolTo (alikeL L M) w) := by
  have eg : ∀ args w, (callFunc 68 args).run Try.prog w = .ok (.enter 68 args) w := enters_of Try.func68 (by kernel_rfl) rfl
  have hA := ha
  have hB := hb0
  obtain ⟨aa, ca, rfl, hla, hma, -⟩ := ha
  obtain ⟨ab, cb, rfl, hlb, hmb, -⟩ := hb0
  have hma := hma.1
  have hmb := hmb.1
  unfold maxLen at hma hmb
  by_cases hl : L.length = M.length
  · have he : ((L.length : Int) != (M.length : Int)) = false := bne_eq_false_iff_eq.2 (by omega)
    have HAl := Lib.hid (show alikeL L M = (L.zip M).all fun x => alikeZ x.1 x.2 by unfold alikeL; rw [decide_eq_true hl]; rfl)
    have Hzl := Lib.hid (show (L.zip M).length = L.length by rw [List.length_zip]; omega)
    have hl1 : L.length ≤ M.length := by omega
    have hl2 : M.length ≤ L.length := by omega
    clear hl
    go_enter Try.func67, Try.ntmps67
    go_wp2_with fail
    go_loopw [7, 17] (fun _ i wr => ∃ k : Nat, k ≤ L.length ∧ i = .int .i64 k ∧ ((L.zip M).take k).all (fun x => alikeZ x.1 x.2) = true ∧ Below w.heap.size w wr) (fun _ i _ => L.length - (intOf i).toNat)
    case atStart => exact ⟨0, Nat.zero_le _, rfl, rfl, Below.refl _ _⟩
    case round =>
      obtain ⟨k, hk, rfl, hn, hb⟩ := hrel
      have Hn := Lib.hid hn
      clear hn
      by_cases hlt : k < L.length
      · have hlt2 : k < M.length := by omega
        have hkz : k < (L.zip M).length := by rw [Hzl.out]; exact hlt
        have HT := Lib.hid (fun h2 => all_take (p := fun x : Zn × Zn => alikeZ x.1 x.2) hkz Hn.out h2)
        have HF := Lib.hid (fun h2 => all_bad (p := fun x : Zn × Zn => alikeZ x.1 x.2) hkz h2)
        have hzk : (L.zip M)[k]'hkz = (L[k], M[k]) := List.getElem_zip
        rw [hzk] at HT HF
        obtain ⟨av2, cap2, e2, -, -, hx⟩ := hA.below hb
        cases e2
        obtain ⟨b1, o1, rfl, hB1, hx⟩ := hx (by rintro rfl; cases hlt)
        obtain ⟨⟨c0, -⟩, sx, c1, hsx⟩ := hx k hlt
        obtain ⟨av3, cap3, e3, -, -, hy⟩ := hB.below hb
        cases e3
        obtain ⟨b2, o2, rfl, hB2, hy⟩ := hy (by rintro rfl; cases hlt2)
        obtain ⟨⟨d0, -⟩, sy, d1, hsy⟩ := hy k hlt2
        have hk0 : (0 : Int) ≤ (k : Int) := Int.natCast_nonneg _
        have hk1 : (k : Int) < (L.length : Int) := by omega
        have hk2 : (k : Int) < (M.length : Int) := by omega
        clear hx hy hzk
        generalize L[k] = x at *
        generalize M[k] = y at *
        obtain ⟨xn, xp⟩ := x
        obtain ⟨yn, yp⟩ := y
        dsimp only at HT HF c0 c1 d0 d1 hsx hsy
        have HZ := Lib.hid (fun w1 (hb1 : Below wr.heap.size wr w1) => zeq1_calls (xn, xp) (yn, yp) sx sy w1 (hsx.below hb1) (hsy.below hb1))
        have HBB := Lib.hid (fun o1 o2 => show Below wr.heap.size wr ((wr.alloc o1).alloc o2) from ((Below.refl _ _).alloc (Nat.le_refl _) _).alloc (by simp) _)
        obtain ⟨ax, cx, rfl, -, -, -⟩ := hsx
        obtain ⟨ay, cy, rfl, -, -, -⟩ := hsy
        cases hE : alikeZ (xn, xp) (yn, yp) with
        | true =>
          have HE := Lib.hid (HT.out hE)
          rw [hE] at HZ
          clear HT HF hE
          go_wp2_with fail
          refine (HZ.out _ (HBB.out _ _)).mono ?_
          rintro e w2 ⟨rfl, hb2⟩
          have H2 := Lib.hid (hb.trans (((HBB.out _ _).trans (hb2.mono (HBB.out _ _).size)).mono hb.size))
          clear hb2
          go_wp2
          exact ⟨⟨k + 1, by omega, by go_num, HE.out, H2.out⟩, by simp [intOf]; omega⟩
        | false =>
          have HE := Lib.hid (HAl.out.trans (Bool.not_eq_true _ ▸ HF.out hE))
          rw [hE] at HZ
          clear HT HF hE
          go_wp2_with fail
          refine (HZ.out _ (HBB.out _ _)).mono ?_
          rintro e w2 ⟨rfl, hb2⟩
          have H2 := Lib.hid (hb.trans (((HBB.out _ _).trans (hb2.mono (HBB.out _ _).size)).mono hb.size))
          clear hb2
          go_wp2
          go_ret
          exact ⟨ret_bool HE.out.symm, H2.out⟩
      · have HE := Lib.hid (HAl.out.trans (all_end (by rw [Hzl.out]; omega) Hn.out))
        go_wp2
        go_ret
        exact ⟨ret_bool HE.out.symm, hb⟩
  · have he : ((L.length : Int) != (M.length : Int)) = true := bne_iff_ne.2 (by omega)
    have HAl := Lib.hid (show alikeL L M = false by unfold alikeL; rw [decide_eq_false hl]; rfl)
    go_enter Try.func67, Try.ntmps67
    go_wp2
    go_ret
    exact ⟨ret_bool HAl.out.symm, Below.refl _ _⟩

theorem eqZ_bad {a b : List Zn} (h : checkZ a ≠ 0 ∨ checkZ b ≠ 0) : eqZ a b = false := by
  unfold eqZ
  rcases h with h | h
  · rw [decide_eq_false h]; rfl
  · rw [decide_eq_false h]; simp
theorem eqZ_alike {a b A B : List Zn} (ha : MinOf a A) (hb : MinOf b B) (ca : checkZ a = 0) (cb : checkZ b = 0) : alikeL A B = eqZ a b := by
  rw [Bool.eq_iff_iff, alikeL_iff, eqZ_min ha hb ca cb]

set_option maxRecDepth 100000 in
set_option maxHeartbeats 3200000 in
theorem zequal_calls (va vb : Value) (a b : List Zn) (w : World) (ha : ZnsAt w va a) (hb0 : ZnsAt w vb b) :
    Calls Try.prog 37 #[va, vb] w (BoolTo (eqZ a b) w) := by
  have HCa := Lib.hid (zcheck_calls va a w ha)
  have HCb := Lib.hid (fun w1 (hb : Below w.heap.size w w1) => zcheck_calls vb b w1 (hb0.below hb))
  have HMa := Lib.hid (fun w1 (hb : Below w.heap.size w w1) => zmin_calls va a w1 (ha.below hb))
  have HMb := Lib.hid (fun w1 (hb : Below w.heap.size w w1) => zmin_calls vb b w1 (hb0.below hb))
  have HBad := Lib.hid (fun h => (eqZ_bad h : eqZ a b = false))
  have HEq := Lib.hid (fun A B (h1 : MinOf a A) (h2 : MinOf b B) ca cb => eqZ_alike h1 h2 ca cb)
  obtain ⟨aa, ca, rfl, -, -, -⟩ := ha
  obtain ⟨ab, cb, rfl, -, -, -⟩ := hb0
  generalize checkZ a = c at *
  generalize checkZ b = d at *
  by_cases hc : c = 0
  · subst hc
    by_cases hd : d = 0
    · subst hd
      go_enter Try.func37, Try.ntmps37
      go_wp2_with fail
      refine HCa.out.mono ?_
      rintro e w1 ⟨rfl, hb1⟩
      have HCb := Lib.hid (HCb.out w1 hb1)
      go_wp2_with fail
      refine HCb.out.mono ?_
      rintro e w2 ⟨rfl, hb2⟩
      have hb2 := hb1.trans (hb2.mono hb1.size)
      have HMa := Lib.hid (HMa.out w2 hb2)
      go_wp2_with fail
      refine HMa.out.mono ?_
      rintro e w3 ⟨v3, A, rfl, hA, hMA, hb3⟩
      have hb3 := hb2.trans (hb3.mono hb2.size)
      have HMb := Lib.hid (HMb.out w3 hb3)
      have HA := Lib.hid hA
      have HMA := Lib.hid hMA
      clear hA hMA
      go_wp2_with fail
      refine HMb.out.mono ?_
      rintro e w4 ⟨v4, B, rfl, hB, hMB, hb4⟩
      have HE := Lib.hid (HEq.out A B HMA.out hMB trivial trivial)
      have HF := Lib.hid (equalf_calls v3 v4 A B w4 (HA.out.below hb4) hB)
      have hb4 := hb3.trans (hb4.mono hb3.size)
      rw [HE.out] at HF
      clear hB hMB
      go_wp2_with fail
      refine HF.out.mono ?_
      rintro e w5 ⟨rfl, hb5⟩
      go_wp2
      go_ret
      exact ⟨rfl, hb4.trans (hb5.mono hb4.size)⟩
    · have hz : (d != 0) = true := bne_iff_ne.2 hd
      have HE := Lib.hid (HBad.out (Or.inr hd))
      go_enter Try.func37, Try.ntmps37
      go_wp2_with fail
      refine HCa.out.mono ?_
      rintro e w1 ⟨rfl, hb1⟩
      have HCb := Lib.hid (HCb.out w1 hb1)
      go_wp2_with fail
      refine HCb.out.mono ?_
      rintro e w2 ⟨rfl, hb2⟩
      go_wp2
      go_ret
      exact ⟨ret_bool HE.out.symm, hb1.trans (hb2.mono hb1.size)⟩
  · have hz : (c != 0) = true := bne_iff_ne.2 hc
    have HE := Lib.hid (HBad.out (Or.inl hc))
    go_enter Try.func37, Try.ntmps37
    go_wp2_with fail
    refine HCa.out.mono ?_
    rintro e w1 ⟨rfl, hb1⟩
    go_wp2
    go_ret
    exact ⟨ret_bool HE.out.symm, hb1⟩
end Go.Proofs.Ytcfmndhjmlbcoaa
