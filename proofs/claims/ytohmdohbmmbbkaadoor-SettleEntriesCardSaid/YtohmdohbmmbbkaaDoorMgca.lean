/-
  The walk of the reference's comparison of entries, at equal ones.
  The walk of the law on entries, whatever a number's text is.
-/
import Derived.Test.YtohmdohbmmbbkaaDoorMgbz
import Derived.Test.YtohmdohbmmbbkaaDoorMgbs
import Derived.Deep.RegionHeld3
namespace Go.Proofs.YtohmdohbmmbbkaaDoor
open Go.RowKit

/-- Posts, two cells each. -/
def PoR (w : World) (b o : Nat) (c : ByteArray × Int) : Prop := ∀ j, j < 2 → w.cell? ⟨b, o + j, none⟩ = (poCells c)[j]?
theorem PoR.stays : Stays PoR := fun _ _ b _ _ hb hB h j hj => (hb.cell (p := ⟨b, _, none⟩) hB).trans (h j hj)
def PosAt (w : World) (v : Value) (l : List (ByteArray × Int)) : Prop := SliceAt 2 PoR w v l
theorem PosAt.below {w w' : World} {v : Value} {l : List (ByteArray × Int)} (h : PosAt w v l) (hb : Below w.heap.size w w') : PosAt w' v l := SliceAt.below PoR.stays h hb
theorem PosAt.own {w : World} {base : Nat} {e : TypeId} {v : Value} {l : List (ByteArray × Int)} (h : w.ownsRow base e 2 v l.length (l.flatMap poCells)) : PosAt w v l :=
  SliceAt.own poCells (fun _ => rfl) h fun _ _ _ _ h => h

set_option maxRecDepth 100000 in
set_option maxHeartbeats 6400000 in
theorem samee_calls (t : Int) (s : ByteArray) (va vb : Value) (L : List (ByteArray × Int)) (w : World) (ha : PosAt w va L) (hb0 : PosAt w vb L) :
    Calls Tryd.prog 14 #[.agg #[.int .i64 t, .string s, va], .agg #[.int .i64 t, .string s, vb]] w (BoolTo true w) := by
  have hA0 := ha
  have hB0 := hb0
  obtain ⟨aa, ca, rfl, hla, hma, -⟩ := ha
  obtain ⟨ab, cb, rfl, hlb, hmb, -⟩ := hb0
  have hma := hma.1
  have hmb := hmb.1
  unfold maxLen at hma hmb
  obtain ⟨W, hW⟩ : ∃ W, W = (w.alloc (Obj.cells #[Value.int .i64 t, .string s, .slice aa L.length ca] 40)).alloc (Obj.cells #[Value.int .i64 t, .string s, .slice ab L.length cb] 40) := ⟨_, rfl⟩
  have hbW : Below w.heap.size w W := by rw [hW]; go_grown
  have hzW : W.heap.size = w.heap.size + 2 := by rw [hW]; simp
  have r0 : W.heap[w.heap.size]? = some (Obj.cells #[Value.int .i64 t, .string s, .slice aa L.length ca] 40) := by
    rw [hW, Below.heap_alloc _ _ _ (by simp)]
    exact heap_alloc_new _ _
  have r1 : W.heap[w.heap.size + 1]? = some (Obj.cells #[Value.int .i64 t, .string s, .slice ab L.length cb] 40) := by
    rw [hW]
    simpa using heap_alloc_new (w.alloc (Obj.cells #[Value.int .i64 t, .string s, .slice aa L.length ca] 40)) _
  have hA := hA0.below hbW
  have hB := hB0.below hbW
  have y0 := cell_of_row W w.heap.size 0 _ _ _ r0
  have y1 := cell_of_row W w.heap.size 1 _ _ _ r0
  have y2 := cell_of_row W w.heap.size 2 _ _ _ r0
  have z0 := cell_of_row W (w.heap.size + 1) 0 _ _ _ r1
  have z1 := cell_of_row W (w.heap.size + 1) 1 _ _ _ r1
  have z2 := cell_of_row W (w.heap.size + 1) 2 _ _ _ r1
  have e0 : ((L.length : Int) != (L.length : Int)) = false := by simp
  have e1 : (s.toList != s.toList) = false := bne_eq_false_iff_eq.2 rfl
  have e2 : (s.toList == s.toList) = true := beq_self_eq_true _
  have HW := Lib.hid hW
  have HbW := Lib.hid hbW
  have HA := Lib.hid hA
  have HB := Lib.hid hB
  have HR := Lib.hid (And.intro r0 r1)
  have hl0 : w.heap.size < W.heap.size := by omega
  have hl1 : w.heap.size + 1 < W.heap.size := by omega
  clear hW hbW r0 r1 hA hB hA0 hB0 hzW
  go_enter Tryd.func14, Tryd.ntmps14
  go_upto_region 1 with (fail)
  rw [← HW.out]
  go_wp2_with fail
  go_loopg [5] L.length (fun g i wx => ∃ k : Nat, k + g = L.length ∧ i = .int .i64 k ∧ Below W.heap.size W wx)
  case atStart => exact ⟨0, by omega, rfl, Below.refl _ _⟩
  case round =>
    obtain ⟨k, hkg, rfl, hbr⟩ := hrel
    have r0 := (hbr.block _ hl0).trans HR.out.1
    have r1 := (hbr.block _ hl1).trans HR.out.2
    clear y0 y1 y2 z0 z1 z2
    have y2 := cell_of_row wr _ 2 _ _ _ r0
    have z2 := cell_of_row wr _ 2 _ _ _ r1
    have Hbr := Lib.hid hbr
    cases gk with
    | zero =>
      have hkz : ¬ ((k : Int) < (L.length : Int)) := by omega
      have HF := Lib.hid (HbW.out.trans (hbr.mono HbW.out.size))
      clear hkg hbr r0 r1
      go_wp2
      go_ret
      exact ⟨rfl, HF.out⟩
    | succ gk =>
      have hlt : k < L.length := by omega
      have hk1 : (k : Int) < (L.length : Int) := by omega
      have hk0 : (0 : Int) ≤ (k : Int) := Int.natCast_nonneg _
      obtain ⟨av2, cap2, q2, -, -, hx⟩ := HA.out
      cases q2
      obtain ⟨b1, o1, rfl, hB1, hx⟩ := hx (by rintro rfl; cases hlt)
      obtain ⟨av3, cap3, q3, -, -, hy⟩ := HB.out
      cases q3
      obtain ⟨b2, o2, rfl, hB2, hy⟩ := hy (by rintro rfl; cases hlt)
      have c := fun j (hj : j < 2) => (hbr.cell (p := ⟨b1, _, none⟩) hB1).trans (hx k hlt j hj)
      have d := fun j (hj : j < 2) => (hbr.cell (p := ⟨b2, _, none⟩) hB2).trans (hy k hlt j hj)
      clear hx hy
      generalize L[k] = y at *
      obtain ⟨ps, pn⟩ := y
      unfold poCells at c d
      dsimp only at c d
      have hs := hbr.size
      have p1 : (ps.toList == ps.toList) = true := beq_self_eq_true _
      have c0 : wr.cell? ⟨b1, o1 + k * 2, none⟩ = some (.string ps) := c 0 (by omega)
      have c1 := c 1 (by omega)
      have d0 : wr.cell? ⟨b2, o2 + k * 2, none⟩ = some (.string ps) := d 0 (by omega)
      have d1 := d 1 (by omega)
      clear c d r0 r1
      go_upto_region 6 with (fail)
      go_big_quiet (fail)
      go_wp2
      go_roundg gk
      case measure => omega
      case rel => exact ⟨k + 1, by omega, by first | rfl | simp, below_drewN2 Hbr.out _⟩
end Go.Proofs.YtohmdohbmmbbkaaDoor

namespace Go.Proofs.YtohmdohbmmbbkaaDoor
open Go.RowKit

def sumP (P : List (ByteArray × Int)) (k : Nat) : Int := ((P.take k).map (·.2)).sum
theorem sumP_snoc (P : List (ByteArray × Int)) (k : Nat) (h : k < P.length) : sumP P (k + 1) = sumP P k + P[k].2 := by
  unfold sumP
  rw [List.take_succ_eq_append_getElem h, List.map_append, List.sum_append]
  simp
theorem postsL_sums (s : ByteArray) (n : Int) (h1 : -1125899906842625 ≤ n) (h2 : n ≤ 1125899906842625) : (postsL s n).length ≤ 2 ∧ sumP (postsL s n) (postsL s n).length = 0 ∧ (∀ k, k ≤ (postsL s n).length → -1125899906842625 ≤ sumP (postsL s n) k ∧ sumP (postsL s n) k ≤ 1125899906842625) ∧
    ∀ k (h : k < (postsL s n).length), -1125899906842625 ≤ (postsL s n)[k].2 ∧ (postsL s n)[k].2 ≤ 1125899906842625 := by
  unfold postsL sumP
  by_cases h : n = 0
  · simp [h]
  · simp only [h, if_false, List.length_cons, List.length_nil]
    refine ⟨Nat.le_refl _, by simp; omega, fun k hk => ?_, fun k hk => ?_⟩
    · match k, hk with
      | 0, _ => simp
      | 1, _ => simp; omega
      | 2, _ => simp; omega
    · match k, hk with
      | 0, _ => exact ⟨h1, h2⟩
      | 1, _ => exact ⟨by show _ ≤ -n; omega, by show -n ≤ _; omega⟩

set_option maxRecDepth 100000 in
set_option maxHeartbeats 12800000 in
theorem entries51_law (pa mf mt net t : Int) (ca : Option Addr) (cn cc : Nat) (w : World) (hcn : cn ≤ maxLen) (hp0 : -9223372036854775808 ≤ pa) (hp1 : pa ≤ 9223372036854775807)
    (hI : ∀ w', Below w.heap.size w w' → Calls Tryd.prog 35 #[.int .i64 pa] w' fun e w'' => e = .returned (.string (numS pa)) ∧ Below w'.heap.size w' w'') :
    Calls Tryd.prog 4 #[.agg #[.int .i64 pa, .int .i64 mf, .int .i64 mt, .slice ca cn cc, .int .i64 net], .int .i64 t] w (BoolTo true w) := by
  obtain ⟨X, hX⟩ : ∃ X, X = w.alloc (Obj.cells #[Value.int .i64 pa, .int .i64 mf, .int .i64 mt, .slice ca cn cc, .int .i64 net] 32) := ⟨_, rfl⟩
  have hbX : Below w.heap.size w X := by rw [hX]; exact (Below.refl _ _).alloc (Nat.le_refl _) _
  have rX : X.heap[w.heap.size]? = some (Obj.cells #[Value.int .i64 pa, .int .i64 mf, .int .i64 mt, .slice ca cn cc, .int .i64 net] 32) := by rw [hX]; exact heap_alloc_new _ _
  have x4 := cell_of_row X _ 4 _ _ _ rX
  have hzX : w.heap.size < X.heap.size := (Array.getElem?_eq_some_iff.1 rX).1
  have HAl := Lib.hid (fun w' => alive51_calls w')
  have hlen : (numS pa).size ≤ 21 := by
    have h := Lib.itoa_length_le pa hp0 hp1
    show (Lib.itoa pa).toArray.size ≤ 21
    simpa using h
  obtain ⟨ab, hab⟩ : ∃ ab, ab = amB net := ⟨_, rfl⟩
  have HV := Lib.hid (ramvalid_calls net X)
  rw [← hab] at HV
  have Hab := Lib.hid hab
  have HX := Lib.hid hX
  have HbX := Lib.hid hbX
  have HrX := Lib.hid rX
  have HI := Lib.hid hI
  unfold maxLen at hcn
  clear hX hbX rX hab hI
  go_enter Tryd.func4, Tryd.ntmps4
  go_upto_region 1 with (fail)
  rw [← HX.out]
  go_wp2_with fail
  refine HV.out.mono ?_
  rintro e w1 ⟨rfl, hb1⟩
  have Hb1 := Lib.hid hb1
  have H1 := Lib.hid (HbX.out.trans (hb1.mono HbX.out.size))
  have r1 := (hb1.block _ hzX).trans HrX.out
  have Hr1 := Lib.hid r1
  have y3 := cell_of_row w1 _ 3 _ _ _ r1
  clear hb1 x4 r1
  cases ab with
  | false =>
    go_wp2_with fail
    refine (HAl.out w1).mono ?_
    rintro e w2 ⟨rfl, hb2⟩
    have H2 := Lib.hid (H1.out.trans (hb2.mono H1.out.size))
    clear hb2 y3
    go_wp2
    go_ret
    exact ⟨rfl, H2.out⟩
  | true =>
    by_cases hc : 20 < cn
    · have hcb : decide ((20 : Int) < (cn : Int)) = true := decide_eq_true (by omega)
      go_wp2_with fail
      refine (HAl.out w1).mono ?_
      rintro e w2 ⟨rfl, hb2⟩
      have H2 := Lib.hid (H1.out.trans (hb2.mono H1.out.size))
      clear hb2 y3
      go_wp2
      go_ret
      exact ⟨rfl, H2.out⟩
    · have hcb : decide ((20 : Int) < (cn : Int)) = false := decide_eq_false (by omega)
      have hnet : -1125899906842624 ≤ net ∧ net ≤ 1125899906842624 := by
        have h := Hab.out.symm
        unfold amB at h
        simpa using h
      obtain ⟨hn0, hn1⟩ := hnet
      have HE := Lib.hid (entry_calls pa mf mt net t ca cn cc (numS pa) w1 (by omega) hn0 hn1 (fun w' hb => HI.out w' (H1.out.trans (hb.mono H1.out.size))))
      have hrb := roundV_bd net hn0 hn1
      have HRE := Lib.hid (fun w' => rentry_calls pa mf mt net t ca cn cc (numS pa) w' (by omega) hn0 hn1 (fun w'' _ => rint_calls pa w'' hp0 hp1))
      have HSum := Lib.hid (postsL_sums (numS pa) (roundV net) hrb.1 hrb.2)
      generalize roundV net = n at *
      clear hc hrb
      go_upto_region 3 with (fail)
      clear y3
      have y0 := cell_of_row w1 _ 0 _ _ _ Hr1.out
      have y1 := cell_of_row w1 _ 1 _ _ _ Hr1.out
      have y2 := cell_of_row w1 _ 2 _ _ _ Hr1.out
      have y3 := cell_of_row w1 _ 3 _ _ _ Hr1.out
      have y4 := cell_of_row w1 _ 4 _ _ _ Hr1.out
      go_wp2_with fail
      refine HE.out.mono ?_
      rintro e w2 ⟨vp, rfl, hown, hb2⟩
      obtain ⟨P, hP⟩ : ∃ P, P = postsL (numS pa) n := ⟨_, rfl⟩
      rw [← hP] at hown
      rw [← hP] at HSum
      obtain ⟨oa, oc, rfl, -, -⟩ := own_shape hown
      obtain ⟨Y, hY⟩ : ∃ Y, Y = w2.alloc (Obj.cells #[Value.int .i64 t, .string sSett, .slice oa P.length oc] 40) := ⟨_, rfl⟩
      have hbY : Below w2.heap.size w2 Y := by rw [hY]; exact (Below.refl _ _).alloc (Nat.le_refl _) _
      have rY : Y.heap[w2.heap.size]? = some (Obj.cells #[Value.int .i64 t, .string sSett, .slice oa P.length oc] 40) := by rw [hY]; exact heap_alloc_new _ _
      have HpY := Lib.hid ((PosAt.own hown).below hbY)
      have hyl : w2.heap.size < Y.heap.size := (Array.getElem?_eq_some_iff.1 rY).1
      have h1Y := hb2.trans (hbY.mono hb2.size)
      have HrXY := Lib.hid ((h1Y.block _ (by have := Hb1.out.size; omega)).trans Hr1.out)
      have HwY := Lib.hid (H1.out.trans (h1Y.mono H1.out.size))
      have HY := Lib.hid hY
      have HrY := Lib.hid rY
      have HP := Lib.hid hP
      have HSn := Lib.hid (sumP_snoc P)
      have hxY : w.heap.size < Y.heap.size := by have := h1Y.size; have := Hb1.out.size; omega
      obtain ⟨hl2, hs0, hsb, heb⟩ := HSum.out
      have Hs0 := Lib.hid hs0
      have Hsb := Lib.hid hsb
      have Heb := Lib.hid heb
      clear hY hbY rY hown hb2 h1Y hP y0 y1 y2 y3 y4 hs0 hsb heb
      go_upto_region 4 with (fail)
      rw [← HY.out]
      go_wp2_with fail
      go_loopg [6, 7] P.length (fun g s i wx => ∃ k : Nat, k + g = P.length ∧ i = .int .i64 k ∧ s = .int .i64 (sumP P k) ∧ Below Y.heap.size Y wx)
      case atStart => exact ⟨0, by omega, rfl, rfl, Below.refl _ _⟩
      case round =>
        obtain ⟨k, hkg, rfl, rfl, hbr⟩ := hrel
        have Hbr := Lib.hid hbr
        have r2 := (hbr.block _ hyl).trans HrY.out
        have z2 := cell_of_row wr _ 2 _ _ _ r2
        cases gk with
        | zero =>
          have hkz : ¬ ((k : Int) < (P.length : Int)) := by omega
          have HEq := Lib.hid (show sumP P k = 0 by rw [show k = P.length by omega]; exact Hs0.out)
          rw [HEq.out]
          have HpR := Lib.hid (HpY.out.below hbr)
          have HwR := Lib.hid (HwY.out.trans (hbr.mono HwY.out.size))
          have hyr : w2.heap.size < wr.heap.size := Nat.lt_of_lt_of_le hyl hbr.size
          have hxr : w.heap.size < wr.heap.size := Nat.lt_of_lt_of_le hxY hbr.size
          have Hr2 := Lib.hid r2
          have Hrx := Lib.hid ((hbr.block _ hxY).trans HrXY.out)
          have hrr := Below.refl wr.heap.size wr
          have Mk := Lib.hid (show ∀ w' : World, Below wr.heap.size wr w' → Below wr.heap.size wr w' ∧ w'.cell? ⟨w2.heap.size, 0, none⟩ = some (.int .i64 t) ∧ w'.cell? ⟨w2.heap.size, 1, none⟩ = some (.string sSett) ∧ w'.cell? ⟨w2.heap.size, 2, none⟩ = some (.slice oa P.length oc) ∧ w'.cell? ⟨w.heap.size, 0, none⟩ = some (.int .i64 pa) ∧ w'.cell? ⟨w.heap.size, 1, none⟩ = some (.int .i64 mf) ∧ w'.cell? ⟨w.heap.size, 2, none⟩ = some (.int .i64 mt) ∧ w'.cell? ⟨w.heap.size, 3, none⟩ = some (.slice ca cn cc) ∧ w'.cell? ⟨w.heap.size, 4, none⟩ = some (.int .i64 net) from fun w' hw => by
            have q1 := (hw.block _ hyr).trans Hr2.out
            have q2 := (hw.block _ hxr).trans Hrx.out
            exact ⟨hw, cell_of_row w' _ 0 _ _ _ q1, cell_of_row w' _ 1 _ _ _ q1, cell_of_row w' _ 2 _ _ _ q1, cell_of_row w' _ 0 _ _ _ q2, cell_of_row w' _ 1 _ _ _ q2, cell_of_row w' _ 2 _ _ _ q2, cell_of_row w' _ 3 _ _ _ q2, cell_of_row w' _ 4 _ _ _ q2⟩)
          have hz0 : ((0 : Int) == 0) = true := rfl
          clear hkg r2 hbr
          go_upto_region 9 with (fail)
          clear z2
          go_region_held3 (fun w' : World => Below wr.heap.size wr w' ∧ w'.cell? ⟨w2.heap.size, 0, none⟩ = some (.int .i64 t) ∧ w'.cell? ⟨w2.heap.size, 1, none⟩ = some (.string sSett) ∧ w'.cell? ⟨w2.heap.size, 2, none⟩ = some (.slice oa P.length oc) ∧ w'.cell? ⟨w.heap.size, 0, none⟩ = some (.int .i64 pa) ∧ w'.cell? ⟨w.heap.size, 1, none⟩ = some (.int .i64 mf) ∧ w'.cell? ⟨w.heap.size, 2, none⟩ = some (.int .i64 mt) ∧ w'.cell? ⟨w.heap.size, 3, none⟩ = some (.slice ca cn cc) ∧ w'.cell? ⟨w.heap.size, 4, none⟩ = some (.int .i64 net))
            (first
              | with_reducible exact Mk.out _ (by assumption)
              | exact Mk.out _ (Below.drew hrr))
            (first
              | (go_at_call 15
                 refine (HRE.out _).mono ?_
                 rintro e w5 ⟨vq, rfl, hown5, hb5⟩
                 rw [← HP.out] at hown5
                 obtain ⟨qa, qc, rfl, -, -⟩ := own_shape hown5
                 have hY5 : Below wr.heap.size wr w5 := Below.trans (And.left (by assumption)) (hb5.mono (Below.size (And.left (by assumption))))
                 have Hp5 := Lib.hid (PosAt.own hown5)
                 clear hb5 hown5)
              | (go_at_call 14
                 refine (samee_calls t sSett _ _ P _ (HpR.out.below (And.left (by assumption))) Hp5.out).mono ?_
                 rintro e w6 ⟨rfl, hb6⟩
                 have hY6 : Below wr.heap.size wr w6 := Below.trans (And.left (by assumption)) (hb6.mono (Below.size (And.left (by assumption))))
                 clear hb6)
              | (go_at_call 8
                 refine (HAl.out _).mono ?_
                 rintro e w7 ⟨rfl, hb7⟩
                 have hY7 : Below wr.heap.size wr w7 := Below.trans (And.left (by assumption)) (hb7.mono (Below.size (And.left (by assumption))))
                 clear hb7))
          go_wp2
          go_ret
          exact ⟨rfl, HwR.out.trans (Below.mono hY7 HwR.out.size)⟩
        | succ gk =>
          have hlt : k < P.length := by omega
          have hk1 : (k : Int) < (P.length : Int) := by omega
          have hk0 : (0 : Int) ≤ (k : Int) := Int.natCast_nonneg _
          obtain ⟨av2, cap2, q2, -, -, hx⟩ := HpY.out
          cases q2
          obtain ⟨b1, o1, rfl, hB1, hx⟩ := hx (by rintro rfl; cases hlt)
          have c1 := (hbr.cell (p := ⟨b1, _, none⟩) hB1).trans (hx k hlt 1 (by omega))
          have HS1 := Lib.hid (HSn.out k hlt)
          obtain ⟨i1, i2⟩ := Hsb.out k (by omega)
          obtain ⟨j1, j2⟩ := Heb.out k hlt
          clear hx r2
          generalize P[k] = y at *
          obtain ⟨ps, pn⟩ := y
          unfold poCells at c1
          dsimp only at c1 j1 j2 HS1
          generalize sumP P k = sk at *
          have hw1 : IntKind.i64.wrap (sk + pn) = sk + pn := IntWalk.i64_in _ (by omega)
          go_wp2
          go_roundg gk
          case measure => omega
          case rel => exact ⟨k + 1, by omega, by first | rfl | simp, by rw [HS1.out], Hbr.out⟩
end Go.Proofs.YtohmdohbmmbbkaaDoor
