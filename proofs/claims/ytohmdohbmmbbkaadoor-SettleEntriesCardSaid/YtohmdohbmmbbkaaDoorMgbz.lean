/-
  The walks of the reference's Rounded and Int.
  The walk of the reference's Entry.
-/
import Derived.Test.YtohmdohbmmbbkaaDoorMgby
import Derived.Lib.ItoaLen
import Derived.Test.YtohmdohbmmbbkaaDoorMgbq
namespace Go.Proofs.YtohmdohbmmbbkaaDoor
open Go.RowKit

set_option maxRecDepth 100000 in
set_option maxHeartbeats 3200000 in
theorem rrounded_calls (a : Int) (w : World) (h1 : -1125899906842624 ≤ a) (h2 : a ≤ 1125899906842624) : Calls Tryd.prog 36 #[.int .i64 a] w fun e w' => e = .returned (.int .i64 (roundV a)) ∧ Below w.heap.size w w' := by
  obtain ⟨b1, b2, b3, b4⟩ := round_parts a h1 h2
  have HV := Lib.hid (show roundV a = if 5000 ≤ a.tmod 10000 then a.tdiv 10000 + 1 else if a.tmod 10000 ≤ -5000 then a.tdiv 10000 - 1 else a.tdiv 10000 from rfl)
  have HB := Lib.hid (Below.refl w.heap.size w)
  obtain ⟨q, hq⟩ : ∃ q, a.tdiv 10000 = q := ⟨_, rfl⟩
  obtain ⟨r, hr⟩ : ∃ r, a.tmod 10000 = r := ⟨_, rfl⟩
  rw [hq, hr] at HV
  rw [hq] at b1 b2
  rw [hr] at b3 b4
  have w1 : IntKind.i64.wrap (a.tdiv 10000) = q := by rw [hq]; exact IntWalk.i64_in _ (by omega)
  have w2 : IntKind.i64.wrap (a.tmod 10000) = r := by rw [hr]; exact IntWalk.i64_in _ (by omega)
  have w3 : IntKind.i64.wrap (q + 1) = q + 1 := IntWalk.i64_in _ (by omega)
  have w4 : IntKind.i64.wrap (q - 1) = q - 1 := IntWalk.i64_in _ (by omega)
  have w5 : IntKind.i64.wrap (2 * r) = 2 * r := IntWalk.i64_in _ (by omega)
  by_cases c1 : 5000 ≤ r
  · have d1 : decide (10000 ≤ 2 * r) = true := decide_eq_true (by omega)
    have HE := Lib.hid (HV.out.trans (if_pos c1))
    rw [HE.out]
    clear c1
    go_enter Tryd.func36, Tryd.ntmps36
    go_wp2
    go_ret
    exact ⟨rfl, HB.out⟩
  · have d1 : decide (10000 ≤ 2 * r) = false := decide_eq_false (by omega)
    have HE := Lib.hid (HV.out.trans (if_neg c1))
    by_cases c2 : r ≤ -5000
    · have d2 : decide (2 * r ≤ -10000) = true := decide_eq_true (by omega)
      have HE2 := Lib.hid (HE.out.trans (if_pos c2))
      rw [HE2.out]
      go_enter Tryd.func36, Tryd.ntmps36
      go_wp2
      go_ret
      exact ⟨rfl, HB.out⟩
    · have d2 : decide (2 * r ≤ -10000) = false := decide_eq_false (by omega)
      have HE2 := Lib.hid (HE.out.trans (if_neg c2))
      rw [HE2.out]
      go_enter Tryd.func36, Tryd.ntmps36
      go_wp2
      go_ret
      exact ⟨rfl, HB.out⟩

theorem cat2 (l m : List UInt8) : (⟨l.toArray⟩ : ByteArray) ++ (⟨m.toArray⟩ : ByteArray) = ⟨(l ++ m).toArray⟩ := ByteArray.ext (by simp [ByteArray.data_append])
theorem dec_len (u : Nat) (h : u ≤ 9223372036854775807) : (Lib.decDigits u).length ≤ 21 := by
  have h := Lib.itoa_length_le (n := (u : Int)) (by omega) (by omega)
  unfold Lib.itoa at h
  rwa [if_neg (by omega), Int.toNat_natCast] at h
/-- A number's text. -/
def numS (n : Int) : ByteArray := ⟨(Lib.itoa n).toArray⟩

set_option maxRecDepth 100000 in
set_option maxHeartbeats 3200000 in
theorem rint_calls (n : Int) (w : World) (h0 : -9223372036854775808 ≤ n) (h1 : n ≤ 9223372036854775807) : Calls Tryd.prog 37 #[.int .i64 n] w fun e w' => e = .returned (.string (numS n)) ∧ Below w.heap.size w w' := by
  have HV := Lib.hid (show numS n = ⟨(if n < 0 then 45 :: Lib.decDigits n.natAbs else Lib.decDigits n.toNat).toArray⟩ from rfl)
  by_cases c1 : 0 ≤ n
  · have HE := Lib.hid (show numS n = ⟨(Lib.decDigits n.toNat).toArray⟩ by rw [HV.out, if_neg (by omega)])
    have HN := Lib.hid (number_calls n w c1 h1)
    rw [HE.out]
    go_enter Tryd.func37, Tryd.ntmps37
    go_wp2_with fail
    refine HN.out.mono ?_
    rintro e w1 ⟨rfl, hb1⟩
    go_wp2
    go_ret
    exact ⟨rfl, hb1⟩
  · by_cases c2 : -10 < n
    · have hw : IntKind.i64.wrap (-n) = -n := IntWalk.i64_in _ (by omega)
      have hN := number_calls (-n) w (by omega) (by omega)
      have HE := Lib.hid (show numS n = ⟨(45 :: Lib.decDigits (-n).toNat).toArray⟩ by rw [HV.out, if_pos (by omega), show n.natAbs = (-n).toNat by omega])
      have hlen := dec_len (-n).toNat (by omega)
      generalize Lib.decDigits (-n).toNat = dg at *
      have hct := cat1 45 dg
      have HN := Lib.hid hN
      have hl1 : ¬ 9223372036854775807 < 1 + dg.length := by omega
      have hl2 : 1 + dg.length ≤ 9223372036854775807 := by omega
      rw [HE.out]
      clear hN hlen
      go_enter Tryd.func37, Tryd.ntmps37
      go_wp2_with fail
      refine HN.out.mono ?_
      rintro e w1 ⟨rfl, hb1⟩
      have Hb1 := Lib.hid hb1
      clear hb1
      go_wp2
      go_ret
      exact ⟨by first | rfl | exact congrArg (fun x => Ending.returned (.string x)) hct, Hb1.out⟩
    · obtain ⟨q, hq⟩ : ∃ q, n.tdiv 10 = q := ⟨_, rfl⟩
      obtain ⟨r, hr⟩ : ∃ r, n.tmod 10 = r := ⟨_, rfl⟩
      have hsum := Int.mul_tdiv_add_tmod n 10
      have hr0 : -10 < r ∧ r ≤ 0 := by
        have h3 : 0 ≤ -n := by omega
        have a1 := Int.tmod_nonneg 10 h3
        have a2 := Int.tmod_lt_of_pos (-n) (show (0 : Int) < 10 by decide)
        rw [Int.neg_tmod] at a1 a2
        omega
      rw [hq, hr] at hsum
      have w1 : IntKind.i64.wrap (n.tdiv 10) = q := by rw [hq]; exact IntWalk.i64_in _ (by omega)
      have w2 : IntKind.i64.wrap (n.tmod 10) = r := by rw [hr]; exact IntWalk.i64_in _ (by omega)
      have w3 : IntKind.i64.wrap (-q) = -q := IntWalk.i64_in _ (by omega)
      have w4 : IntKind.i64.wrap (-r) = -r := IntWalk.i64_in _ (by omega)
      have hN1 := number_calls (-q) w (by omega) (by omega)
      have hN2 := fun w' => number_calls (-r) w' (by omega) (by omega)
      have HE := Lib.hid (show numS n = ⟨((45 :: Lib.decDigits (-q).toNat) ++ Lib.decDigits (-r).toNat).toArray⟩ by
        rw [HV.out, if_pos (by omega), Lib.decDigits, dif_neg (by omega), show n.natAbs / 10 = (-q).toNat by omega, show n.natAbs % 10 = (-r).toNat by omega]
        have : Lib.decDigits (-r).toNat = [UInt8.ofNat (48 + (-r).toNat)] := by rw [Lib.decDigits, dif_pos (by omega)]
        rw [this]
        rfl)
      have hlen1 := dec_len (-q).toNat (by omega)
      have hlen2 := dec_len (-r).toNat (by omega)
      generalize Lib.decDigits (-q).toNat = dq at *
      generalize Lib.decDigits (-r).toNat = dr at *
      have hct := cat1 45 dq
      have Hct2 := Lib.hid (cat2 (45 :: dq) dr)
      have HN1 := Lib.hid hN1
      have HN2 := Lib.hid hN2
      have hl1 : ¬ 9223372036854775807 < 1 + dq.length := by omega
      have hl2 : 1 + dq.length ≤ 9223372036854775807 := by omega
      have hl3 : ¬ 9223372036854775807 < dq.length + 1 + dr.length := by omega
      have hl4 : dq.length + 1 + dr.length ≤ 9223372036854775807 := by omega
      rw [HE.out]
      have b1 : -922337203685477581 ≤ q := by omega
      have b2 : q ≤ -1 := by omega
      obtain ⟨b3, b4⟩ := hr0
      have w5 : wrap64 (-q) = -q := by unfold wrap64; omega
      have w6 : wrap64 (-r) = -r := by unfold wrap64; omega
      clear hN1 hN2 hlen1 hlen2 hsum w1 w2
      go_enter Tryd.func37, Tryd.ntmps37
      go_wp2_with fail
      refine HN1.out.mono ?_
      rintro e w1 ⟨rfl, hb1⟩
      have Hb1 := Lib.hid hb1
      clear hb1
      go_wp2_with fail
      refine (HN2.out w1).mono ?_
      rintro e w2 ⟨rfl, hb2⟩
      have Hb2 := Lib.hid (Hb1.out.trans (hb2.mono Hb1.out.size))
      clear hb2
      go_wp2
      go_ret
      exact ⟨by first | rfl | exact congrArg (fun x => Ending.returned (.string x)) Hct2.out, Hb2.out⟩
end Go.Proofs.YtohmdohbmmbbkaaDoor

namespace Go.Proofs.YtohmdohbmmbbkaaDoor
open Go.RowKit

theorem ret_rent {R : Ending → World → Prop} {a : Act} {w : World} {g : Nat} {v0 v1 v2 : Value} (hd : a.defers = []) (h4 : a.tmps.getD 4 undef = .pointer (some ⟨g, 0, none⟩))
    (c0 : w.cell? ⟨g, 0, none⟩ = some v0) (c1 : w.cell? ⟨g, 1, none⟩ = some v1) (c2 : w.cell? ⟨g, 2, none⟩ = some v2) (hR : R (.returned (.agg #[v0, v1, v2])) w) : bodyPost Tryd.prog Tryd.f15 R Exit.ret a w := by
  refine ⟨hd, _, ?_, hR⟩
  rw [results_cell1 rfl, h4]
  go_simp
set_option maxRecDepth 100000 in
set_option maxHeartbeats 6400000 in
theorem rentry_calls (pa mf mt net t : Int) (ca : Option Addr) (cn cc : Nat) (s : ByteArray) (w : World) (hs : s.size ≤ 1000) (h1 : -1125899906842624 ≤ net) (h2 : net ≤ 1125899906842624)
    (hI : ∀ w', Below w.heap.size w w' → Calls Tryd.prog 37 #[.int .i64 pa] w' fun e w'' => e = .returned (.string s) ∧ Below w'.heap.size w' w'') :
    Calls Tryd.prog 15 #[.agg #[.int .i64 pa, .int .i64 mf, .int .i64 mt, .slice ca cn cc, .int .i64 net], .int .i64 t] w (EntTo s (roundV net) t w) := by
  obtain ⟨Z, hZ⟩ : ∃ Z, Z = (w.alloc (Obj.cells #[Value.int .i64 pa, .int .i64 mf, .int .i64 mt, .slice ca cn cc, .int .i64 net] 32)).alloc (Obj.cells #[Value.int .i64 0, .string ⟨#[]⟩, .slice none 0 0] 40) := ⟨_, rfl⟩
  obtain ⟨W, hW⟩ : ∃ W, W = Z.alloc (Obj.cells #[Value.int .i64 t, .string sSett, .slice none 0 0] 40) := ⟨_, rfl⟩
  have hzZ : Z.heap.size = w.heap.size + 2 := by rw [hZ]; simp
  have hzW : W.heap.size = w.heap.size + 3 := by rw [hW]; simp [hzZ]
  have hbZ : Below w.heap.size w Z := by rw [hZ]; go_grown
  have hbW : Below Z.heap.size Z W := by rw [hW]; exact (Below.refl _ _).alloc (Nat.le_refl _) _
  have r0 : Z.heap[w.heap.size]? = some (Obj.cells #[Value.int .i64 pa, .int .i64 mf, .int .i64 mt, .slice ca cn cc, .int .i64 net] 32) := by
    rw [hZ, Below.heap_alloc _ _ _ (by simp)]
    exact heap_alloc_new _ _
  have r1 : Z.heap[w.heap.size + 1]? = some (Obj.cells #[Value.int .i64 0, .string ⟨#[]⟩, .slice none 0 0] 40) := by
    rw [hZ]
    simpa using heap_alloc_new (w.alloc (Obj.cells #[Value.int .i64 pa, .int .i64 mf, .int .i64 mt, .slice ca cn cc, .int .i64 net] 32)) (Obj.cells #[Value.int .i64 0, .string ⟨#[]⟩, .slice none 0 0] 40)
  have r2 : W.heap[Z.heap.size]? = some (Obj.cells #[Value.int .i64 t, .string sSett, .slice none 0 0] 40) := by rw [hW]; exact heap_alloc_new _ _
  have HM := Lib.hid (show ∀ w', Below W.heap.size W w' → w'.heap[w.heap.size]? = some (Obj.cells #[Value.int .i64 pa, .int .i64 mf, .int .i64 mt, .slice ca cn cc, .int .i64 net] 32) ∧ w'.heap[w.heap.size + 1]? = some (Obj.cells #[Value.int .i64 0, .string ⟨#[]⟩, .slice none 0 0] 40) ∧ w'.heap[Z.heap.size]? = some (Obj.cells #[Value.int .i64 t, .string sSett, .slice none 0 0] 40) from fun w' hb =>
    ⟨(hb.block _ (by omega)).trans ((hbW.block _ (by omega)).trans r0), (hb.block _ (by omega)).trans ((hbW.block _ (by omega)).trans r1), (hb.block _ (by omega)).trans r2⟩)
  have hwW : Below w.heap.size w W := hbZ.trans (hbW.mono hbZ.size)
  have HwW := Lib.hid hwW
  have HZ := Lib.hid hZ
  have HW := Lib.hid hW
  have HzZ := Lib.hid hzZ
  have HzW := Lib.hid hzW
  have HR := Lib.hid (rrounded_calls net W h1 h2)
  have hrb := roundV_bd net h1 h2
  have hs63 : ¬ 9223372036854775807 < 8 + s.size := by omega
  have hs64 : 8 + s.size ≤ 9223372036854775807 := by omega
  generalize roundV net = n at *
  have HI := Lib.hid hI
  obtain ⟨m0, m1, m2⟩ := HM.out W (Below.refl _ _)
  have y4 := cell_of_row W _ 4 _ _ _ m0
  clear hZ hW hbZ hbW r0 r1 r2 hwW hzZ hzW m0 m1 m2 hI
  go_enter Tryd.func15, Tryd.ntmps15
  go_upto_region 1 with (fail)
  rw [← HZ.out]
  go_upto_region 2 with (fail)
  rw [← HW.out]
  go_wp2_with fail
  refine HR.out.mono ?_
  rintro e w2 ⟨rfl, hb2⟩
  have Hb2 := Lib.hid hb2
  have Hw2 := Lib.hid (HwW.out.trans (hb2.mono HwW.out.size))
  clear hb2 y4
  obtain ⟨m0, m1, m2⟩ := HM.out w2 Hb2.out
  by_cases hn : n = 0
  · subst hn
    have HPo := Lib.hid (show postsL s 0 = [] from if_pos rfl)
    obtain ⟨s0, s1, s2, f0, f1, f2⟩ := row3_cells m1
    obtain ⟨q0, q1, q2, -⟩ := row3_cells m2
    have hz2 := Hb2.out.size
    have Hm1 := Lib.hid m1
    clear m0 m1 m2
    go_wp2
    have hr := set_row3 Hm1.out (.int .i64 t) (.string sSett) (.slice none 0 0)
    obtain ⟨t0, t1, t2, -⟩ := row3_cells hr
    refine ret_rent (g := w.heap.size + 1) rfl rfl t0 t1 t2 ⟨_, rfl, ?_, below_set3 Hw2.out (by omega) _ _ _⟩
    rw [HPo.out]
    exact World.ownsRow_nil _ _ _ _
  · have hnb : (n != 0) = true := bne_iff_ne.2 hn
    have HPo := Lib.hid (show postsL s n = [(sPart ++ s, n), (sReve, -n)] from if_neg hn)
    have y0 := cell_of_row w2 _ 0 _ _ _ m0
    have HIa := Lib.hid (HI.out w2 Hw2.out)
    have hwn : IntKind.i64.wrap (-n) = -n := IntWalk.i64_in _ (by omega)
    clear hn m0 m1 m2
    go_wp2_with fail
    refine HIa.out.mono ?_
    rintro e w3 ⟨rfl, hb3⟩
    have Hb3 := Lib.hid (Hb2.out.trans (hb3.mono Hb2.out.size))
    have Hw3 := Lib.hid (Hw2.out.trans (hb3.mono Hw2.out.size))
    clear y0 hb3
    obtain ⟨m0, m1, m2⟩ := HM.out w3 Hb3.out
    obtain ⟨s0, s1, s2, f0, f1, f2⟩ := row3_cells m1
    obtain ⟨q0, q1, q2, g0, g1, g2⟩ := row3_cells m2
    have Hm1 := Lib.hid m1
    have Hm2 := Lib.hid m2
    clear m0 m1 m2
    have hZ3 : Z.heap.size < w3.heap.size := (Array.getElem?_eq_some_iff.1 Hm2.out).1
    have hZ3n : ¬ Z.heap.size = w3.heap.size := by omega
    have hz3 := Hw3.out.size
    have hw1 : w.heap.size + 1 < w3.heap.size := (Array.getElem?_eq_some_iff.1 Hm1.out).1
    have hcs : (w3.setCell ⟨Z.heap.size, 2, none⟩ (.slice (some ⟨w3.heap.size, 0, none⟩) 2 2)).heap.size = w3.heap.size := by simp [World.setCell]
    obtain ⟨X, hX⟩ : ∃ X, X = (w3.setCell ⟨Z.heap.size, 2, none⟩ (.slice (some ⟨w3.heap.size, 0, none⟩) 2 2)).alloc (Obj.cells #[Value.string (sPart ++ s), .int .i64 n, .string sReve, .int .i64 (-n)] 43) := ⟨_, rfl⟩
    have hbX : Below w.heap.size w X := by rw [hX]; exact (Hw3.out.setCell (by show w.heap.size ≤ Z.heap.size; have := HzZ.out; omega) _).alloc (by rw [hcs]; exact hz3) _
    have rX1 : X.heap[w.heap.size + 1]? = some (Obj.cells #[Value.int .i64 0, .string ⟨#[]⟩, .slice none 0 0] 40) := by
      rw [hX, Below.heap_alloc _ _ _ (by rw [hcs]; exact hw1), Below.heap_setCell _ _ _ _ (by show w.heap.size + 1 ≠ Z.heap.size; have := HzZ.out; omega)]
      exact Hm1.out
    have rX2 : X.heap[Z.heap.size]? = some (Obj.cells #[Value.int .i64 t, .string sSett, .slice (some ⟨w3.heap.size, 0, none⟩) 2 2] 40) := by
      rw [hX, Below.heap_alloc _ _ _ (by rw [hcs]; exact hZ3)]
      exact heap_setCell_same _ _ 2 _ _ _ Hm2.out
    have HoX := Lib.hid (show X.ownsRow w.heap.size 43 2 (.slice (some ⟨w3.heap.size, 0, none⟩) 2 2) 2 [.string (sPart ++ s), .int .i64 n, .string sReve, .int .i64 (-n)] from by
      rw [hX]
      refine ⟨rfl, Or.inr ⟨w3.heap.size, 2, #[.string (sPart ++ s), .int .i64 n, .string sReve, .int .i64 (-n)], rfl, hz3, ?_, Nat.le_refl _, by decide, rfl, rfl⟩⟩
      have h := heap_alloc_new (w3.setCell ⟨Z.heap.size, 2, none⟩ (.slice (some ⟨w3.heap.size, 0, none⟩) 2 2)) (Obj.cells #[Value.string (sPart ++ s), .int .i64 n, .string sReve, .int .i64 (-n)] 43)
      rwa [hcs] at h)
    have HX := Lib.hid hX
    have HbX := Lib.hid hbX
    have HrX1 := Lib.hid rX1
    clear hX hbX hw1 hcs
    go_upto_region 5 with (fail)
    rw [← HX.out]
    clear s0 s1 s2 f0 f1 f2 q0 q1 q2 g0 g1 g2
    obtain ⟨s0, s1, s2, f0, f1, f2⟩ := row3_cells rX1
    obtain ⟨q0, q1, q2, g0, g1, g2⟩ := row3_cells rX2
    clear rX1 rX2
    go_wp2
    have hr := set_row3 HrX1.out (.int .i64 t) (.string sSett) (.slice (some ⟨w3.heap.size, 0, none⟩) 2 2)
    obtain ⟨t0, t1, t2, -⟩ := row3_cells hr
    refine ret_rent (g := w.heap.size + 1) rfl rfl t0 t1 t2 ⟨_, rfl, ?_, below_set3 HbX.out (by omega) _ _ _⟩
    rw [HPo.out]
    have hg : w3.heap.size ≠ w.heap.size + 1 := by have := HzZ.out; omega
    exact ownsRow_set4 (ownsRow_set4 (ownsRow_set4 HoX.out ⟨w.heap.size + 1, 0, none⟩ _ (fun g e => by cases e; exact hg)) ⟨w.heap.size + 1, 1, none⟩ _ (fun g e => by cases e; exact hg)) ⟨w.heap.size + 1, 2, none⟩ _ (fun g e => by cases e; exact hg)
end Go.Proofs.YtohmdohbmmbbkaaDoor
