/-
  The walk of the reference's segments: they are those of the program.
-/
import Derived.Test.YtnekgkmlodeckaaMgbl
import Derived.Test.YtnekgkmlodeckaaMgbn
import Derived.Laws.OwnMore
import Derived.Deep.AppendLies
namespace Go.Proofs.Ytnekgkmlodeckaa
open Go.RowKit

set_option maxRecDepth 100000 in
set_option maxHeartbeats 12800000 in
theorem rscut_calls (nm : ByteArray) (fr : Int) (sl : Bool) (zv bv rv dv vh : Value) (bs : List Bn) (hol : List Int) (u : Us) (free : Int) (w : World) (hz : IsSl zv) (hr : IsSl rv) (hd : IsSl dv) (hbs : BnsAt w bv bs) (hh : IcsAt w vh hol) :
    Calls Try.prog 23 #[.agg #[.string nm, .int .i64 fr, .bool sl, zv, bv, rv, dv], vh, .agg u.row, .int .i64 free] w (SegsTo bs hol sl u free w) := by
  obtain ⟨W, hW⟩ : ∃ W, W = (w.alloc (Obj.cells #[Value.string nm, .int .i64 fr, .bool sl, zv, bv, rv, dv] 27)).alloc (Obj.cells u.row 40) := ⟨_, rfl⟩
  have hw0 : Below w.heap.size w W := by rw [hW]; go_grown
  have hzW : W.heap.size = w.heap.size + 2 := by rw [hW]; simp
  have r0 : W.heap[w.heap.size]? = some (Obj.cells #[Value.string nm, .int .i64 fr, .bool sl, zv, bv, rv, dv] 27) := by
    rw [hW, Below.heap_alloc _ _ _ (by simp)]
    exact heap_alloc_new _ _
  have r1 : W.heap[w.heap.size + 1]? = some (Obj.cells u.row 40) := by
    rw [hW]
    simpa using heap_alloc_new (w.alloc (Obj.cells #[Value.string nm, .int .i64 fr, .bool sl, zv, bv, rv, dv] 27)) (Obj.cells u.row 40)
  have HM := Lib.hid (show ∀ w', Below W.heap.size W w' → w'.heap[w.heap.size]? = some (Obj.cells #[Value.string nm, .int .i64 fr, .bool sl, zv, bv, rv, dv] 27) ∧ w'.heap[w.heap.size + 1]? = some (Obj.cells u.row 40) from fun w' hb => ⟨(hb.block _ (by omega)).trans r0, (hb.block _ (by omega)).trans r1⟩)
  have HW := Lib.hid hW
  have Hw0 := Lib.hid hw0
  have HP := Lib.hid (rproper_calls u free W)
  have HC := Lib.hid (fun w1 (hb : Below W.heap.size W w1) => rcheck_calls bv bs w1 ((hbs.below hw0).below hb))
  have HA := Lib.hid (fun t w1 (hb : Below W.heap.size W w1) => rAt_calls bv vh bs hol t w1 ((hbs.below hw0).below hb) ((hh.below hw0).below hb))
  have HK := Lib.hid (fun pf pt w1 (hb : Below W.heap.size W w1) => rpcut_calls bv vh bs hol pf pt w1 ((hbs.below hw0).below hb) ((hh.below hw0).below hb))
  have HN := Lib.hid (fun w' h (hb : Below w.heap.size w w') => (segs_none h hb : SegsTo bs hol sl u free w _ w'))
  have HS := Lib.hid (show ∀ L, SegR bs hol sl u free L ↔ (if properP u free = true ∧ checkB bs = 0 then (if u.kd = 1 ∧ sl = true then ∃ P, CutR bs hol (beginU u free) (u.st + u.un) P ∧ L = P.map segOf else L = [(atB bs hol (beginU u free), beginU u free, u.un - free, 0)]) else L = []) from fun L => Iff.rfl)
  have HPb := Lib.hid (fun h => proper_bounds (u := u) (free := free) h)
  obtain ⟨za, zl, zc, rfl⟩ := hz
  obtain ⟨ra, rl, rc, rfl⟩ := hr
  obtain ⟨da, dl, dc, rfl⟩ := hd
  obtain ⟨ba, bc, rfl, -, -, -⟩ := hbs
  obtain ⟨ha, hc, rfl, -, -, -⟩ := hh
  have HBe := Lib.hid (show beginU u free = if u.kd = 1 then u.st + free else u.st from rfl)
  unfold Us.row at *
  obtain ⟨id, kd, ac, sb, ua, ub, st, un, tr, ib, so, se⟩ := u
  dsimp only at HM HW HP HS HPb HBe ⊢
  obtain ⟨m0, m1⟩ := HM.out W (Below.refl _ _)
  have y := fun j => cell_of_row W (w.heap.size + 1) j _ _ _ m1
  have u0 := y 0
  have u1 := y 1
  have u2 := y 2
  have u3 := y 3
  have u4 := y 4
  have u5 := y 5
  have u6 := y 6
  have u7 := y 7
  have u8 := y 8
  have u9 := y 9
  have u10 := y 10
  have u11 := y 11
  have t4 := cell_of_row W _ 4 _ _ _ m0
  generalize hpp : properP ⟨id, kd, ac, sb, ua, ub, st, un, tr, ib, so, se⟩ free = pp at *
  generalize checkB bs = c at *
  clear hW hw0 r0 r1 y m0 m1 hpp
  go_enter Try.func23, Try.ntmps23
  go_upto_region 1 with (fail)
  rw [← HW.out]
  go_wp2_with fail
  refine HP.out.mono ?_
  rintro e w1 ⟨rfl, hb1⟩
  clear u0 u1 u2 u3 u4 u5 u6 u7 u8 u9 u10 u11 t4
  obtain ⟨m0, m1⟩ := HM.out w1 hb1
  have t4 := cell_of_row w1 _ 4 _ _ _ m0
  cases pp with
  | false =>
    have HN1 := Lib.hid (HN.out w1 (by simp) (Hw0.out.trans (hb1.mono Hw0.out.size)))
    go_wp2
    go_ret
    exact HN1.out
  | true =>
    obtain ⟨b1, b2, b3, b4, b5, b6⟩ := HPb.out (by first | rfl | trivial)
    have HC1 := Lib.hid (HC.out w1 hb1)
    go_wp2_with fail
    refine HC1.out.mono ?_
    rintro e w2 ⟨rfl, hb2⟩
    have hb2 := hb1.trans (hb2.mono hb1.size)
    have hb02 := Hw0.out.trans (hb2.mono Hw0.out.size)
    clear t4 m0 m1
    by_cases hc0 : c = 0
    · subst hc0
      obtain ⟨m0, m1⟩ := HM.out w2 hb2
      have t2 := cell_of_row w2 _ 2 _ _ _ m0
      have t4 := cell_of_row w2 _ 4 _ _ _ m0
      have u1 := cell_of_row w2 _ 1 _ _ _ m1
      have u6 := cell_of_row w2 _ 6 _ _ _ m1
      have u7 := cell_of_row w2 _ 7 _ _ _ m1
      have hwu : IntKind.i64.wrap (un - free) = un - free := IntWalk.i64_in _ (by omega)
      by_cases hk : kd = 1
      · have hkb : (kd == 1) = true := beq_iff_eq.2 hk
        have hkn : (kd != 1) = false := bne_eq_false_iff_eq.2 hk
        obtain ⟨b7, b8⟩ := b6 hk
        have hws : IntKind.i64.wrap (st + free) = st + free := IntWalk.i64_in _ (by omega)
        have hwe : IntKind.i64.wrap (st + un) = st + un := IntWalk.i64_in _ (by omega)
        cases sl with
        | true =>
          have HKt := Lib.hid (HK.out (st + free) (st + un) w2 hb2)
          have HSl := Lib.hid (fun P (hP : CutR bs hol (st + free) (st + un) P) => (HS.out (P.map segOf)).2 (by rw [if_pos ⟨by first | rfl | trivial, by first | rfl | trivial⟩, if_pos ⟨hk, rfl⟩, HBe.out, if_pos hk]; exact ⟨P, hP, rfl⟩))
          have Hb02 := Lib.hid hb02
          clear m0 m1 hb2
          go_wp2_with fail
          refine HKt.out.mono ?_
          rintro e w5 ⟨P, v5, rfl, hP, hR, hb5⟩
          have HSP := Lib.hid (HSl.out P hR)
          obtain ⟨hPl, hPb⟩ := cutR_bounds hR
          have HPb2 := Lib.hid hPb
          have HPc := Lib.hid hP
          have hb5 := hb02.trans (hb5.mono hb02.size)
          obtain ⟨pa, pc, rfl, hpl, hpm, -⟩ := hP
          have hpm := hpm.1
          unfold maxLen at hpm
          clear t2 t4 u1 u6 u7 hb02 hPb hR
          go_wp2_with fail
          go_loopw [11, 12] (fun vo i wr => ∃ k : Nat, k ≤ P.length ∧ i = .int .i64 k ∧ wr.ownsRow w5.heap.size 52 4 vo k (((P.map segOf).take k).flatMap sgCells) ∧ Below w5.heap.size w5 wr) (fun _ i _ => P.length - (intOf i).toNat)
          case atStart => exact ⟨0, Nat.zero_le _, rfl, ⟨rfl, Or.inl ⟨rfl, rfl⟩⟩, Below.refl _ _⟩
          case round =>
            obtain ⟨k, hkP, rfl, hown, hbr⟩ := hrel
            obtain ⟨ao, co, rfl, hco, hcm⟩ := own_shape hown
            have Hown := Lib.hid hown
            have Hbr := Lib.hid hbr
            clear hown
            by_cases hlt : k < P.length
            · have HTk := Lib.hid (show (P.map segOf).take (k + 1) = (P.map segOf).take k ++ [segOf P[k]] by rw [List.take_succ_eq_append_getElem (by simpa using hlt)]; simp)
              obtain ⟨av2, cap2, e2, -, -, hx⟩ := HPc.out.below hbr
              cases e2
              obtain ⟨b, o, rfl, hB, hx⟩ := hx (by rintro rfl; cases hlt)
              obtain ⟨c0, c1, c2⟩ := hx k hlt
              obtain ⟨p1, p2, p3⟩ := HPb2.out k hlt
              have hk0 : (0 : Int) ≤ (k : Int) := Int.natCast_nonneg _
              have hk1 : (k : Int) < (P.length : Int) := by omega
              clear hx
              generalize P[k] = y at *
              obtain ⟨pn, pf, pt⟩ := y
              dsimp only at c0 c1 c2 p1 p2 p3
              have hwd : IntKind.i64.wrap (pt - pf) = pt - pf := IntWalk.i64_in _ (by omega)
              have Hbl := Lib.hid (fun g hg => ownsRow_block Hown.out g hg)
              obtain ⟨i0, hi, hz0, hz1, hz2⟩ := info_parts Try.segInfo
              have Hi := Lib.hid (And.intro hi (And.intro hz0 (And.intro hz1 hz2)))
              have hr5 := Hbr.out
              have hB5 : b < w5.heap.size := by
                obtain ⟨av3, cap3, e3, -, -, hx3⟩ := HPc.out
                cases e3
                obtain ⟨b3, o3, e4, hB3, -⟩ := hx3 (by rintro rfl; cases hlt)
                cases e4
                exact hB3
              have d0 := (hr5.cell (p := ⟨b, _, none⟩) hB5).symm.trans c0
              have d1 := (hr5.cell (p := ⟨b, _, none⟩) hB5).symm.trans c1
              have d2 := (hr5.cell (p := ⟨b, _, none⟩) hB5).symm.trans c2
              have Mk := Lib.hid (show ∀ w' : World, Below w5.heap.size w5 w' → (fun w' => Below w5.heap.size w5 w' ∧ w'.cell? ⟨b, o + k * 3, none⟩ = some (.string pn) ∧ w'.cell? ⟨b, o + k * 3 + 1, none⟩ = some (.int .i64 pf) ∧ w'.cell? ⟨b, o + k * 3 + 2, none⟩ = some (.int .i64 pt)) w' from fun w' h => ⟨h, (h.cell (p := ⟨b, _, none⟩) hB5).trans d0, (h.cell (p := ⟨b, _, none⟩) hB5).trans d1, (h.cell (p := ⟨b, _, none⟩) hB5).trans d2⟩)
              have HTk2 := Lib.hid (show ((P.map segOf).take (k + 1)).flatMap sgCells = ((P.map segOf).take k).flatMap sgCells ++ [Value.string pn, .int .i64 pf, .int .i64 (pt - pf), .int .i64 0] by rw [HTk.out, List.flatMap_append]; rfl)
              have hk2 : IntKind.i64.wrap ((k : Int) + 1) = (k : Int) + 1 := IntWalk.i64_in _ (by omega)
              clear hi hz0 hz1 hz2 HTk d0 d1 d2
              go_upto_region 13 with (fail)
              go_region_held3 (fun w' : World => Below w5.heap.size w5 w' ∧ w'.cell? ⟨b, o + k * 3, none⟩ = some (.string pn) ∧ w'.cell? ⟨b, o + k * 3 + 1, none⟩ = some (.int .i64 pf) ∧ w'.cell? ⟨b, o + k * 3 + 2, none⟩ = some (.int .i64 pt))
                (first
                  | with_reducible exact Mk.out _ (by assumption)
                  | exact Mk.out _ (Below.drew hr5)
                  | exact Mk.out _ (Below.alloc (Below.drew hr5) hr5.size _)
                  | exact Mk.out _ (Below.drew (Below.alloc hr5 hr5.size _)))
                ((refine step_append_lies _ (by rfl) _ _ _ (by rfl) w5.heap.size 52 i0 _ 4 40 Try.underlying45 Hi.out.1 Hi.out.2.1 Hi.out.2.2.1 Hi.out.2.2.2 rfl (by omega) (Value.slice ao k co) k (((P.map segOf).take k).flatMap sgCells) (by rfl) ((Hown.out.alloc _).drew) ⟨wr.heap.size, 0, none⟩ 1 1 [.string pn, .int .i64 pf, .int .i64 (pt - pf), .int .i64 0] (by rfl) (by rfl) (World.news_of_block (cs := #[.string pn, .int .i64 pf, .int .i64 (pt - pf), .int .i64 0]) (t := 52) (fr := (0, 0)) (heap_alloc_new wr _)) (by simp [Value.oneCell']) (by omega) (by unfold maxLen; omega) (by omega) (by have := Hbr.out.size; simp; omega) (wr.heap.size + 1) (by simp) ?_; intro gg capg w8 hown8 hgrow8 hat8 hlt8
                  have hY8 : Below w5.heap.size w5 w8 := (Below.drew (Below.alloc Hbr.out Hbr.out.size _)).grown hgrow8 (by have := Hbr.out.size; simp; omega) (fun g hg => (Hbl.out g hg).1)))
              go_wp2
              refine ⟨⟨k + 1, by omega, by go_num, ?_, hY8⟩, by simp [intOf]; omega⟩
              rw [HTk2.out]
              exact hown8
            · have hkl : k = P.length := by omega
              have HO := Lib.hid (show wr.ownsRow w.heap.size 52 4 (.slice ao (P.map segOf).length co) (P.map segOf).length ((P.map segOf).flatMap sgCells) by
                have h := Hown.out
                rw [hkl] at h
                rw [List.length_map]
                rw [List.take_of_length_le (by simp)] at h
                exact ownsRow_base h hb5.size)
              have HkL := Lib.hid (show k = (P.map segOf).length by rw [List.length_map]; exact hkl)
              clear hkl
              go_wp2
              go_ret
              exact ⟨_, P.map segOf, rfl, by rw [HkL.out]; exact HO.out, HSP.out, hb5.trans (hbr.mono hb5.size)⟩
        | false =>
          have HSl := Lib.hid ((HS.out [(atB bs hol (st + free), st + free, un - free, 0)]).2 (by rw [if_pos ⟨by first | rfl | trivial, by first | rfl | trivial⟩, if_neg (by simp), HBe.out, if_pos hk]))
          have HAt := Lib.hid (fun w1 hb1 => HA.out (st + free) w1 hb1)
          generalize atB bs hol (st + free) = at0 at *
          have hr := Below.refl w2.heap.size w2
          have hs2 := hb02.size
          have h1s : w.heap.size + 1 < w2.heap.size := by have := hb2.size; omega
          have Mk := Lib.hid (show ∀ w' : World, Below w2.heap.size w2 w' → (fun w' => Below w2.heap.size w2 w' ∧ w'.cell? ⟨w.heap.size, 4, none⟩ = some (.slice ba bs.length bc) ∧ w'.cell? ⟨w.heap.size + 1, 7, none⟩ = some (.int .i64 un)) w' from fun w' h => ⟨h, (h.cell (p := ⟨w.heap.size, _, none⟩) (by show w.heap.size < _; omega)).trans t4, (h.cell (p := ⟨w.heap.size + 1, _, none⟩) (by show w.heap.size + 1 < _; omega)).trans u7⟩)
          have Hb2 := Lib.hid hb2
          have Hb02 := Lib.hid hb02
          clear m0 m1 hb2 hb02 hs2 h1s hzW
          go_upto_region 7 with (fail)
          go_region_held3 (fun w' : World => Below w2.heap.size w2 w' ∧ w'.cell? ⟨w.heap.size, 4, none⟩ = some (.slice ba bs.length bc) ∧ w'.cell? ⟨w.heap.size + 1, 7, none⟩ = some (.int .i64 un))
            (first
              | exact Mk.out _ (by assumption)
              | exact Mk.out _ (Below.drew (by assumption))
              | exact Mk.out _ (Below.alloc (And.left (by assumption)) (Below.size (And.left (by assumption))) _))
            (first
              | (go_at_call 34
                 refine (HAt.out _ (Hb2.out.trans (Below.mono (And.left (by assumption)) Hb2.out.size))).mono ?_
                 rintro e w5 ⟨rfl, hb5⟩
                 have hY5 : Below w2.heap.size w2 w5 := Below.trans (And.left (by assumption)) (hb5.mono (Below.size (And.left (by assumption))))
                 clear hb5))
          go_wp2
          go_ret
          have hb5 := Hb02.out.trans (hY5.mono Hb02.out.size)
          refine ⟨_, [(at0, st + free, un - free, 0)], rfl, ?_, HSl.out, ?_⟩
          · exact own_one hb5.size (at0, st + free, un - free, 0) _
          · exact hb5.alloc hb5.size _
      · have hkb : (kd == 1) = false := beq_eq_false_iff_ne.2 hk
        have hkn : (kd != 1) = true := bne_iff_ne.2 hk
        have HSl := Lib.hid ((HS.out [(atB bs hol (st), st, un - free, 0)]).2 (by rw [if_pos ⟨by first | rfl | trivial, by first | rfl | trivial⟩, if_neg (by exact fun h => hk h.1), HBe.out, if_neg hk]))
        have HAt := Lib.hid (fun w1 hb1 => HA.out (st) w1 hb1)
        generalize atB bs hol (st) = at0 at *
        have hr := Below.refl w2.heap.size w2
        have hs2 := hb02.size
        have h1s : w.heap.size + 1 < w2.heap.size := by have := hb2.size; omega
        have Mk := Lib.hid (show ∀ w' : World, Below w2.heap.size w2 w' → (fun w' => Below w2.heap.size w2 w' ∧ w'.cell? ⟨w.heap.size, 4, none⟩ = some (.slice ba bs.length bc) ∧ w'.cell? ⟨w.heap.size + 1, 7, none⟩ = some (.int .i64 un)) w' from fun w' h => ⟨h, (h.cell (p := ⟨w.heap.size, _, none⟩) (by show w.heap.size < _; omega)).trans t4, (h.cell (p := ⟨w.heap.size + 1, _, none⟩) (by show w.heap.size + 1 < _; omega)).trans u7⟩)
        have Hb2 := Lib.hid hb2
        have Hb02 := Lib.hid hb02
        clear m0 m1 hb2 hb02 hs2 h1s hzW
        go_upto_region 7 with (fail)
        go_region_held3 (fun w' : World => Below w2.heap.size w2 w' ∧ w'.cell? ⟨w.heap.size, 4, none⟩ = some (.slice ba bs.length bc) ∧ w'.cell? ⟨w.heap.size + 1, 7, none⟩ = some (.int .i64 un))
          (first
            | exact Mk.out _ (by assumption)
            | exact Mk.out _ (Below.drew (by assumption))
            | exact Mk.out _ (Below.alloc (And.left (by assumption)) (Below.size (And.left (by assumption))) _))
          (first
            | (go_at_call 34
               refine (HAt.out _ (Hb2.out.trans (Below.mono (And.left (by assumption)) Hb2.out.size))).mono ?_
               rintro e w5 ⟨rfl, hb5⟩
               have hY5 : Below w2.heap.size w2 w5 := Below.trans (And.left (by assumption)) (hb5.mono (Below.size (And.left (by assumption))))
               clear hb5))
        go_wp2
        go_ret
        have hb5 := Hb02.out.trans (hY5.mono Hb02.out.size)
        refine ⟨_, [(at0, st, un - free, 0)], rfl, ?_, HSl.out, ?_⟩
        · exact own_one hb5.size (at0, st, un - free, 0) _
        · exact hb5.alloc hb5.size _
    · have hz2 : (c != 0) = true := bne_iff_ne.2 hc0
      have HN1 := Lib.hid (HN.out w2 (fun h => hc0 h.2) hb02)
      go_wp2
      go_ret
      exact HN1.out
end Go.Proofs.Ytnekgkmlodeckaa
