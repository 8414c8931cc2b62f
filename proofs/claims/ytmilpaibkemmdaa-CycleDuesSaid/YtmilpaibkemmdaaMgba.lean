/-
  The walks of the errors of an event about an account, about a subscription, and after others.
-/
import Derived.Test.YtmilpaibkemmdaaMgaz
namespace Go.Proofs.Ytmilpaibkemmdaa
open Go.RowKit

theorem two_rows (w : World) (o1 o2 : Obj) : ((w.alloc o1).alloc o2).heap[w.heap.size]? = some o1 ∧ ((w.alloc o1).alloc o2).heap[w.heap.size + 1]? = some o2 ∧ Below w.heap.size w ((w.alloc o1).alloc o2) ∧ w.heap.size + 1 < ((w.alloc o1).alloc o2).heap.size := by
  have h1 := heap_alloc_new (w.alloc o1) o2
  rw [World.size_alloc] at h1
  have h2 : Below (w.alloc o1).heap.size (w.alloc o1) ((w.alloc o1).alloc o2) := (Below.refl _ _).alloc (Nat.le_refl _) _
  exact ⟨(h2.block w.heap.size (by simp)).trans (heap_alloc_new w o1), h1, ((Below.refl _ _).alloc (Nat.le_refl _) _).alloc (by simp) _, by simp⟩

/-- What is asked of an event about an account. -/
structure AccOk (b : Bk) (ev : Ev) : Prop where
  o : ev.kd = 1 → accIx b ev.ac < 0
  a : ev.kd ≠ 1 → ∃ k, ∃ h : k < b.accs.length, accIx b ev.ac = k ∧ (b.accs[k]).clo = false
  s : ev.kd = 3 → subIx b ev.sb < 0
def AccTo (b : Bk) (ev : Ev) (w : World) (e : Ending) (w' : World) : Prop := ∃ r, e = .returned (.int .i64 r) ∧ (r = 0 → AccOk b ev) ∧ Below w.heap.size w w'
theorem acc_no {b : Bk} {ev : Ev} {w w' : World} {r : Int} (h : r ≠ 0) (hb : Below w.heap.size w w') : AccTo b ev w (.returned (.int .i64 r)) w' := ⟨r, rfl, fun e => absurd e h, hb⟩
theorem acc_yes {b : Bk} {ev : Ev} {w w' : World} (h : AccOk b ev) (hb : Below w.heap.size w w') : AccTo b ev w (.returned (.int .i64 0)) w' := ⟨0, rfl, fun _ => h, hb⟩

set_option maxRecDepth 100000 in
set_option maxHeartbeats 6400000 in
theorem ofacc_calls (va vs ve : Value) (X : List SbX) (b : Bk) (ev : Ev) (w : World) (h : BkAt w va vs ve X b) :
    Calls Try.prog 55 #[.agg #[va, vs, ve], evVal ev] w (AccTo b ev w) := by
  have HN := Lib.hid (fun r w' => @acc_no b ev w w' r)
  have HY := Lib.hid (fun w' => @acc_yes b ev w w')
  have HOk := Lib.hid (fun o a s => (⟨o, a, s⟩ : AccOk b ev))
  have HIx := Lib.hid (ixOf_cases (fun a => decide (a.id = ev.ac)) b.accs)
  have HAx := Lib.hid (show accIx b ev.ac = ixOf (fun a => decide (a.id = ev.ac)) b.accs from rfl)
  obtain ⟨tm, kd, ac, sb, nu, nm, vl⟩ := ev
  unfold evVal
  dsimp only at HIx HAx HOk ⊢
  have hh := h
  obtain ⟨aa, an, rfl, hla, hma⟩ := rec_shape h.a
  obtain ⟨sa, sn, rfl, hls, hms⟩ := rec_shape h.s
  obtain ⟨ea, en, rfl, -, -⟩ := rec_shape h.e
  obtain ⟨W, hW⟩ : ∃ W, W = (w.alloc (Obj.cells #[.slice aa b.accs.length an, .slice sa X.length sn, .slice ea b.ended.length en] 72)).alloc (Obj.cells #[.int .i64 tm, .int .i64 kd, .int .i64 ac, .int .i64 sb, .string nu, .string nm, .int .i64 vl] 55) := ⟨_, rfl⟩
  obtain ⟨r0, r1, hw0, hz⟩ := two_rows w (Obj.cells #[.slice aa b.accs.length an, .slice sa X.length sn, .slice ea b.ended.length en] 72) (Obj.cells #[.int .i64 tm, .int .i64 kd, .int .i64 ac, .int .i64 sb, .string nu, .string nm, .int .i64 vl] 55)
  rw [← hW] at r0 r1 hw0 hz
  have HC := Lib.hid (show ∀ Y, Below W.heap.size W Y → Y.cell? ⟨w.heap.size, 0, none⟩ = some (.slice aa b.accs.length an) ∧ Y.cell? ⟨w.heap.size, 1, none⟩ = some (.slice sa X.length sn) ∧ Y.cell? ⟨w.heap.size, 2, none⟩ = some (.slice ea b.ended.length en) ∧
      Y.cell? ⟨w.heap.size + 1, 0, none⟩ = some (.int .i64 tm) ∧ Y.cell? ⟨w.heap.size + 1, 1, none⟩ = some (.int .i64 kd) ∧ Y.cell? ⟨w.heap.size + 1, 2, none⟩ = some (.int .i64 ac) ∧ Y.cell? ⟨w.heap.size + 1, 3, none⟩ = some (.int .i64 sb) ∧ Y.cell? ⟨w.heap.size + 1, 4, none⟩ = some (.string nu) ∧ Y.cell? ⟨w.heap.size + 1, 5, none⟩ = some (.string nm) ∧ Y.cell? ⟨w.heap.size + 1, 6, none⟩ = some (.int .i64 vl) from fun Y hb => by
    have q := (hb.block _ (by omega)).trans r0
    have p := (hb.block _ hz).trans r1
    exact ⟨cell_of_row Y _ 0 _ _ _ q, cell_of_row Y _ 1 _ _ _ q, cell_of_row Y _ 2 _ _ _ q, cell_of_row Y _ 0 _ _ _ p, cell_of_row Y _ 1 _ _ _ p, cell_of_row Y _ 2 _ _ _ p, cell_of_row Y _ 3 _ _ _ p, cell_of_row Y _ 4 _ _ _ p, cell_of_row Y _ 5 _ _ _ p, cell_of_row Y _ 6 _ _ _ p⟩)
  have HBk := Lib.hid (show ∀ Y, Below W.heap.size W Y → BkAt Y (.slice aa b.accs.length an) (.slice sa X.length sn) (.slice ea b.ended.length en) X b from fun Y hb => hh.below (hw0.trans (hb.mono hw0.size)))
  have HW := Lib.hid hW
  have Hw0 := Lib.hid hw0
  unfold maxLen at hma hms
  have HAc := Lib.hid (account_calls _ _ _ X b ac W (HBk.out W (Below.refl _ _)))
  have HSb := Lib.hid (fun Y hb => sub_calls _ _ _ X b sb Y (HBk.out Y hb))
  have HBu := Lib.hid (fun Y hb => busy_calls _ _ _ X b ac Y (HBk.out Y hb))
  obtain ⟨c0, c1, c2, d0, d1, d2, d3, d4, d5, d6⟩ := HC.out W (Below.refl _ _)
  clear hW hw0 r0 r1 h hh hz
  go_enter Try.func55, Try.ntmps55
  go_upto_region 1 with (fail)
  rw [← HW.out]
  go_wp2_with fail
  refine HAc.out.mono ?_
  rintro e w1 ⟨rfl, hb1⟩
  have Hb1 := Lib.hid hb1
  have Hw1 := Lib.hid (Hw0.out.trans (hb1.mono Hw0.out.size))
  clear c0 c1 c2 d0 d1 d2 d3 d4 d5 d6
  obtain ⟨c0, c1, c2, d0, d1, d2, d3, d4, d5, d6⟩ := HC.out w1 hb1
  by_cases hk1 : kd = 1
  · have Hk1 := Lib.hid hk1
    have hkb : (kd == 1) = true := beq_iff_eq.2 hk1
    clear hk1 hb1
    by_cases hi : accIx b ac < 0
    · have Hi := Lib.hid hi
      generalize accIx b ac = ix at *
      go_wp2
      go_ret
      exact HY.out _ (HOk.out (fun _ => Hi.out) (fun h => absurd Hk1.out h) (fun h => absurd (Hk1.out.symm.trans h) (by decide))) Hw1.out
    · have hi2 : 0 ≤ accIx b ac := by omega
      clear hi
      generalize accIx b ac = ix at *
      go_wp2
      go_ret
      exact HN.out _ _ (by decide) Hw1.out
  · have Hk1 := Lib.hid hk1
    have hkb : (kd == 1) = false := beq_eq_false_iff_ne.2 hk1
    clear hk1
    rcases HIx.out with ⟨hx, -⟩ | ⟨k, hk, hx, -, -⟩
    · rw [HAx.out, hx]
      clear hx hb1
      go_wp2
      go_ret
      exact HN.out _ _ (by decide) Hw1.out
    · rw [HAx.out, hx]
      have Hxx := Lib.hid (HAx.out.trans hx)
      have hkl : (k : Int) < (b.accs.length : Int) := by omega
      have hk0 : (0 : Int) ≤ (k : Int) := Int.natCast_nonneg _
      obtain ⟨a2, n2, e2, -, -, hy⟩ := (HBk.out w1 hb1).a
      cases e2
      obtain ⟨bb, o, rfl, hB, hy⟩ := hy (by intro e; rw [e] at hk; cases hk)
      have y3 := hy k hk 3 (by decide)
      have y4 := hy k hk 4 (by decide)
      have Hclo := Lib.hid (fun (hc : (b.accs[k]).clo = false) => HOk.out (fun h => absurd h Hk1.out) (fun _ => ⟨k, hk, Hxx.out, hc⟩))
      clear hx hy
      generalize b.accs[k] = a at *
      obtain ⟨a1, a2, a3, pre, clo⟩ := a
      unfold acCells at y3 y4
      dsimp only at y3 y4 Hclo
      have y3 : w1.cell? ⟨bb, o + k * 6 + 3, none⟩ = some (.bool pre) := y3
      have y4 : w1.cell? ⟨bb, o + k * 6 + 4, none⟩ = some (.bool clo) := y4
      cases clo with
      | true =>
        clear hb1
        go_wp2
        go_ret
        exact HN.out _ _ (by decide) Hw1.out
      | false =>
        have Hc := Lib.hid (Hclo.out rfl)
        by_cases hk3 : kd = 3
        · subst hk3
          have HS1 := Lib.hid (HSb.out w1 hb1)
          by_cases hs : subIx b sb < 0
          · have Hs := Lib.hid hs
            generalize subIx b sb = six at *
            clear hb1
            go_wp2_with fail
            refine HS1.out.mono ?_
            rintro e w2 ⟨rfl, hb2⟩
            have e1 := (HC.out w2 (Hb1.out.trans (hb2.mono Hb1.out.size))).2.2.2.2.1
            go_wp2
            go_ret
            exact HY.out _ (Hc.out (fun _ => Hs.out)) (Hw1.out.trans (hb2.mono Hw1.out.size))
          · have hs2 : 0 ≤ subIx b sb := by omega
            clear hs
            generalize subIx b sb = six at *
            clear hb1
            go_wp2_with (go_at_call 58; refine HS1.out.mono ?_; rintro e w2 ⟨rfl, hb2⟩)
            go_ret
            exact HN.out _ _ (by decide) (Hw1.out.trans (hb2.mono Hw1.out.size))
        · have Hc2 := Lib.hid (Hc.out (fun h => absurd h hk3))
          have hk3b : (kd == 3) = false := beq_eq_false_iff_ne.2 hk3
          clear hk3
          by_cases hk2 : kd = 2
          · subst hk2
            have HB1 := Lib.hid (HBu.out w1 hb1)
            clear hb1
            go_wp2_with fail
            refine HB1.out.mono ?_
            rintro e w2 ⟨bz, rfl, hb2⟩
            have Hw2 := Lib.hid (Hw1.out.trans (hb2.mono Hw1.out.size))
            have e1 := (HC.out w2 (Hb1.out.trans (hb2.mono Hb1.out.size))).2.2.2.2.1
            clear hb2
            cases bz with
            | true =>
              go_wp2
              go_ret
              exact HN.out _ _ (by decide) Hw2.out
            | false =>
              go_wp2
              go_ret
              exact HY.out _ Hc2.out Hw2.out
          · have hk2b : (kd == 2) = false := beq_eq_false_iff_ne.2 hk2
            clear hk2 hb1
            go_wp2
            all_goals first
              | (go_ret; exact HN.out _ _ (by decide) Hw1.out)
              | (go_ret; exact HY.out _ Hc2.out Hw1.out)

/-- What is asked of an event about a subscription. -/
def SubTo (b : Bk) (ev : Ev) (w : World) (e : Ending) (w' : World) : Prop := ∃ r, e = .returned (.int .i64 r) ∧ (r = 0 → 0 ≤ subIx b ev.sb ∧ endedB b ev.sb = false) ∧ Below w.heap.size w w'
theorem sub_no {b : Bk} {ev : Ev} {w w' : World} {r : Int} (h : r ≠ 0) (hb : Below w.heap.size w w') : SubTo b ev w (.returned (.int .i64 r)) w' := ⟨r, rfl, fun e => absurd e h, hb⟩
theorem sub_yes {b : Bk} {ev : Ev} {w w' : World} {r : Int} (h1 : 0 ≤ subIx b ev.sb) (h2 : endedB b ev.sb = false) (hb : Below w.heap.size w w') : SubTo b ev w (.returned (.int .i64 r)) w' := ⟨r, rfl, fun _ => ⟨h1, h2⟩, hb⟩

set_option maxRecDepth 100000 in
set_option maxHeartbeats 12800000 in
theorem ofsub_calls (va vs ve : Value) (X : List SbX) (b : Bk) (ev : Ev) (w : World) (h : BkAt w va vs ve X b) :
    Calls Try.prog 56 #[.agg #[va, vs, ve], evVal ev] w (SubTo b ev w) := by
  have HN := Lib.hid (fun r w' => @sub_no b ev w w' r)
  have HY := Lib.hid (fun r w' => @sub_yes b ev w w' r)
  have HIx := Lib.hid (ixOf_cases (fun a => decide (a.id = ev.sb)) b.subs)
  have HAx := Lib.hid (show subIx b ev.sb = ixOf (fun a => decide (a.id = ev.sb)) b.subs from rfl)
  obtain ⟨tm, kd, ac, sb, nu, nm, vl⟩ := ev
  unfold evVal
  dsimp only at HIx HAx HY ⊢
  have hh := h
  obtain ⟨aa, an, rfl, hla, hma⟩ := rec_shape h.a
  obtain ⟨sa, sn, rfl, hls, hms⟩ := rec_shape h.s
  obtain ⟨ea, en, rfl, -, -⟩ := rec_shape h.e
  obtain ⟨W, hW⟩ : ∃ W, W = (w.alloc (Obj.cells #[.slice aa b.accs.length an, .slice sa X.length sn, .slice ea b.ended.length en] 72)).alloc (Obj.cells #[.int .i64 tm, .int .i64 kd, .int .i64 ac, .int .i64 sb, .string nu, .string nm, .int .i64 vl] 55) := ⟨_, rfl⟩
  obtain ⟨r0, r1, hw0, hz⟩ := two_rows w (Obj.cells #[.slice aa b.accs.length an, .slice sa X.length sn, .slice ea b.ended.length en] 72) (Obj.cells #[.int .i64 tm, .int .i64 kd, .int .i64 ac, .int .i64 sb, .string nu, .string nm, .int .i64 vl] 55)
  rw [← hW] at r0 r1 hw0 hz
  have HC := Lib.hid (show ∀ Y, Below W.heap.size W Y → Y.cell? ⟨w.heap.size, 0, none⟩ = some (.slice aa b.accs.length an) ∧ Y.cell? ⟨w.heap.size, 1, none⟩ = some (.slice sa X.length sn) ∧ Y.cell? ⟨w.heap.size, 2, none⟩ = some (.slice ea b.ended.length en) ∧
      Y.cell? ⟨w.heap.size + 1, 0, none⟩ = some (.int .i64 tm) ∧ Y.cell? ⟨w.heap.size + 1, 1, none⟩ = some (.int .i64 kd) ∧ Y.cell? ⟨w.heap.size + 1, 2, none⟩ = some (.int .i64 ac) ∧ Y.cell? ⟨w.heap.size + 1, 3, none⟩ = some (.int .i64 sb) ∧ Y.cell? ⟨w.heap.size + 1, 4, none⟩ = some (.string nu) ∧ Y.cell? ⟨w.heap.size + 1, 5, none⟩ = some (.string nm) ∧ Y.cell? ⟨w.heap.size + 1, 6, none⟩ = some (.int .i64 vl) from fun Y hb => by
    have q := (hb.block _ (by omega)).trans r0
    have p := (hb.block _ hz).trans r1
    exact ⟨cell_of_row Y _ 0 _ _ _ q, cell_of_row Y _ 1 _ _ _ q, cell_of_row Y _ 2 _ _ _ q, cell_of_row Y _ 0 _ _ _ p, cell_of_row Y _ 1 _ _ _ p, cell_of_row Y _ 2 _ _ _ p, cell_of_row Y _ 3 _ _ _ p, cell_of_row Y _ 4 _ _ _ p, cell_of_row Y _ 5 _ _ _ p, cell_of_row Y _ 6 _ _ _ p⟩)
  have HBk := Lib.hid (show ∀ Y, Below W.heap.size W Y → BkAt Y (.slice aa b.accs.length an) (.slice sa X.length sn) (.slice ea b.ended.length en) X b from fun Y hb => hh.below (hw0.trans (hb.mono hw0.size)))
  have HW := Lib.hid hW
  have Hw0 := Lib.hid hw0
  unfold maxLen at hma hms
  have HSb := Lib.hid (sub_calls _ _ _ X b sb W (HBk.out W (Below.refl _ _)))
  have HEn := Lib.hid (fun Y hb => ended_calls _ _ _ X b sb Y (HBk.out Y hb))
  have HTk := Lib.hid (fun Y hb => taken_calls _ _ _ X b nu Y (HBk.out Y hb))
  have HXl := Lib.hid h.len
  obtain ⟨c0, c1, c2, d0, d1, d2, d3, d4, d5, d6⟩ := HC.out W (Below.refl _ _)
  clear hW hw0 r0 r1 h hh hz
  go_enter Try.func56, Try.ntmps56
  go_upto_region 1 with (fail)
  rw [← HW.out]
  go_wp2_with fail
  refine HSb.out.mono ?_
  rintro e w1 ⟨rfl, hb1⟩
  have Hb1 := Lib.hid hb1
  have Hw1 := Lib.hid (Hw0.out.trans (hb1.mono Hw0.out.size))
  clear c0 c1 c2 d0 d1 d2 d3 d4 d5 d6
  obtain ⟨c0, c1, c2, d0, d1, d2, d3, d4, d5, d6⟩ := HC.out w1 hb1
  rcases HIx.out with ⟨hx, -⟩ | ⟨k, hk, hx, -, -⟩
  · rw [HAx.out, hx]
    clear hx hb1
    go_wp2
    go_ret
    exact HN.out _ _ (by decide) Hw1.out
  · rw [HAx.out, hx]
    have HY := Lib.hid (fun r w' => HY.out r w' (by rw [HAx.out, hx]; exact Int.natCast_nonneg _))
    have HE1 := Lib.hid (HEn.out w1 hb1)
    clear hx hb1
    go_wp2_with fail
    refine HE1.out.mono ?_
    rintro e w2 ⟨rfl, hb2⟩
    have Hb2 := Lib.hid (Hb1.out.trans (hb2.mono Hb1.out.size))
    have Hw2 := Lib.hid (Hw1.out.trans (hb2.mono Hw1.out.size))
    clear c0 c1 c2 d0 d1 d2 d3 d4 d5 d6
    cases hen : endedB b sb with
    | true =>
      clear hb2 hen
      go_wp2
      go_ret
      exact HN.out _ _ (by decide) Hw2.out
    | false =>
      have HY2 := Lib.hid (fun r w' => HY.out r w' hen)
      clear hen HY
      have hkX : k < X.length := by have := HXl.out; omega
      have hkl : (k : Int) < (X.length : Int) := by omega
      have hk0 : (0 : Int) ≤ (k : Int) := Int.natCast_nonneg _
      have hbk := HBk.out w2 Hb2.out
      obtain ⟨a2, n2, e2, -, -, hy⟩ := hbk.s
      cases e2
      obtain ⟨bb, o, rfl, hB, hy⟩ := hy (by intro e; rw [e] at hkX; cases hkX)
      have y := hy k hkX
      have hrd := hbk.r X[k] (List.getElem_mem hkX)
      clear hy hbk
      generalize X[k] = x at *
      obtain ⟨⟨i1, i2, i3, i4, nus, prs, i5, i6⟩, na, nn, nc, pa, pn, pc⟩ := x
      unfold sbCells at y
      have hr1 : StrsAt w2 (.slice na nn nc) nus := hrd.1
      have hr2 : StrsAt w2 (.slice pa pn pc) prs := hrd.2.1
      have y0 : w2.cell? ⟨bb, o + k * 8, none⟩ = some (.int .i64 i1) := y 0 (by decide)
      have y1 : w2.cell? ⟨bb, o + k * 8 + 1, none⟩ = some (.int .i64 i2) := y 1 (by decide)
      have y2 : w2.cell? ⟨bb, o + k * 8 + 2, none⟩ = some (.int .i64 i3) := y 2 (by decide)
      have y3 : w2.cell? ⟨bb, o + k * 8 + 3, none⟩ = some (.string i4) := y 3 (by decide)
      have y4 : w2.cell? ⟨bb, o + k * 8 + 4, none⟩ = some (.slice na nn nc) := y 4 (by decide)
      have y5 : w2.cell? ⟨bb, o + k * 8 + 5, none⟩ = some (.slice pa pn pc) := y 5 (by decide)
      have y6 : w2.cell? ⟨bb, o + k * 8 + 6, none⟩ = some (.bool i5) := y 6 (by decide)
      have y7 : w2.cell? ⟨bb, o + k * 8 + 7, none⟩ = some (.bool i6) := y 7 (by decide)
      clear y
      obtain ⟨c0, c1, c2, d0, d1, d2, d3, d4, d5, d6⟩ := HC.out w2 Hb2.out
      obtain ⟨Z, hZ⟩ : ∃ Z, Z = w2.alloc (Obj.cells #[.int .i64 i1, .int .i64 i2, .int .i64 i3, .string i4, .slice na nn nc, .slice pa pn pc, .bool i5, .bool i6] 92) := ⟨_, rfl⟩
      have hbZ : Below w2.heap.size w2 Z := by rw [hZ]; go_grown
      have rZ : Z.heap[w2.heap.size]? = some (Obj.cells #[.int .i64 i1, .int .i64 i2, .int .i64 i3, .string i4, .slice na nn nc, .slice pa pn pc, .bool i5, .bool i6] 92) := by rw [hZ]; exact heap_alloc_new _ _
      have HwZ := Lib.hid (Hw2.out.trans (hbZ.mono Hw2.out.size))
      have HbZ := Lib.hid (Hb2.out.trans (hbZ.mono Hb2.out.size))
      have HH1 := Lib.hid (fun s => has_calls _ _ s Z (hr1.below hbZ))
      have HH2 := Lib.hid (fun s => has_calls _ _ s Z (hr2.below hbZ))
      have HTZ := Lib.hid (HTk.out Z HbZ.out)
      have HZ := Lib.hid hZ
      have HrZ := Lib.hid rZ
      go_upto_region 7 with (fail)
      rw [← HZ.out]
      clear c0 c1 c2 d0 d1 d2 d3 d4 d5 d6 hB hrd hr1 hr2 y0 y1 y2 y3 y4 y5 y6 y7 hb2
      obtain ⟨c0, c1, c2, d0, d1, d2, d3, d4, d5, d6⟩ := HC.out Z HbZ.out
      have z4 := cell_of_row Z _ 4 _ _ _ HrZ.out
      have z5 := cell_of_row Z _ 5 _ _ _ HrZ.out
      have z6 := cell_of_row Z _ 6 _ _ _ HrZ.out
      have z7 := cell_of_row Z _ 7 _ _ _ HrZ.out
      clear hZ rZ hbZ
      go_wp2_with (first
        | (go_at_call 81; refine HTZ.out.mono ?_; rintro e w3 ⟨bt, rfl, hb3⟩)
        | (go_at_call 82; with_reducible refine (HH1.out _).mono ?_; rintro e w3 ⟨rfl, rfl⟩)
        | (go_at_call 82; with_reducible refine (HH2.out _).mono ?_; rintro e w3 ⟨rfl, rfl⟩))
      all_goals first
        | (go_ret; exact HY2.out _ _ HwZ.out)
        | (go_ret; exact HY2.out _ _ (HwZ.out.trans (hb3.mono HwZ.out.size)))

/-- The error of an event behind a book. -/
def FaultTo (b : Bk) (last : Int) (ev : Ev) (w : World) (e : Ending) (w' : World) : Prop := ∃ r, e = .returned (.int .i64 r) ∧ (r = 0 → OkEv b last ev) ∧ Below w.heap.size w w'
theorem fault_no {b : Bk} {last : Int} {ev : Ev} {w w' : World} {r : Int} (h : r ≠ 0) (hb : Below w.heap.size w w') : FaultTo b last ev w (.returned (.int .i64 r)) w' := ⟨r, rfl, fun e => absurd e h, hb⟩
theorem usV_0 (k : Int) : ∃ a b c d : Bool, usV k = #[.bool (usesA k), .bool a, .bool b, .bool c, .bool d] := by
  unfold usV usesA
  repeat' split
  all_goals first
    | (subst_vars; exact ⟨_, _, _, _, rfl⟩)
    | (rename_i h; rcases h with rfl | rfl | rfl <;> exact ⟨_, _, _, _, rfl⟩)
    | (rename_i h; rcases h with rfl | rfl <;> exact ⟨_, _, _, _, rfl⟩)
    | (refine ⟨true, false, false, false, ?_⟩; rw [show (decide (k = 1) || decide (k = 2) || decide (k = 3) || decide (k = 14) || decide (k = 15)) = false by simp; omega])

set_option maxRecDepth 100000 in
set_option maxHeartbeats 6400000 in
theorem fault17_calls (va vs ve : Value) (X : List SbX) (b : Bk) (ev : Ev) (last : Int) (w : World) (h : BkAt w va vs ve X b) (hn : ev.nu.size ≤ maxLen) (hm : ev.nm.size ≤ maxLen) :
    Calls Try.prog 38 #[.agg #[va, vs, ve], evVal ev, .int .i64 last] w (FaultTo b last ev w) := by
  have HF := Lib.hid (fun w => form_calls ev last w hn hm)
  have HOA := Lib.hid (fun Y va vs ve (h : BkAt Y va vs ve X b) => ofacc_calls va vs ve X b ev Y h)
  have HOS := Lib.hid (fun Y va vs ve (h : BkAt Y va vs ve X b) => ofsub_calls va vs ve X b ev Y h)
  have HUs := Lib.hid (fun Y h1 h2 => uses_calls ev.kd Y h1 h2)
  have HOk := Lib.hid (fun (f : FormOk last ev) (ha : usesA ev.kd = true → AccOk b ev) (hs : usesA ev.kd = false → 0 ≤ subIx b ev.sb ∧ endedB b ev.sb = false) => (⟨f.k1, f.k2, f.t0, f.t1, f.t2, f.a1, f.a0, f.s1, f.s0, f.v1, fun h => (ha (by rw [h]; rfl)).o h, fun h1 h2 => (ha h1).a h2, fun h => (ha (by rw [h]; rfl)).s h, hs⟩ : OkEv b last ev))
  have HK := Lib.hid (fun (f : FormOk last ev) => And.intro f.k1 f.k2)
  have HUA := Lib.hid (usV_0 ev.kd)
  have HT := Lib.hid (fun r w' => @fault_no b last ev w w' r)
  obtain ⟨tm, kd, ac, sb, nu, nm, vl⟩ := ev
  unfold evVal at HF HOA HOS ⊢
  dsimp only at HF HOA HOS HUs HOk HK HUA ⊢
  have hh := h
  obtain ⟨aa, an, rfl, hla, hma⟩ := rec_shape h.a
  obtain ⟨sa, sn, rfl, hls, hms⟩ := rec_shape h.s
  obtain ⟨ea, en, rfl, -, -⟩ := rec_shape h.e
  obtain ⟨W, hW⟩ : ∃ W, W = (w.alloc (Obj.cells #[.slice aa b.accs.length an, .slice sa X.length sn, .slice ea b.ended.length en] 72)).alloc (Obj.cells #[.int .i64 tm, .int .i64 kd, .int .i64 ac, .int .i64 sb, .string nu, .string nm, .int .i64 vl] 55) := ⟨_, rfl⟩
  obtain ⟨r0, r1, hw0, hz⟩ := two_rows w (Obj.cells #[.slice aa b.accs.length an, .slice sa X.length sn, .slice ea b.ended.length en] 72) (Obj.cells #[.int .i64 tm, .int .i64 kd, .int .i64 ac, .int .i64 sb, .string nu, .string nm, .int .i64 vl] 55)
  rw [← hW] at r0 r1 hw0 hz
  have HC := Lib.hid (show ∀ Y, Below W.heap.size W Y → Y.cell? ⟨w.heap.size, 0, none⟩ = some (.slice aa b.accs.length an) ∧ Y.cell? ⟨w.heap.size, 1, none⟩ = some (.slice sa X.length sn) ∧ Y.cell? ⟨w.heap.size, 2, none⟩ = some (.slice ea b.ended.length en) ∧
      Y.cell? ⟨w.heap.size + 1, 0, none⟩ = some (.int .i64 tm) ∧ Y.cell? ⟨w.heap.size + 1, 1, none⟩ = some (.int .i64 kd) ∧ Y.cell? ⟨w.heap.size + 1, 2, none⟩ = some (.int .i64 ac) ∧ Y.cell? ⟨w.heap.size + 1, 3, none⟩ = some (.int .i64 sb) ∧ Y.cell? ⟨w.heap.size + 1, 4, none⟩ = some (.string nu) ∧ Y.cell? ⟨w.heap.size + 1, 5, none⟩ = some (.string nm) ∧ Y.cell? ⟨w.heap.size + 1, 6, none⟩ = some (.int .i64 vl) from fun Y hb => by
    have q := (hb.block _ (by omega)).trans r0
    have p := (hb.block _ hz).trans r1
    exact ⟨cell_of_row Y _ 0 _ _ _ q, cell_of_row Y _ 1 _ _ _ q, cell_of_row Y _ 2 _ _ _ q, cell_of_row Y _ 0 _ _ _ p, cell_of_row Y _ 1 _ _ _ p, cell_of_row Y _ 2 _ _ _ p, cell_of_row Y _ 3 _ _ _ p, cell_of_row Y _ 4 _ _ _ p, cell_of_row Y _ 5 _ _ _ p, cell_of_row Y _ 6 _ _ _ p⟩)
  have HBk := Lib.hid (show ∀ Y, Below W.heap.size W Y → BkAt Y (.slice aa b.accs.length an) (.slice sa X.length sn) (.slice ea b.ended.length en) X b from fun Y hb => hh.below (hw0.trans (hb.mono hw0.size)))
  have HW := Lib.hid hW
  have Hw0 := Lib.hid hw0
  unfold maxLen at hma hms
  clear hW hw0 r0 r1 h hh hz hn hm
  obtain ⟨c0, c1, c2, d0, d1, d2, d3, d4, d5, d6⟩ := HC.out W (Below.refl _ _)
  go_enter Try.func38, Try.ntmps38
  go_upto_region 1 with (fail)
  rw [← HW.out]
  go_wp2_with fail
  refine (HF.out W).mono ?_
  rintro e w1 ⟨r, rfl, hform, hb1⟩
  have Hform := Lib.hid hform
  have Hb1 := Lib.hid hb1
  have Hw1 := Lib.hid (Hw0.out.trans (hb1.mono Hw0.out.size))
  clear c0 c1 c2 d0 d1 d2 d3 d4 d5 d6 hform
  obtain ⟨c0, c1, c2, d0, d1, d2, d3, d4, d5, d6⟩ := HC.out w1 hb1
  by_cases hr : r = 0
  · subst hr
    have Hf := Lib.hid (Hform.out rfl)
    obtain ⟨hk1, hk2⟩ := HK.out Hf.out
    have HUs1 := Lib.hid (HUs.out w1 hk1 hk2)
    obtain ⟨q1, q2, q3, q4, hq⟩ := HUA.out
    rw [hq] at HUs1
    obtain ⟨ua, hua⟩ : ∃ ua, ua = usesA kd := ⟨_, rfl⟩
    rw [← hua] at HUs1
    have Hua := Lib.hid hua
    clear hb1 hq hua Hform
    go_wp2_with fail
    refine HUs1.out.mono ?_
    rintro e w2 ⟨rfl, hb2⟩
    have Hb2 := Lib.hid (Hb1.out.trans (hb2.mono Hb1.out.size))
    have Hw2 := Lib.hid (Hw1.out.trans (hb2.mono Hw1.out.size))
    clear c0 c1 c2 d0 d1 d2 d3 d4 d5 d6 hb2
    obtain ⟨c0, c1, c2, d0, d1, d2, d3, d4, d5, d6⟩ := HC.out w2 Hb2.out
    have HA2 := Lib.hid (HOA.out w2 _ _ _ (HBk.out w2 Hb2.out))
    have HS2 := Lib.hid (HOS.out w2 _ _ _ (HBk.out w2 Hb2.out))
    have i0 : ∀ (q0 : Bool) (w : World), (Instr.index 84 (.agg #[.bool q0, .bool q1, .bool q2, .bool q3, .bool q4]) (.int .i64 0)).run Try.prog w = .ok (.bool q0) w := fun _ _ => by kernel_rfl
    cases ua with
    | true =>
      go_wp2_with fail
      refine HA2.out.mono ?_
      rintro e w3 ⟨r3, rfl, h3, hb3⟩
      have H3 := Lib.hid h3
      clear h3
      go_wp2
      go_ret
      exact ⟨r3, rfl, fun h => HOk.out Hf.out (fun _ => H3.out h) (fun hh => by rw [← Hua.out] at hh; cases hh), Hw2.out.trans (hb3.mono Hw2.out.size)⟩
    | false =>
      go_wp2_with fail
      refine HS2.out.mono ?_
      rintro e w3 ⟨r3, rfl, h3, hb3⟩
      have H3 := Lib.hid h3
      clear h3
      go_wp2
      go_ret
      exact ⟨r3, rfl, fun h => HOk.out Hf.out (fun hh => by rw [← Hua.out] at hh; cases hh) (fun _ => H3.out h), Hw2.out.trans (hb3.mono Hw2.out.size)⟩
  · have hrb : (r != 0) = true := bne_iff_ne.2 hr
    have Hr := Lib.hid hr
    clear hr hb1
    go_wp2
    go_ret
    exact HT.out _ _ Hr.out Hw1.out
end Go.Proofs.Ytmilpaibkemmdaa
