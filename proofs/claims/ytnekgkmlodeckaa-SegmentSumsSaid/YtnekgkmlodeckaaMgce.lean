/-
  The law of chapter 30 on sums: under one rate the segments cost what all units cost in its ladder.
-/
import Derived.Test.YtnekgkmlodeckaaMgbx
import Derived.Test.YtnekgkmlodeckaaMgcd
import Derived.Test.YtnekgkmlodeckaaMgbz
import Derived.Laws.OwnMore
namespace Go.Proofs.Ytnekgkmlodeckaa
open Go.RowKit

theorem Try.rateInfo : (Try.prog.info? 33).map (fun i => (i.zero, i.size, i.bytes)) = some (some (.agg #[.int .i64 0, .string ⟨#[]⟩, .string ⟨#[]⟩, .int .i64 0, .slice none 0 0]), 5, 72) := by kernel_rfl
theorem ownsRow_set {w : World} {base : Nat} {e : TypeId} {sz n : Nat} {v : Value} {xs : List Value} (h : w.ownsRow base e sz v n xs) (a : Addr) (x : Value) (hne : ∀ g, v.ownBlock = some g → g ≠ a.block) : (w.setCell a x).ownsRow base e sz v n xs := by
  obtain ⟨h1, h2⟩ := h
  refine ⟨h1, ?_⟩
  rcases h2 with h2 | ⟨g, cap, cur, hv, hg, hh, r⟩
  · exact Or.inl h2
  · exact Or.inr ⟨g, cap, cur, hv, hg, (Below.heap_setCell _ _ _ _ (hne g (by rw [hv]; rfl))).trans hh, r⟩
theorem own_some {w : World} {base : Nat} {e : TypeId} {sz n : Nat} {v : Value} {xs : List Value} (h : w.ownsRow base e sz v n xs) (hn : 0 < n) : ∃ g cap, v = .slice (some ⟨g, 0, none⟩) n cap ∧ base ≤ g ∧ g < w.heap.size ∧ n ≤ cap ∧ cap ≤ maxLen := by
  have h0 := h
  obtain ⟨-, h2⟩ := h
  rcases h2 with ⟨-, rfl⟩ | ⟨g, cap, cur, rfl, hB, hh, h1, h2, -⟩
  · cases hn
  · exact ⟨g, cap, rfl, hB, (Array.getElem?_eq_some_iff.1 hh).1, h1, h2⟩
/-- An own row of one rate, read. -/
theorem rts_own1 {w : World} {base : Nat} {e : TypeId} {v sv : Value} {kd xs : Int} {xl : List St} (h : w.ownsRow base e 5 v 1 [.int .i64 kd, .string ⟨#[]⟩, .string ⟨#[]⟩, .int .i64 xs, sv]) (hs : StpAt w sv xl) : RtsAt w v [oneR kd xs xl] := by
  obtain ⟨g, cap, rfl, -, hg, hc, hm⟩ := own_some h (by decide)
  refine ⟨_, cap, rfl, hc, ⟨hm, fun h => by cases h⟩, fun _ => ⟨g, 0, rfl, hg, fun i hi => ?_⟩⟩
  obtain rfl : i = 0 := by simpa using hi
  exact ⟨h.cellAt 0 (by decide), ⟨h.cellAt 1 (by decide), show (⟨#[]⟩ : ByteArray).size ≤ maxLen by decide⟩, ⟨h.cellAt 2 (by decide), show (⟨#[]⟩ : ByteArray).size ≤ maxLen by decide⟩, h.cellAt 3 (by decide), sv, h.cellAt 4 (by decide), hs⟩

set_option maxRecDepth 100000 in
set_option maxHeartbeats 12800000 in
theorem sums30_law (nm : ByteArray) (fr : Int) (sl : Bool) (zv bv rv dv vh : Value) (zs : List Zn) (bs : List Bn) (rs : List Rt) (ds : List (Nat × List Value)) (hol : List Int) (u : Us) (free : Int) (w : World) (hz : ZnsAt w zv zs) (hbs : BnsAt w bv bs) (hr : RtsAt w rv rs) (hd : DssAt w dv ds) (hh : IcsAt w vh hol) (hub : u.b.size ≤ maxLen) (hsm : ∀ r ∈ rs, r.2.2.2.2.length ≤ 5864062014634) :
    Calls Try.prog 8 #[.agg #[Value.string nm, .int .i64 fr, .bool sl, zv, bv, rv, dv], .agg #[vh, .int .i64 u.id, .int .i64 u.kd, .int .i64 u.ac, .int .i64 u.sb, .string u.a, .string u.b, .int .i64 u.st, .int .i64 u.un, .int .i64 u.tr, .bool u.ib, .int .i64 u.so, .int .i64 u.se, .int .i64 free]] w (BoolTo true w) := by
  obtain ⟨W, hW⟩ : ∃ W, W = (w.alloc (Obj.cells #[Value.string nm, .int .i64 fr, .bool sl, zv, bv, rv, dv] 27)).alloc (Obj.cells #[vh, .int .i64 u.id, .int .i64 u.kd, .int .i64 u.ac, .int .i64 u.sb, .string u.a, .string u.b, .int .i64 u.st, .int .i64 u.un, .int .i64 u.tr, .bool u.ib, .int .i64 u.so, .int .i64 u.se, .int .i64 free] 42) := ⟨_, rfl⟩
  obtain ⟨hw0, hzW, r0, r1⟩ := rows2 hW
  have HSm := Lib.hid (small30_calls nm fr sl zv bv rv dv vh zs bs rs ds hol W (hz.below hw0) (hbs.below hw0) (hr.below hw0) (hd.below hw0) (hh.below hw0))
  have HR0 := Lib.hid r0
  have Hz := Lib.hid hz
  have Hbs := Lib.hid hbs
  have Hr := Lib.hid hr
  have Hd := Lib.hid hd.isSl
  have Hh := Lib.hid hh
  have Hsm := Lib.hid hsm
  obtain ⟨za, zc, rfl, -, -, -⟩ := hz
  obtain ⟨ba, bc, rfl, -, -, -⟩ := hbs
  obtain ⟨ra, rc, rfl, -, -, -⟩ := hr
  obtain ⟨da, dc, rfl, -, -, -⟩ := hd
  obtain ⟨ha, hc, rfl, -, -, -⟩ := hh
  unfold Us.row at *
  have HM := Lib.hid (show ∀ w', Below W.heap.size W w' → w'.cell? ⟨w.heap.size, 0, none⟩ = some (Value.string nm) ∧ w'.cell? ⟨w.heap.size, 1, none⟩ = some (Value.int .i64 fr) ∧ w'.cell? ⟨w.heap.size, 2, none⟩ = some (Value.bool sl) ∧ w'.cell? ⟨w.heap.size, 3, none⟩ = some (Value.slice za zs.length zc) ∧ w'.cell? ⟨w.heap.size, 4, none⟩ = some (Value.slice ba bs.length bc) ∧ w'.cell? ⟨w.heap.size, 5, none⟩ = some (Value.slice ra rs.length rc) ∧ w'.cell? ⟨w.heap.size, 6, none⟩ = some (Value.slice da ds.length dc) ∧ w'.cell? ⟨w.heap.size + 1, 0, none⟩ = some (Value.slice ha hol.length hc) ∧ w'.cell? ⟨w.heap.size + 1, 1, none⟩ = some (.int .i64 u.id) ∧ w'.cell? ⟨w.heap.size + 1, 2, none⟩ = some (.int .i64 u.kd) ∧ w'.cell? ⟨w.heap.size + 1, 3, none⟩ = some (.int .i64 u.ac) ∧ w'.cell? ⟨w.heap.size + 1, 4, none⟩ = some (.int .i64 u.sb) ∧ w'.cell? ⟨w.heap.size + 1, 5, none⟩ = some (.string u.a) ∧ w'.cell? ⟨w.heap.size + 1, 6, none⟩ = some (.string u.b) ∧ w'.cell? ⟨w.heap.size + 1, 7, none⟩ = some (.int .i64 u.st) ∧ w'.cell? ⟨w.heap.size + 1, 8, none⟩ = some (.int .i64 u.un) ∧ w'.cell? ⟨w.heap.size + 1, 9, none⟩ = some (.int .i64 u.tr) ∧ w'.cell? ⟨w.heap.size + 1, 10, none⟩ = some (.bool u.ib) ∧ w'.cell? ⟨w.heap.size + 1, 11, none⟩ = some (.int .i64 u.so) ∧ w'.cell? ⟨w.heap.size + 1, 12, none⟩ = some (.int .i64 u.se) ∧ w'.cell? ⟨w.heap.size + 1, 13, none⟩ = some (.int .i64 free) from fun w' hb => by
    have g0 := (hb.block _ (by omega)).trans r0
    have g1 := (hb.block _ (by omega)).trans r1
    exact ⟨cell_of_row w' _ 0 _ _ _ g0, cell_of_row w' _ 1 _ _ _ g0, cell_of_row w' _ 2 _ _ _ g0, cell_of_row w' _ 3 _ _ _ g0, cell_of_row w' _ 4 _ _ _ g0, cell_of_row w' _ 5 _ _ _ g0, cell_of_row w' _ 6 _ _ _ g0, cell_of_row w' _ 0 _ _ _ g1, cell_of_row w' _ 1 _ _ _ g1, cell_of_row w' _ 2 _ _ _ g1, cell_of_row w' _ 3 _ _ _ g1, cell_of_row w' _ 4 _ _ _ g1, cell_of_row w' _ 5 _ _ _ g1, cell_of_row w' _ 6 _ _ _ g1, cell_of_row w' _ 7 _ _ _ g1, cell_of_row w' _ 8 _ _ _ g1, cell_of_row w' _ 9 _ _ _ g1, cell_of_row w' _ 10 _ _ _ g1, cell_of_row w' _ 11 _ _ _ g1, cell_of_row w' _ 12 _ _ _ g1, cell_of_row w' _ 13 _ _ _ g1⟩)
  have HW := Lib.hid hW
  have Hw0 := Lib.hid hw0
  clear hW hw0 r0 r1
  obtain ⟨t0, t1, t2, t3, t4, t5, t6, c0, c1, c2, c3, c4, c5, c6, c7, c8, c9, c10, c11, c12, c13⟩ := HM.out W (Below.refl _ _)
  clear hsm
  obtain ⟨i0, hi, hz0, hz1, hz2⟩ := info_parts Try.rateInfo
  have Hi := Lib.hid (And.intro hi (And.intro hz0 (And.intro hz1 hz2)))
  clear hi hz0 hz1 hz2
  go_enter Try.func8, Try.ntmps8
  go_upto_region 1 with (fail)
  rw [← HW.out]
  go_wp2_with fail
  refine HSm.out.mono ?_
  rintro e w1 ⟨r, rfl, hb1⟩
  clear t0 t1 t2 t3 t4 t5 t6 c0 c1 c2 c3 c4 c5 c6 c7 c8 c9 c10 c11 c12 c13
  obtain ⟨t0, t1, t2, t3, t4, t5, t6, c0, c1, c2, c3, c4, c5, c6, c7, c8, c9, c10, c11, c12, c13⟩ := HM.out w1 hb1
  cases r with
  | false =>
    go_wp2_with fail
    refine (awake30_calls _).mono ?_
    rintro e wz ⟨rfl, hbz⟩
    have hbz := hb1.trans (hbz.mono hb1.size)
    go_wp2
    go_ret
    exact ⟨rfl, Hw0.out.trans (hbz.mono Hw0.out.size)⟩
  | true =>
    by_cases hlb : (u.b.size : Int) > 300
    · skip
      go_wp2_with fail
      refine (awake30_calls _).mono ?_
      rintro e wz ⟨rfl, hbz⟩
      have hbz := hb1.trans (hbz.mono hb1.size)
      go_wp2
      go_ret
      exact ⟨rfl, Hw0.out.trans (hbz.mono Hw0.out.size)⟩
    · by_cases hrz : rs = []
      · subst hrz
        have hl0 : (([] : List Rt).length : Int) = 0 := rfl
        go_wp2_with fail
        refine (awake30_calls _).mono ?_
        rintro e wz ⟨rfl, hbz⟩
        have hbz := hb1.trans (hbz.mono hb1.size)
        go_wp2
        go_ret
        exact ⟨rfl, Hw0.out.trans (hbz.mono Hw0.out.size)⟩
      · have hrp : 0 < rs.length := List.length_pos_iff.2 hrz
        have hrl : ((rs.length : Int) == 0) = false := beq_eq_false_iff_ne.2 (by omega)
        obtain ⟨ra2, rc2, e2, hrc, hrm, hx⟩ := Hr.out
        cases e2
        obtain ⟨bR, oR, rfl, hBR, hx⟩ := hx hrz
        obtain ⟨d0, ⟨d1, -⟩, ⟨d2, -⟩, d3, sv, d4, hst⟩ := hx 0 hrp
        rw [Nat.zero_mul, Nat.add_zero] at d0 d1 d2 d3 d4
        have hsl := Hsm.out rs[0] (List.getElem_mem hrp)
        generalize rs[0] = x0 at *
        obtain ⟨xk, xz, xb, xs, xl⟩ := x0
        dsimp only at d0 d1 d2 d3 hst hsl
        have Hst := Lib.hid hst
        have h01 := Hw0.out.trans (hb1.mono Hw0.out.size)
        have q0 := (h01.cell (p := ⟨bR, _, none⟩) hBR).trans d0
        have q1 := (h01.cell (p := ⟨bR, _, none⟩) hBR).trans d1
        have q2 := (h01.cell (p := ⟨bR, _, none⟩) hBR).trans d2
        have q3 := (h01.cell (p := ⟨bR, _, none⟩) hBR).trans d3
        have q4 := (h01.cell (p := ⟨bR, _, none⟩) hBR).trans d4
        have hsv1 : sv.oneCell' = true := by obtain ⟨sa, sn, rfl, -⟩ := hst; rfl
        have hrm1 := hrm.1
        unfold maxLen at hrm1
        have hrc1 : 1 ≤ rc := by omega
        have hrp2 : (1 : Int) ≤ (rs.length : Int) := by omega
        have HsvO := Lib.hid hsv1
        have Qs := Lib.hid (And.intro q0 (And.intro q1 (And.intro q2 (And.intro q3 q4))))
        have Hxk := Lib.hid hsl
        clear hx d0 d1 d2 d3 d4 hst hrz hsv1 hsl q0 q1 q2 q3 q4
        have hz1 := hb1.size
        have Hb1 := Lib.hid hb1
        obtain ⟨Y, hY⟩ : ∃ Y, Y = w1.alloc (Obj.cells #[] 33) := ⟨_, rfl⟩
        have hbY : Below w1.heap.size w1 Y := by rw [hY]; exact (Below.refl _ _).alloc (Nat.le_refl _) _
        have hown0 : Y.ownsRow w1.heap.size 33 5 (.slice (some ⟨w1.heap.size, 0, none⟩) 0 0) 0 [] := by
          rw [hY]
          exact ⟨rfl, Or.inr ⟨w1.heap.size, 0, #[], rfl, Nat.le_refl _, heap_alloc_new _ _, Nat.le_refl _, by decide, rfl, rfl⟩⟩
        have Hown0 := Lib.hid hown0
        have HY := Lib.hid hY
        have HbY := Lib.hid hbY
        have HzY := Lib.hid (show w1.heap.size ≤ Y.heap.size from hbY.size)
        have HQY := Lib.hid (show ∀ j c, (bR < w1.heap.size) → w1.cell? ⟨bR, oR + j, none⟩ = some c → Y.cell? ⟨bR, oR + j, none⟩ = some c from fun j c h1 h2 => (hbY.cell (p := ⟨bR, _, none⟩) h1).trans h2)
        have hBR1 : bR < w1.heap.size := Nat.lt_of_lt_of_le hBR h01.size
        clear hY hbY hown0 h01 hb1
        have zw0 : w.heap.size < w1.heap.size := by omega
        have nw0 : ¬ w.heap.size = w1.heap.size := by omega
        have zw1 : w.heap.size + 1 < w1.heap.size := by omega
        have nw1 : ¬ w.heap.size + 1 = w1.heap.size := by omega
        have nwR : ¬ bR = w1.heap.size := by omega
        go_wp2_with (at_builtin; refine wpList_append_own _ rfl _ _ 24 rfl w1.heap.size 33 i0 _ 5 72 Try.underlying24 Hi.out.1 Hi.out.2.1 Hi.out.2.2.1 Hi.out.2.2.2 rfl (by decide) _ 0 [] rfl (HY.out ▸ Hown0.out) ⟨bR, oR, none⟩ 1 rc [.int .i64 xk, .string xz, .string xb, .int .i64 xs, sv] rfl rfl ?aq1 ?aq2 (by decide) (by decide) ?aq5 ?_)
        case aq1 =>
          rw [← HY.out]
          intro j x hj
          obtain ⟨q0, q1, q2, q3, q4⟩ := Qs.out
          have hjl : j < 5 := (List.getElem?_eq_some_iff.1 hj).1
          rw [show (⟨bR, oR, none⟩ : Addr).add j = ⟨bR, oR + j, none⟩ by unfold Addr.add; split <;> simp_all]
          match j, hjl with
          | 0, _ => cases hj; exact HQY.out 0 _ hBR1 q0
          | 1, _ => cases hj; exact HQY.out 1 _ hBR1 q1
          | 2, _ => cases hj; exact HQY.out 2 _ hBR1 q2
          | 3, _ => cases hj; exact HQY.out 3 _ hBR1 q3
          | 4, _ => cases hj; exact HQY.out 4 _ hBR1 q4
        case aq2 =>
          intro x hx
          simp only [List.mem_cons, List.not_mem_nil, or_false] at hx
          rcases hx with rfl | rfl | rfl | rfl | rfl
          · rfl
          · rfl
          · rfl
          · rfl
          · exact HsvO.out
        case aq5 => simp
        rw [← HY.out]
        intro v6 w6 hown6 hgrow _
        have hown6 : w6.ownsRow w1.heap.size 33 5 v6 1 [.int .i64 xk, .string xz, .string xb, .int .i64 xs, sv] := hown6
        have hb6 : Below w1.heap.size w1 w6 := HbY.out.grown hgrow HbY.out.size (fun g hg => by cases hg; exact Nat.le_refl _)
        obtain ⟨g, cg, rfl, hg1, hg2, hcg, hcgm⟩ := own_some hown6 (by decide)
        unfold maxLen at hcgm
        have Hown6 := Lib.hid hown6
        have Hb6 := Lib.hid hb6
        clear hown6 hgrow hb6
        have hne1 : ¬ g = w.heap.size := by omega
        have hne2 : ¬ w.heap.size = g := by omega
        have hne3 : ¬ g = w.heap.size + 1 := by omega
        have hne4 : ¬ w.heap.size + 1 = g := by omega
        have hrow6 := (Hb6.out.block w.heap.size zw0).trans ((Hb1.out.block w.heap.size (by omega)).trans HR0.out)
        have hc5 := cell_of_row w6 _ 5 _ _ _ hrow6
        have hf5 : w6.frozen? ⟨w.heap.size, 5, none⟩ = false := by simp [World.frozen?, hrow6]
        have HC6 := Lib.hid (show ∀ b j v, b < w1.heap.size → w1.cell? ⟨b, j, none⟩ = some v → w6.cell? ⟨b, j, none⟩ = some v from fun b j v h1 h2 => (Hb6.out.cell (p := ⟨b, _, none⟩) h1).trans h2)
        obtain ⟨W7, hW7⟩ : ∃ W7, W7 = w6.setCell ⟨w.heap.size, 5, none⟩ (.slice (some ⟨g, 0, none⟩) 1 cg) := ⟨_, rfl⟩
        have hb7 : Below w.heap.size w W7 := by rw [hW7]; exact (Hw0.out.trans ((Hb1.out.trans (Hb6.out.mono Hb1.out.size)).mono Hw0.out.size)).setCell (p := ⟨w.heap.size, 5, none⟩) (Nat.le_refl _) _
        have hown7 : W7.ownsRow w1.heap.size 33 5 (.slice (some ⟨g, 0, none⟩) 1 cg) 1 [.int .i64 xk, .string xz, .string xb, .int .i64 xs, sv] := by rw [hW7]; exact ownsRow_set Hown6.out _ _ (fun g' e => by cases e; exact hne1)
        have e7 : W7.cell? ⟨w.heap.size, 5, none⟩ = some (.slice (some ⟨g, 0, none⟩) 1 cg) := by rw [hW7]; exact World.cell?_setCell_same _ _ _ hc5
        have HC7 := Lib.hid (show ∀ b j v, ¬ (b = w.heap.size ∧ j = 5) → w6.cell? ⟨b, j, none⟩ = some v → W7.cell? ⟨b, j, none⟩ = some v from fun b j v hne h => by
          rw [hW7, World.cell?_setCell_other w6 ⟨w.heap.size, 5, none⟩ ⟨b, j, none⟩ _ (by intro e; simp only [Addr.mk.injEq] at e; exact hne ⟨e.1.symm, e.2.1.symm⟩)]
          exact h)
        have HC7b := Lib.hid (show ∀ b j v, b < w1.heap.size → ¬ (b = w.heap.size ∧ j = 5) → w1.cell? ⟨b, j, none⟩ = some v → W7.cell? ⟨b, j, none⟩ = some v from fun b j v h1 h2 h3 => HC7.out b j v h2 (HC6.out b j v h1 h3))
        have hs7 : W7.heap.size = w6.heap.size := by rw [hW7]; simp [World.setCell]
        have m7 := hown7.cellAt 0 (by decide)
        have z7 := hown7.frozenAt 0
        have k7 : W7.cell? ⟨w.heap.size + 1, 2, none⟩ = some (.int .i64 u.kd) := HC7b.out _ _ _ zw1 (by omega) c2
        have HW7 := Lib.hid hW7
        have Hown7 := Lib.hid hown7
        have Hb7 := Lib.hid hb7
        have Cs := Lib.hid (And.intro t0 (And.intro t1 (And.intro t2 (And.intro t3 (And.intro t4 t6)))))
        have Ds := Lib.hid (And.intro c0 (And.intro c1 (And.intro c2 (And.intro c3 (And.intro c4 (And.intro c5 (And.intro c6 (And.intro c7 (And.intro c8 (And.intro c9 (And.intro c10 (And.intro c11 (And.intro c12 c13)))))))))))))
        clear hW7 hrow6 hown7 hb7 t5
        go_upto_region 4 with (fail)
        rw [← HW7.out]
        clear hc5 hf5 t0 t1 t2 t3 t4 t6 c0 c1 c2 c3 c4 c5 c6 c7 c8 c9 c10 c11 c12 c13
        obtain ⟨W8, hW8⟩ : ∃ W8, W8 = W7.setCell ⟨g, 0, none⟩ (.int .i64 u.kd) := ⟨_, rfl⟩
        obtain ⟨W9, hW9⟩ : ∃ W9, W9 = W8.setCell ⟨g, 1, none⟩ (.string ⟨#[]⟩) := ⟨_, rfl⟩
        obtain ⟨WX, hWX⟩ : ∃ WX, WX = W9.setCell ⟨g, 2, none⟩ (.string ⟨#[]⟩) := ⟨_, rfl⟩
        have hown8 := (Hown7.out.stored 0 (.int .i64 u.kd)).1
        rw [← hW8] at hown8
        have hown9 := (hown8.stored 1 (.string ⟨#[]⟩)).1
        rw [← hW9] at hown9
        have hownX := (hown9.stored 2 (.string ⟨#[]⟩)).1
        rw [← hWX] at hownX
        have hbX : Below w.heap.size w WX := by
          rw [hWX, hW9, hW8]
          exact ((Hb7.out.setCell (p := ⟨g, 0, none⟩) (by show w.heap.size ≤ g; omega) _).setCell (p := ⟨g, 1, none⟩) (by show w.heap.size ≤ g; omega) _).setCell (p := ⟨g, 2, none⟩) (by show w.heap.size ≤ g; omega) _
        have HO := Lib.hid (show ∀ (V : World) (k : Nat) (x : Value) b j v, ¬ b = g → V.cell? ⟨b, j, none⟩ = some v → (V.setCell ⟨g, k, none⟩ x).cell? ⟨b, j, none⟩ = some v from fun V k x b j v hne h => by
          rw [World.cell?_setCell_other V ⟨g, k, none⟩ ⟨b, j, none⟩ _ (by intro e; simp only [Addr.mk.injEq] at e; exact hne e.1.symm)]
          exact h)
        have HCX := Lib.hid (show ∀ b j v, ¬ b = g → W7.cell? ⟨b, j, none⟩ = some v → WX.cell? ⟨b, j, none⟩ = some v from fun b j v hne h => by rw [hWX, hW9, hW8]; exact HO.out _ _ _ _ _ _ hne (HO.out _ _ _ _ _ _ hne (HO.out _ _ _ _ _ _ hne h)))
        have hsX : WX.heap.size = w6.heap.size := by rw [hWX, hW9, hW8]; simpa [World.setCell] using hs7
        have e8 : W8.cell? ⟨w.heap.size, 5, none⟩ = some (.slice (some ⟨g, 0, none⟩) 1 cg) := by rw [hW8]; exact HO.out _ _ _ _ _ _ hne2 e7
        have e9 : W9.cell? ⟨w.heap.size, 5, none⟩ = some (.slice (some ⟨g, 0, none⟩) 1 cg) := by rw [hW9]; exact HO.out _ _ _ _ _ _ hne2 e8
        have eX := HCX.out _ _ _ hne2 e7
        have m8 := hown8.cellAt 1 (by decide)
        have z8 := hown8.frozenAt 1
        have m9 := hown9.cellAt 2 (by decide)
        have z9 := hown9.frozenAt 2
        have HW8 := Lib.hid hW8
        have HW9 := Lib.hid hW9
        have HWX := Lib.hid hWX
        have HownX := Lib.hid hownX
        have HbX := Lib.hid hbX
        clear hW8 hW9 hWX hown8 hown9 hownX hbX
        go_upto_region 5 with (fail)
        rw [← HW8.out]
        clear e7 m7 z7 k7
        go_upto_region 6 with (fail)
        rw [← HW9.out]
        clear e8 m8 z8
        go_upto_region 7 with (fail)
        rw [← HWX.out]
        clear e9 m9 z9 hlb hrl hrc hrm1 hrc1 hrp2 hrp hcgm hcg
        obtain ⟨sa, sn, sc, rfl⟩ := SliceAt.isSl Hst.out
        have zX0 : w.heap.size < WX.heap.size := by omega
        have zX1 : w.heap.size + 1 < WX.heap.size := by omega
        have zXg : g < WX.heap.size := by omega
        have HMX := Lib.hid (show ∀ w', Below WX.heap.size WX w' → w'.cell? ⟨w.heap.size, 0, none⟩ = some (Value.string nm) ∧ w'.cell? ⟨w.heap.size, 1, none⟩ = some (Value.int .i64 fr) ∧ w'.cell? ⟨w.heap.size, 2, none⟩ = some (Value.bool sl) ∧ w'.cell? ⟨w.heap.size, 3, none⟩ = some (Value.slice za zs.length zc) ∧ w'.cell? ⟨w.heap.size, 4, none⟩ = some (Value.slice ba bs.length bc) ∧ w'.cell? ⟨w.heap.size, 5, none⟩ = some (Value.slice (some ⟨g, 0, none⟩) 1 cg) ∧ w'.cell? ⟨w.heap.size, 6, none⟩ = some (Value.slice da ds.length dc) ∧ w'.cell? ⟨w.heap.size + 1, 0, none⟩ = some (Value.slice ha hol.length hc) ∧ w'.cell? ⟨w.heap.size + 1, 1, none⟩ = some (.int .i64 u.id) ∧ w'.cell? ⟨w.heap.size + 1, 2, none⟩ = some (.int .i64 u.kd) ∧ w'.cell? ⟨w.heap.size + 1, 3, none⟩ = some (.int .i64 u.ac) ∧ w'.cell? ⟨w.heap.size + 1, 4, none⟩ = some (.int .i64 u.sb) ∧ w'.cell? ⟨w.heap.size + 1, 5, none⟩ = some (.string u.a) ∧ w'.cell? ⟨w.heap.size + 1, 6, none⟩ = some (.string u.b) ∧ w'.cell? ⟨w.heap.size + 1, 7, none⟩ = some (.int .i64 u.st) ∧ w'.cell? ⟨w.heap.size + 1, 8, none⟩ = some (.int .i64 u.un) ∧ w'.cell? ⟨w.heap.size + 1, 9, none⟩ = some (.int .i64 u.tr) ∧ w'.cell? ⟨w.heap.size + 1, 10, none⟩ = some (.bool u.ib) ∧ w'.cell? ⟨w.heap.size + 1, 11, none⟩ = some (.int .i64 u.so) ∧ w'.cell? ⟨w.heap.size + 1, 12, none⟩ = some (.int .i64 u.se) ∧ w'.cell? ⟨w.heap.size + 1, 13, none⟩ = some (.int .i64 free) ∧ w'.cell? ⟨g, 3, none⟩ = some (.int .i64 xs) ∧ w'.cell? ⟨g, 4, none⟩ = some (.slice sa sn sc) from fun w' h => by
          obtain ⟨t0, t1, t2, t3, t4, t6⟩ := Cs.out
          obtain ⟨c0, c1, c2, c3, c4, c5, c6, c7, c8, c9, c10, c11, c12, c13⟩ := Ds.out
          exact ⟨(h.cell (p := ⟨w.heap.size, _, none⟩) zX0).trans (HCX.out _ _ _ hne2 (HC7b.out _ _ _ zw0 (by omega) t0)), (h.cell (p := ⟨w.heap.size, _, none⟩) zX0).trans (HCX.out _ _ _ hne2 (HC7b.out _ _ _ zw0 (by omega) t1)), (h.cell (p := ⟨w.heap.size, _, none⟩) zX0).trans (HCX.out _ _ _ hne2 (HC7b.out _ _ _ zw0 (by omega) t2)), (h.cell (p := ⟨w.heap.size, _, none⟩) zX0).trans (HCX.out _ _ _ hne2 (HC7b.out _ _ _ zw0 (by omega) t3)), (h.cell (p := ⟨w.heap.size, _, none⟩) zX0).trans (HCX.out _ _ _ hne2 (HC7b.out _ _ _ zw0 (by omega) t4)), (h.cell (p := ⟨w.heap.size, _, none⟩) zX0).trans (eX), (h.cell (p := ⟨w.heap.size, _, none⟩) zX0).trans (HCX.out _ _ _ hne2 (HC7b.out _ _ _ zw0 (by omega) t6)), (h.cell (p := ⟨w.heap.size + 1, _, none⟩) zX1).trans (HCX.out _ _ _ hne4 (HC7b.out _ _ _ zw1 (by omega) c0)), (h.cell (p := ⟨w.heap.size + 1, _, none⟩) zX1).trans (HCX.out _ _ _ hne4 (HC7b.out _ _ _ zw1 (by omega) c1)), (h.cell (p := ⟨w.heap.size + 1, _, none⟩) zX1).trans (HCX.out _ _ _ hne4 (HC7b.out _ _ _ zw1 (by omega) c2)), (h.cell (p := ⟨w.heap.size + 1, _, none⟩) zX1).trans (HCX.out _ _ _ hne4 (HC7b.out _ _ _ zw1 (by omega) c3)), (h.cell (p := ⟨w.heap.size + 1, _, none⟩) zX1).trans (HCX.out _ _ _ hne4 (HC7b.out _ _ _ zw1 (by omega) c4)), (h.cell (p := ⟨w.heap.size + 1, _, none⟩) zX1).trans (HCX.out _ _ _ hne4 (HC7b.out _ _ _ zw1 (by omega) c5)), (h.cell (p := ⟨w.heap.size + 1, _, none⟩) zX1).trans (HCX.out _ _ _ hne4 (HC7b.out _ _ _ zw1 (by omega) c6)), (h.cell (p := ⟨w.heap.size + 1, _, none⟩) zX1).trans (HCX.out _ _ _ hne4 (HC7b.out _ _ _ zw1 (by omega) c7)), (h.cell (p := ⟨w.heap.size + 1, _, none⟩) zX1).trans (HCX.out _ _ _ hne4 (HC7b.out _ _ _ zw1 (by omega) c8)), (h.cell (p := ⟨w.heap.size + 1, _, none⟩) zX1).trans (HCX.out _ _ _ hne4 (HC7b.out _ _ _ zw1 (by omega) c9)), (h.cell (p := ⟨w.heap.size + 1, _, none⟩) zX1).trans (HCX.out _ _ _ hne4 (HC7b.out _ _ _ zw1 (by omega) c10)), (h.cell (p := ⟨w.heap.size + 1, _, none⟩) zX1).trans (HCX.out _ _ _ hne4 (HC7b.out _ _ _ zw1 (by omega) c11)), (h.cell (p := ⟨w.heap.size + 1, _, none⟩) zX1).trans (HCX.out _ _ _ hne4 (HC7b.out _ _ _ zw1 (by omega) c12)), (h.cell (p := ⟨w.heap.size + 1, _, none⟩) zX1).trans (HCX.out _ _ _ hne4 (HC7b.out _ _ _ zw1 (by omega) c13)), (h.cell (p := ⟨g, _, none⟩) zXg).trans (HownX.out.cellAt 3 (by decide)), (h.cell (p := ⟨g, _, none⟩) zXg).trans (HownX.out.cellAt 4 (by decide))⟩)
        have HP := Lib.hid (sprice_calls nm fr sl (.slice za zs.length zc) (.slice ba bs.length bc) (.slice (some ⟨g, 0, none⟩) 1 cg) (.slice da ds.length dc) (.slice ha hol.length hc) zs bs [oneR u.kd xs xl] hol u free WX (Hz.out.below HbX.out) (Hbs.out.below HbX.out) (rts_own1 HownX.out (Hst.out.below HbX.out)) Hd.out (Hh.out.below HbX.out) hub (by simpa using Hxk.out))
        unfold Us.row at HP
        have hl1 : ([oneR u.kd xs xl] : List Rt).length = 1 := rfl
        obtain ⟨t0, t1, t2, t3, t4, t5, t6, c0, c1, c2, c3, c4, c5, c6, c7, c8, c9, c10, c11, c12, c13, p3, p4⟩ := HMX.out WX (Below.refl _ _)
        clear eX hl1
        go_wp2_with fail
        refine HP.out.mono ?_
        rintro e wb ⟨L, vb, hSb, rfl, hPb, hbz⟩
        have Hbz := Lib.hid hbz
        have Hwb := Lib.hid (HbX.out.trans (hbz.mono HbX.out.size))
        have HUn := Lib.hid (fun h => segR_units hSb h)
        have HLb := Lib.hid (fun g hg => ((segR_bounds hSb).2 g hg).1)
        generalize hp : priceS [oneR u.kd xs xl] u.kd (findZ zs u.b).1 L = p at *
        obtain ⟨Q, su, er⟩ := p
        have H3 := Lib.hid (price_one HLb.out hp)
        dsimp only at hPb ⊢
        clear hp hSb t0 t1 t2 t3 t4 t5 t6 c0 c1 c2 c3 c4 c5 c6 c7 c8 c9 c10 c11 c12 c13 p3 p4 hbz
        have hwb := Hwb.out
        by_cases her : er = 0
        · have hen : (er != 0) = false := bne_eq_false_iff_eq.2 her
          by_cases hq : Q = []
          · obtain rfl := H3.out.2.1 hq
            subst hq
            obtain ⟨vq, cq, rfl, -, -, -⟩ := hPb
            clear her
            go_wp2_with fail
            refine (awake30_calls _).mono ?_
            rintro e wz ⟨rfl, hbz⟩
            have hbz := hwb.trans (hbz.mono hwb.size)
            go_wp2
            go_ret
            exact ⟨rfl, hbz⟩
          · obtain ⟨hLn, rfl, hQL, hA, hE, hT⟩ := H3.out.2.2 her hq
            have hQp : 0 < Q.length := List.length_pos_iff.2 hq
            have HPQ := Lib.hid hPb
            obtain ⟨vq, cq, rfl, hcq, hcqm, -⟩ := hPb
            have hcqm := hcqm.1
            unfold maxLen at hcqm
            have hqz : ((Q.length : Int) == 0) = false := beq_eq_false_iff_ne.2 (by omega)
            have HA := Lib.hid hA
            obtain ⟨hpp, -, hU, -⟩ := HUn.out hLn
            have hpb := proper_bounds hpp
            have hwd : IntKind.i64.wrap (u.un - free) = u.un - free := IntWalk.i64_in _ (by omega)
            have HT1 := Lib.hid (show amU Q Q.length = tot xl (u.un - free) from by rw [(HA.out Q.length (Nat.le_refl _)).1, hQL, hU])
            have HPr := Lib.hid (show ∀ w', Below w.heap.size w w' → Calls Try.prog 27 #[.slice sa sn sc, .int .i64 (u.un - free)] w' fun e w'' => e = .returned (.tuple #[.int .i64 (tot xl (u.un - free)), .int .i64 0]) ∧ Below w'.heap.size w' w'' from fun w' h => by
              have hpl : priceL xl (u.un - free) = (tot xl (u.un - free), 0) := by
                unfold priceL
                rw [hU] at hT
                rw [if_neg (not_not_intro hE), if_neg (by omega), if_neg (by omega)]
              have h := price_pub (.slice sa sn sc) xl (u.un - free) w' ((Hst.out.below h).steps)
              rw [hpl] at h
              exact h)
            generalize tot xl (u.un - free) = T at *
            clear her hq hA hE hT hpp hU hpb hQL hLn
            go_wp2_with fail
            go_loopw [8, 9] (fun s8 i wr => ∃ k : Nat, k ≤ Q.length ∧ i = .int .i64 k ∧ s8 = .int .i64 (amU Q k) ∧ Below wb.heap.size wb wr) (fun _ i _ => Q.length - (intOf i).toNat)
            case atStart => exact ⟨0, Nat.zero_le _, rfl, rfl, Below.refl _ _⟩
            case round =>
              obtain ⟨k, hkQ, rfl, rfl, hbr⟩ := hrel
              have Hbr := Lib.hid hbr
              by_cases hlt : k < Q.length
              · obtain ⟨-, a1, a2⟩ := HA.out (k + 1) hlt
                obtain ⟨-, a3, a4⟩ := HA.out k hkQ
                obtain ⟨vq2, cq2, e2, -, -, hx⟩ := HPQ.out
                cases e2
                obtain ⟨bQ, oQ, rfl, hBQ, hx⟩ := hx (by rintro rfl; cases hlt)
                obtain ⟨-, -, -, d3⟩ := hx k hlt
                have q3 := (hbr.cell (p := ⟨bQ, _, none⟩) hBQ).trans d3
                have hSc := amU_succ hlt
                rw [hSc] at a1 a2
                have HSc := Lib.hid hSc
                have hk0 : (0 : Int) ≤ (k : Int) := Int.natCast_nonneg _
                have hk1 : (k : Int) < (Q.length : Int) := by omega
                clear hx d3 hSc
                generalize Q[k].2.2.2 = am at *
                generalize amU Q k = s at *
                have hw1 : IntKind.i64.wrap (s + am) = s + am := IntWalk.i64_in _ (by omega)
                go_wp2
                exact ⟨⟨k + 1, by omega, by go_num, by rw [HSc.out], Hbr.out⟩, by simp [intOf]; omega⟩
              · have hkq : k = Q.length := by omega
                have HTk := Lib.hid (show amU Q k = T by rw [hkq]; exact HT1.out)
                rw [HTk.out]
                have hXr := Hbz.out.trans (hbr.mono Hbz.out.size)
                obtain ⟨t0, t1, t2, t3, t4, t5, t6, c0, c1, c2, c3, c4, c5, c6, c7, c8, c9, c10, c11, c12, c13, p3, p4⟩ := HMX.out wr hXr
                have Hwr := Lib.hid (Hwb.out.trans (hbr.mono Hwb.out.size))
                have zr := hXr.size
                have ft5 := fun p : BelowOf wr => BelowOf.cell (a := ⟨w.heap.size, 5, none⟩) (show w.heap.size < wr.heap.size by omega) t5 p
                have fc8 := fun p : BelowOf wr => BelowOf.cell (a := ⟨w.heap.size + 1, 8, none⟩) (show w.heap.size + 1 < wr.heap.size by omega) c8 p
                have fc13 := fun p : BelowOf wr => BelowOf.cell (a := ⟨w.heap.size + 1, 13, none⟩) (show w.heap.size + 1 < wr.heap.size by omega) c13 p
                have fp4 := fun p : BelowOf wr => BelowOf.cell (a := ⟨g, 4, none⟩) (show g < wr.heap.size by omega) p4 p
                have e1 : (T == T) = true := beq_self_eq_true _
                have e2 : (su == su) = true := beq_self_eq_true _
                clear hkq t0 t1 t2 t3 t4 t5 t6 c0 c1 c2 c3 c4 c5 c6 c7 c8 c9 c10 c11 c12 c13 p3 p4 hbr
                go_upto_region 15 with (fail)
                refine wp_region_quiet_below (Below.refl wr.heap.size wr) (by kernel_rfl) (by kernel_rfl) ?_
                repeat (go_big_quiet_step (first | (go_at_call 27; refine calls_below_of (HPr.out _ (Hwr.out.trans ((BelowOf.h _).mono Hwr.out.size))) (fun e w' h => h))))
                refine wpQuiet_nil ?_
                intro wq hw'
                have hYq : Below wr.heap.size wr wq := by obtain ⟨pq, rfl⟩ := hw'; exact pq.h
                clear hw' ft5 fc8 fc13 fp4
                obtain ⟨t0, t1, t2, t3, t4, t5, t6, c0, c1, c2, c3, c4, c5, c6, c7, c8, c9, c10, c11, c12, c13, p3, p4⟩ := HMX.out wq (hXr.trans (hYq.mono zr))
                have hwq := Hwr.out.trans (hYq.mono Hwr.out.size)
                go_wp2_with fail
                refine (awake30_calls _).mono ?_
                rintro e wz ⟨rfl, hbz⟩
                have hbz := hwq.trans (hbz.mono hwq.size)
                go_wp2
                go_ret
                exact ⟨rfl, hbz⟩
        · obtain ⟨rfl, rfl⟩ := H3.out.1 her
          have hen : (er != 0) = true := bne_iff_ne.2 her
          obtain ⟨vq, cq, rfl, -, -, -⟩ := hPb
          clear her
          go_wp2_with fail
          refine (awake30_calls _).mono ?_
          rintro e wz ⟨rfl, hbz⟩
          have hbz := hwb.trans (hbz.mono hwb.size)
          go_wp2
          go_ret
          exact ⟨rfl, hbz⟩
end Go.Proofs.Ytnekgkmlodeckaa
