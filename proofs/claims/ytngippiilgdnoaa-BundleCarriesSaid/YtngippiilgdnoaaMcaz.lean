/-
  The walk of the reference's spells.
-/
import Derived.Test.YtngippiilgdnoaaMcay
set_option maxRecDepth 100000
set_option maxHeartbeats 25600000
namespace Go.Proofs.Ytngippiilgdnoaa
open Go.RowKit
theorem find_none {α : Type} {l : List α} {p : α → Bool} {k : Nat} (hk : k < l.length) (h : (l.take k).any p = false) (hp : p l[k] = true) : l.find? p = some l[k] := by
 have e : l = l.take k ++ (l[k] :: l.drop (k + 1)) := by rw [← List.drop_eq_getElem_cons hk, List.take_append_drop]
 have h0 : (l.take k).find? p = none := List.find?_eq_none.2 (fun x hx => by have := List.any_eq_false.1 h x hx; simpa using this)
 have h2 : l.find? p = (l.take k ++ (l[k] :: l.drop (k + 1))).find? p := congrArg (List.find? p) e
 rw [h2, List.find?_append, h0, Option.none_or, List.find?_cons_of_pos hp]
theorem find_all {α : Type} {l : List α} {p : α → Bool} {k : Nat} (hk : l.length ≤ k) (h : (l.take k).any p = false) : l.find? p = none := by
 rw [List.take_of_length_le hk] at h
 exact List.find?_eq_none.2 (fun x hx => by have := List.any_eq_false.1 h x hx; simpa using this)
def PersW (w : World) (N : List (Int × Int)) (e : Ending) (w' : World) : Prop := ∃ v, e = .returned v ∧ w'.ownsRow w.heap.size 24 2 v N.length (N.flatMap perCells) ∧ Below w.heap.size w w'
theorem joinedP_own  (v : Value) (L : List (Int × Int)) (w : World) (h : RecAt perCells 2 w v L) (hl : L.length ≤ 10000) :
 Calls Try.prog 39 #[v, .func (.func 40) #[] #[], .func (.func 41) #[] #[]] w (PersW w (joinP L)) := by
 have HA := hZ9 h
 obtain ⟨av, cap, rfl, hcl, hcm⟩ := rec_shape h
 unfold maxLen at hcm
 clear h
 go_enter Try.func39, Try.ntmps39
 go_wp2_with fail
 go_loopw [7, 13] (fun vo i wr => ∃ (k : Nat) (O : List (Int × Int)), k ≤ L.length ∧ i = .int .i64 k ∧ RowKit.Hid (O = joinP (L.take k)) ∧ wr.ownsRow w.heap.size 24 2 vo O.length (O.flatMap perCells) ∧ Below w.heap.size w wr) (fun _ i _ => L.length - (intOf i).toNat)
 case atStart => exact ⟨0, [], Nat.zero_le _, rfl, hZ9 (rfl), World.ownsRow_nil _ _ _ _, Below.refl _ _⟩
 case round =>
  obtain ⟨wo, rfl⟩ : ∃ wo : World, wo = wr := ⟨_, rfl⟩
  obtain ⟨k, O, hk, rfl, HP, hown, hb⟩ := hrel
  obtain ⟨a, cp, rfl, hc1, hc2⟩ := own_shape hown
  unfold maxLen at hc2
  have Hown := hZ9 hown
  have Hb := hZ9 hb
  have hOl : O.length ≤ k := by rw [HP.out]; exact joinP_len L k hk
  by_cases hlt : k < L.length
  · have hk1 : (k : Int) < (L.length : Int) := by omega
    have hk0 : (0 : Int) ≤ (k : Int) := Int.natCast_nonneg _
    have HTk := hZ9 (joinP_take L k hlt)
    obtain ⟨a2, c2, e2, -, -, hx⟩ := (HA.out.below hb)
    cases e2
    obtain ⟨bb, o, rfl, hB, hx⟩ := hx (by rintro rfl; cases hlt)
    have hx := hx k hlt
    have x0 : wo.cell? ⟨bb, o + k * 2, none⟩ = some (.int .i64 (L[k]).1) := hx 0 (by decide)
    have x1c : wo.cell? ⟨bb, o + k * 2 + 1, none⟩ = some (.int .i64 (L[k]).2) := hx 1 (by decide)
    clear hx hB hown hb
    generalize L[k] = x at *
    obtain ⟨x1, x2⟩ := x
    dsimp only at x0 x1c HTk
    obtain ⟨Y, hY⟩ : ∃ Y, Y = wo.alloc (Obj.cells #[.int .i64 x1, .int .i64 x2] 24) := ⟨_, rfl⟩
    have hbY : Below wo.heap.size wo Y := by rw [hY]; go_grown
    have HYr := hZ9 (show Y.heap[wo.heap.size]? = some (Obj.cells #[.int .i64 x1, .int .i64 x2] 24) by rw [hY]; exact heap_alloc_new _ _)
    have HbY := hZ9 (Hb.out.trans (hbY.mono Hb.out.size))
    have HownY := hZ9 (ownsRow_below Hown.out hbY)
    have HY := hZ9 hY
    have hwY : wo.heap.size < Y.heap.size := (ltB9 HYr.out)
    clear hbY hY
    go_upto_region 6 with (fail)
    rw [← HY.out]
    by_cases hO : O = []
    · subst hO
      have hj0 : decide ((0 : Int) < 0) = false := by decide
      go_big_quiet (fail)
      obtain ⟨w2, hV⟩ : ∃ w2, w2 = Y.drewN nq := ⟨_, rfl⟩
      have hY2 : Below Y.heap.size Y w2 := by rw [hV]; exact below_drewN2 (Below.refl _ _) _
      rw [← hV]
      clear hV x0 x1c
      have HbA := hZ9 (HbY.out.trans (hY2.mono HbY.out.size))
      have HownA := hZ9 (ownsRow_below HownY.out hY2)
      have rA := (hY2.block _ hwY).trans HYr.out
      have c0 := cell_of_row w2 _ 0 _ _ _ rA
      have c1 := cell_of_row w2 _ 1 _ _ _ rA
      have hbs := HbA.out.size
      have HX := hZ9 (RecAt.one (c := perCells) (sz := 2) w2 (x1, x2) 24 #[.int .i64 x1, .int .i64 x2] rfl)
      clear rA hY2
      go_upto_region 8 with (fail)
      go_wp2_with (at_builtin; refine append_rec2 (c := perCells) (sz := 2) (fun _ => rfl) per_one2 24 60 _ 16 Try.underlying60 Try.perInfo rfl (by decide) rfl _ _ rfl w.heap.size ?hs _ _ [] [(x1, x2)] rfl rfl (HownA.out.alloc _) HX.out ?hl ?hb ?_)
      case hs => simp <;> omega
      case hl => unfold maxLen; simp <;> omega
      case hb => simp <;> omega
      intro R hR v5 w5 own5 hg5
      have HRe := hZ9 (show R = [] ++ [(x1, x2)] by rw [hR.out]; first | rfl | simp)
      have Own5 := hZ9 own5
      have Hb5 := hZ9 ((HbA.out.alloc hbs _).grown hg5 (by simp <;> omega) (fun g hg => (ownsRow_block HownA.out g hg).1))
      clear own5 hg5 hR hbs
      go_wp2
      exact ⟨⟨k + 1, R, by omega, by go_num, hZ9 (by rw [HRe.out, HTk.out, ← HP.out]; exact rfl), Own5.out, Hb5.out⟩, by simp [intOf]; omega⟩
    obtain ⟨M, q, rfl⟩ : ∃ M q, O = M ++ [q] := ⟨_, _, (List.dropLast_concat_getLast hO).symm⟩
    clear hO
    obtain ⟨g0, rfl, hln, hgB, hgl, hownM, hcell⟩ := own_last (c := perCells) (sz := 2) (fun _ => rfl) HownY.out
    have HownM := hZ9 hownM
    have z0 : Y.cell? ⟨g0, M.length * 2, none⟩ = some (.int .i64 q.1) := hcell 0 (by decide)
    have z1 : Y.cell? ⟨g0, M.length * 2 + 1, none⟩ = some (.int .i64 q.2) := hcell 1 (by decide)
    rw [hln] at hc1 hOl ⊢
    have hj1 : IntKind.i64.wrap ((M.length : Int) + 1 - 1) = (M.length : Int) := by rw [Int.add_sub_cancel]; exact IntWalk.i64_in _ (by omega)
    have hj2 : (0 : Int) < (M.length : Int) + 1 := by omega
    have hj3 : ((M.length : Int) + 1).toNat = M.length + 1 := by omega
    have hj4 : IntKind.i64.wrap (M.length : Int) = (M.length : Int) := IntWalk.i64_in _ (by omega)
    have hj5 : (0 : Int) ≤ (M.length : Int) := Int.natCast_nonneg _
    have hj6 : (M.length : Int) < (M.length : Int) + 1 := by omega
    have J := hZ9 (And.intro hj1 (And.intro hj2 (And.intro hj3 (And.intro hj4 (And.intro hj5 hj6)))))
    clear hownM hcell
    obtain ⟨q1, q2⟩ := q
    dsimp only at z0 z1
    have HownL := hZ9 (show Y.ownsRow w.heap.size 24 2 (.slice (some ⟨g0, 0, none⟩) (M.length + 1) cp) (M ++ [(q1, q2)]).length ((M ++ [(q1, q2)]).flatMap perCells) by rw [show (M ++ [(q1, q2)]).length = M.length + 1 by simp]; exact HownM.out)
    have Hyc := hZ9 (show ∀ p : BelowOf Y, p.w.cell? ⟨wo.heap.size, 0, none⟩ = some (.int .i64 x1) ∧ p.w.cell? ⟨wo.heap.size, 1, none⟩ = some (.int .i64 x2) from fun p => by
     have r := (p.h.block _ hwY).trans HYr.out
     exact ⟨cell_of_row p.w _ 0 _ _ _ r, cell_of_row p.w _ 1 _ _ _ r⟩)
    have Hzc := hZ9 (show ∀ p : BelowOf Y, p.w.cell? ⟨g0, M.length * 2, none⟩ = some (.int .i64 q1) ∧ p.w.cell? ⟨g0, M.length * 2 + 1, none⟩ = some (.int .i64 q2) from fun p => ⟨BelowOf.cell (a := ⟨g0, M.length * 2, none⟩) hgl z0 p, BelowOf.cell (a := ⟨g0, M.length * 2 + 1, none⟩) hgl z1 p⟩)
    have HT1 := hZ9 (show ∀ W, Below Y.heap.size Y W → Calls Try.prog 40 #[.agg #[.int .i64 q1, .int .i64 q2], .agg #[.int .i64 x1, .int .i64 x2]] W fun e w' => e = .returned (.bool (decide (q2 = x1))) ∧ Below W.heap.size W w' from fun W hW => during1_calls q1 q2 x1 x2 W)
    have hrr := Below.refl Y.heap.size Y
    have y0 := fun p : BelowOf Y => (Hyc.out p).1
    have y1 := fun p : BelowOf Y => (Hyc.out p).2
    have u0 := fun p : BelowOf Y => (Hzc.out p).1
    have u1 := fun p : BelowOf Y => (Hzc.out p).2
    clear x0 x1c z0 z1
    cases htg : decide (q2 = x1) with
    | true =>
     rw [htg] at HT1
     have Htg := hZ9 htg
     clear htg
     refine wp_region_quiet_below hrr (by kernel_rfl) (by kernel_rfl) ?_
     repeat (go_big_quiet_step (first | (go_at_call 40; refine calls_below_of (HT1.out _ (BelowOf.h _)) (fun e w' h => h))))
     refine wpQuiet_nil ?_
     intro w2 hw2
     have hY2 : Below Y.heap.size Y w2 := by obtain ⟨pq, rfl⟩ := hw2; exact pq.h
     clear hw2 y0 y1 u0 u1 hrr
     have HY2 := hZ9 hY2
     have Hown2 := hZ9 (ownsRow_below HownM.out hY2)
     have HT2 := hZ9 (show ∀ W, Below w2.heap.size w2 W → Calls Try.prog 41 #[.agg #[.int .i64 q1, .int .i64 q2], .agg #[.int .i64 x1, .int .i64 x2]] W fun e w' => e = .returned (.agg #[.int .i64 q1, .int .i64 x2]) ∧ Below W.heap.size W w' from fun W hW => during2_calls q1 q2 x1 x2 W)
     have HC2 := hZ9 (show ∀ W, Below w2.heap.size w2 W → (W.cell? ⟨wo.heap.size, 0, none⟩ = some (.int .i64 x1) ∧ W.cell? ⟨wo.heap.size, 1, none⟩ = some (.int .i64 x2)) ∧ (W.cell? ⟨g0, M.length * 2, none⟩ = some (.int .i64 q1) ∧ W.cell? ⟨g0, M.length * 2 + 1, none⟩ = some (.int .i64 q2)) from fun W hW => by
      have hh := HY2.out.trans (hW.mono HY2.out.size)
      exact ⟨Hyc.out ⟨W, hh⟩, Hzc.out ⟨W, hh⟩⟩)
     have HG := hZ9 (show ∀ W, Below w2.heap.size w2 W → W.ownsRow w.heap.size 24 2 (.slice (some ⟨g0, 0, none⟩) (M.length + 1) cp) (M.length + 1) ((M ++ [(q1, q2)]).flatMap perCells) from fun W hW => ownsRow_below Hown2.out hW)
     clear hY2 HT1
     go_upto_region 7 with (fail)
     refine wp_region_free2 (fun W => Below w2.heap.size w2 W) (fun i v _ => v = (match i with | 0 => .slice (some ⟨g0, 0, none⟩) (M.length + 1) cp | 1 => .int .i64 ((M.length : Int) + 1) | 2 => .int .i64 (M.length : Int) | 3 => .func (.func 41) #[] #[] | 4 => .slice (some ⟨g0, 0, none⟩) (M.length + 1) cp | 5 => .int .i64 ((M.length : Int) + 1) | 6 => .int .i64 (M.length : Int) | 7 => .pointer (some ⟨g0, M.length * 2, none⟩) | 8 => .agg #[.int .i64 q1, .int .i64 q2] | 9 => .agg #[.int .i64 x1, .int .i64 x2] | 10 => .agg #[.int .i64 q1, .int .i64 x2] | 11 => .pointer (some ⟨g0, M.length * 2, none⟩) | _ => v)) (by kernel_rfl) (by decide) (by kernel_rfl) (Below.refl _ _).drew ?_
     generalize hfr : (fun v : Nat → Value => _) = fr
     simp only [List.map_cons, List.map_nil, putsL, List.setIfInBounds_toArray, List.set_cons_succ, List.set_cons_zero, Nat.zero_add, Nat.reduceAdd] at hfr
     simp only [FreeOps]
     refine ⟨?_, ?_, ?_, ?_, ?_, ?_, ?_, ?_, ?_, ?_, ?_, ?_, ?_⟩
     · intro v w3 hC hd K hK
       rw [← hfr] at hK ⊢
       go_simp
       exact hK _ _ hC (fun _ _ h => h) rfl
     · intro v w3 hC hd K hK
       rw [← hfr] at hK ⊢
       go_simp
       exact hK _ _ hC (fun _ _ h => h) rfl
     · intro v w3 hC hd K hK
       obtain ⟨f1, -⟩ := hd
       have e1 : v 1 = _ := f1
       obtain ⟨hj1, hj2, hj3, hj4, hj5, hj6⟩ := J.out
       rw [← hfr] at hK ⊢
       simp only [e1] at hK ⊢
       go_simp
       exact hK _ _ hC (fun _ _ h => h) rfl
     · intro v w3 hC hd K hK
       rw [← hfr] at hK ⊢
       go_simp
       exact hK _ _ hC (fun _ _ h => h) rfl
     · intro v w3 hC hd K hK
       rw [← hfr] at hK ⊢
       go_simp
       exact hK _ _ hC (fun _ _ h => h) rfl
     · intro v w3 hC hd K hK
       rw [← hfr] at hK ⊢
       go_simp
       exact hK _ _ hC (fun _ _ h => h) rfl
     · intro v w3 hC hd K hK
       obtain ⟨f5, -⟩ := hd
       have e5 : v 5 = _ := f5
       obtain ⟨hj1, hj2, hj3, hj4, hj5, hj6⟩ := J.out
       rw [← hfr] at hK ⊢
       simp only [e5] at hK ⊢
       go_simp
       exact hK _ _ hC (fun _ _ h => h) rfl
     · intro v w3 hC hd K hK
       obtain ⟨f4, f6, -⟩ := hd
       have e4 : v 4 = _ := f4
       have e6 : v 6 = _ := f6
       obtain ⟨hj1, hj2, hj3, hj4, hj5, hj6⟩ := J.out
       rw [← hfr] at hK ⊢
       simp only [e4, e6] at hK ⊢
       go_simp
       exact hK _ _ hC (fun _ _ h => h) rfl
     · intro v w3 hC hd K hK
       obtain ⟨f7, -⟩ := hd
       have e7 : v 7 = _ := f7
       obtain ⟨-, c0, c1⟩ := HC2.out w3 hC
       rw [← hfr] at hK ⊢
       simp only [e7] at hK ⊢
       go_simp
       exact hK _ _ hC (fun _ _ h => h) rfl
     · intro v w3 hC hd K hK
       obtain ⟨⟨c0, c1⟩, -⟩ := HC2.out w3 hC
       rw [← hfr] at hK ⊢
       go_simp
       exact hK _ _ hC (fun _ _ h => h) rfl
     · intro v w3 hC hd K hK
       obtain ⟨f3, f8, f9, -⟩ := hd
       have e3 : v 3 = _ := f3
       have e8 : v 8 = _ := f8
       have e9 : v 9 = _ := f9
       rw [← hfr] at hK ⊢
       simp only [e3, e8, e9] at hK ⊢
       go_simp
       refine (HT2.out w3 hC).mono ?_
       rintro e w4 ⟨rfl, hb4⟩
       exact hK _ _ (hC.trans (hb4.mono hC.size)) (fun _ _ h => h) rfl
     · intro v w3 hC hd K hK
       obtain ⟨f0, f2, -⟩ := hd
       have e0 : v 0 = _ := f0
       have e2 : v 2 = _ := f2
       obtain ⟨hj1, hj2, hj3, hj4, hj5, hj6⟩ := J.out
       rw [← hfr] at hK ⊢
       simp only [e0, e2] at hK ⊢
       go_simp
       exact hK _ _ hC (fun _ _ h => h) rfl
     intro v w3 hC hall
     obtain ⟨-, e10, e11⟩ : _ ∧ v 10 = _ ∧ v 11 = _ := ⟨trivial, hall.1.2, hall.2⟩
     have hownG := HG.out w3 hC
     obtain ⟨so, sg⟩ := own_setCells (perCells (q1, x2)) _ (M.length * 2) _ hownG
     rw [show M.length * 2 = M.length * 2 + 0 from rfl, flat_last_set (c := perCells) (sz := 2) (fun _ => rfl) M (q1, q2) (q1, x2) 0 (perCells (q1, x2)) rfl rfl] at so
     refine wp_store_mid _ _ _ rfl g0 (M.length * 2) (perCells (q1, x2)).toArray (by rw [← hfr]; exact e11) (by rw [← hfr]; exact e10) (own_there2 hownG (M.length * 2) 2 (by omega)) (by kernel_rfl) (by simp [perCells, Value.oneCell']) ?_
     have SO := hZ9 (show (w3.setCells g0 (M.length * 2) (perCells (q1, x2)).toArray.toList).ownsRow w.heap.size 24 2 (.slice (some ⟨g0, 0, none⟩) (M.length + 1) cp) (M ++ [(q1, x2)]).length ((M ++ [(q1, x2)]).flatMap perCells) by rw [List.length_append, List.length_singleton]; exact so)
     have SB := hZ9 (show Below w.heap.size w (w3.setCells g0 (M.length * 2) (perCells (q1, x2)).toArray.toList) from ((HbY.out.trans (HY2.out.mono HbY.out.size)).trans (hC.mono (by have := HY2.out.size; have := HbY.out.size; omega))).grown sg (by have := HY2.out.size; have := HbY.out.size; have := hC.size; omega) (fun g hg => by cases hg; exact hgB))
     rw [← hfr]
     generalize (w3.setCells g0 (M.length * 2) (perCells (q1, x2)).toArray.toList) = w4 at *
     clear so sg hownG
     generalize v 0 = y0, v 1 = y1, v 2 = y2, v 3 = y3, v 4 = y4, v 5 = y5, v 6 = y6, v 7 = y7, v 8 = y8, v 9 = y9, v 10 = y10, v 11 = y11
     clear hfr hall hC e10 e11
     have HE := hZ9 (chStep_eq M (q1, q2) x1 x2 (of_decide_eq_true Htg.out))
     obtain ⟨hj1, hj2, hj3, hj4, hj5, hj6⟩ := J.out
     go_wp2
     exact ⟨⟨k + 1, M ++ [(q1, x2)], by omega, by go_num, hZ9 (by rw [HTk.out, ← HP.out]; exact HE.out.symm), SO.out, SB.out⟩, by simp [intOf]; omega⟩
    | false =>
     rw [htg] at HT1
     have Htg := hZ9 htg
     clear htg
     refine wp_region_quiet_below hrr (by kernel_rfl) (by kernel_rfl) ?_
     repeat (go_big_quiet_step (first | (go_at_call 40; refine calls_below_of (HT1.out _ (BelowOf.h _)) (fun e w' h => h))))
     refine wpQuiet_nil ?_
     intro w2 hw2
     have hY2 : Below Y.heap.size Y w2 := by obtain ⟨pq, rfl⟩ := hw2; exact pq.h
     clear hw2 y0 y1 u0 u1 hrr hj1 hj2 hj3 hj4 hj5 hj6
     have HbA := hZ9 (HbY.out.trans (hY2.mono HbY.out.size))
     have HownA := hZ9 (ownsRow_below HownL.out hY2)
     have rA := (hY2.block _ hwY).trans HYr.out
     have c0 := cell_of_row w2 _ 0 _ _ _ rA
     have c1 := cell_of_row w2 _ 1 _ _ _ rA
     have hbs := HbA.out.size
     have HX := hZ9 (RecAt.one (c := perCells) (sz := 2) w2 (x1, x2) 24 #[.int .i64 x1, .int .i64 x2] rfl)
     clear rA hY2
     go_upto_region 8 with (fail)
     go_wp2_with (at_builtin; refine append_rec2 (c := perCells) (sz := 2) (fun _ => rfl) per_one2 24 60 _ 16 Try.underlying60 Try.perInfo rfl (by decide) rfl _ _ rfl w.heap.size ?hs _ _ (M ++ [(q1, q2)]) [(x1, x2)] rfl rfl (HownA.out.alloc _) HX.out ?hl ?hb ?_)
     case hs => simp <;> omega
     case hl => unfold maxLen; simp <;> omega
     case hb => simp <;> omega
     intro R hR v5 w5 own5 hg5
     have HRe := hZ9 (show R = (M ++ [(q1, q2)]) ++ [(x1, x2)] by rw [hR.out]; first | rfl | simp)
     have Own5 := hZ9 own5
     have Hb5 := hZ9 ((HbA.out.alloc hbs _).grown hg5 (by simp <;> omega) (fun g hg => (ownsRow_block HownA.out g hg).1))
     clear own5 hg5 hR hbs
     go_wp2
     exact ⟨⟨k + 1, R, by omega, by go_num, hZ9 (by rw [HRe.out, HTk.out, ← HP.out]; exact (chStep_ne M (q1, q2) x1 x2 (of_decide_eq_false Htg.out)).symm), Own5.out, Hb5.out⟩, by simp [intOf]; omega⟩
  have HE := hZ9 (show O = joinP L by rw [HP.out, List.take_of_length_le (by omega)])
  go_wp2
  go_ret
  exact ⟨_, rfl, by rw [← HE.out]; exact Hown.out, Hb.out⟩
theorem during_own (v : Value) (l : List Ev) (n : Int) (s : ByteArray) (gb : Nat) (w : World) (h : EvsAt w v l) (hl : l.length ≤ 1000) (hgb : gb < w.heap.size) (hc : w.cell? ⟨gb, 0, none⟩ = some (.string s)) :
 Calls Try.prog 28 #[v, .int .i64 n, .func (.func 29) #[] #[.pointer (some ⟨gb, 0, none⟩)]] w (PersW w (actL n s l)) := by
 have HSp := hZ9 (spells_calls v l n w h hl)
 have HSl := hZ9 (spellsL_len n l)
 have Hc := hZ9 hc
 obtain ⟨av, cap, rfl, hcl, hcm⟩ := rec_shape h.1
 clear h hcl hcm hc
 go_enter Try.func28, Try.ntmps28
 go_wp2_with fail
 refine HSp.out.mono ?_
 rintro e w2 ⟨a2, c2, S, rfl, own2, hp2, hok2, hb2⟩
 have hSl : S.length ≤ 1000 := by
  have h := HSl.out
  rw [← hp2, plainSp_len] at h; omega
 obtain ⟨ax, cx, ecx, hcx1, hcx2⟩ := own_shape own2
 cases ecx
 unfold maxLen at hcx2
 have HpS := hZ9 hp2
 have HokS := hZ9 hok2
 have HS := hZ9 (show RecAt spCells 6 w2 (.slice a2 S.length c2) S from RecAt.own (fun _ => rfl) own2)
 have Hb2 := hZ9 hb2
 have Hc2 := hZ9 (show w2.cell? ⟨gb, 0, none⟩ = some (.string s) from (hb2.cell (p := ⟨gb, 0, none⟩) hgb).trans Hc.out)
 have hgb2 : gb < w2.heap.size := Nat.lt_of_lt_of_le hgb hb2.size
 clear own2 hp2 hok2 hb2 HSp HSl hgb Hc
 go_wp2_with fail
 go_loopw [7, 14] (fun vo i wr => ∃ (k : Nat) (O : List (Int × Int)), k ≤ S.length ∧ i = .int .i64 k ∧ RowKit.Hid (O = keptP (fun a => hasT s a.s) ((plainSp S).take k)) ∧ wr.ownsRow w2.heap.size 24 2 vo O.length (O.flatMap perCells) ∧ Below w2.heap.size w2 wr) (fun _ i _ => S.length - (intOf i).toNat)
 case atStart => exact ⟨0, [], Nat.zero_le _, rfl, hZ9 rfl, World.ownsRow_nil _ _ _ _, Below.refl _ _⟩
 case round =>
  obtain ⟨wo, rfl⟩ : ∃ wo : World, wo = wr := ⟨_, rfl⟩
  obtain ⟨k, O, hk, rfl, HP, hown, hb⟩ := hrel
  obtain ⟨a, cp, rfl, hc1, hc2⟩ := own_shape hown
  unfold maxLen at hc2
  have Hown := hZ9 hown
  have Hb := hZ9 hb
  have hOl : O.length ≤ 1000 := by
   have h := keptP_len (fun a => hasT s a.s) ((plainSp S).take k)
   rw [← HP.out, List.length_take] at h; omega
  by_cases hlt : k < S.length
  · have hk1 : (k : Int) < (S.length : Int) := by omega
    have hk0 : (0 : Int) ≤ (k : Int) := Int.natCast_nonneg _
    have HTk := hZ9 (keptP_take (fun a => hasT s a.s) (plainSp S) k (by rw [plainSp_len]; exact hlt))
    rw [plainSp_get S k hlt] at HTk
    have HSo := hZ9 ((HokS.out _ (List.getElem_mem hlt)).below hb)
    have HSw := hZ9 (HS.out.below hb)
    obtain ⟨a3, c3, e3, -, -, hx⟩ := HSw.out
    cases e3
    obtain ⟨bb, o, rfl, hB, hx⟩ := hx (by rintro rfl; cases hlt)
    have hx := hx k hlt
    have x0 : wo.cell? ⟨bb, o + k * 6, none⟩ = some (.int .i64 (S[k]).1) := hx 0 (by decide)
    have x1 : wo.cell? ⟨bb, o + k * 6 + 1, none⟩ = some (.int .i64 (S[k]).2.1) := hx 1 (by decide)
    have x2 : wo.cell? ⟨bb, o + k * 6 + 2, none⟩ = some (.string (S[k]).2.2.s.plan) := hx 2 (by decide)
    have x3 : wo.cell? ⟨bb, o + k * 6 + 3, none⟩ = some (.slice (S[k]).2.2.pa (S[k]).2.2.pn (S[k]).2.2.pc) := hx 3 (by decide)
    have x4 : wo.cell? ⟨bb, o + k * 6 + 4, none⟩ = some (.bool (S[k]).2.2.s.su) := hx 4 (by decide)
    have x5 : wo.cell? ⟨bb, o + k * 6 + 5, none⟩ = some (.bool (S[k]).2.2.s.fa) := hx 5 (by decide)
    clear hx hown
    generalize S[k] = x at *
    obtain ⟨Y, hY⟩ : ∃ Y, Y = wo.alloc (Obj.cells #[.int .i64 x.1, .int .i64 x.2.1, .string x.2.2.s.plan, .slice x.2.2.pa x.2.2.pn x.2.2.pc, .bool x.2.2.s.su, .bool x.2.2.s.fa] 82) := ⟨_, rfl⟩
    have hbY : Below wo.heap.size wo Y := by rw [hY]; go_grown
    have HYr := hZ9 (show Y.heap[wo.heap.size]? = some (Obj.cells #[.int .i64 x.1, .int .i64 x.2.1, .string x.2.2.s.plan, .slice x.2.2.pa x.2.2.pn x.2.2.pc, .bool x.2.2.s.su, .bool x.2.2.s.fa] 82) by rw [hY]; exact heap_alloc_new _ _)
    have HbYo := hZ9 hbY
    have HbY := hZ9 (Hb.out.trans (hbY.mono Hb.out.size))
    have HCall := hZ9 (active1_calls x s gb w.heap.size Y (HSo.out.below hbY) (Nat.lt_of_lt_of_le hgb2 (Nat.le_trans Hb.out.size hbY.size)) ((HbY.out.cell (p := ⟨gb, 0, none⟩) hgb2).trans Hc2.out))
    have HY := hZ9 hY
    have hwY : wo.heap.size < Y.heap.size := (ltB9 HYr.out)
    clear hbY hY hb
    have y0 : Y.cell? ⟨wo.heap.size, 0, none⟩ = some (.int .i64 x.1) := cell_of_row Y _ 0 _ _ _ HYr.out
    have y1 : Y.cell? ⟨wo.heap.size, 1, none⟩ = some (.int .i64 x.2.1) := cell_of_row Y _ 1 _ _ _ HYr.out
    have y2 : Y.cell? ⟨wo.heap.size, 2, none⟩ = some (.string x.2.2.s.plan) := cell_of_row Y _ 2 _ _ _ HYr.out
    have y3 : Y.cell? ⟨wo.heap.size, 3, none⟩ = some (.slice x.2.2.pa x.2.2.pn x.2.2.pc) := cell_of_row Y _ 3 _ _ _ HYr.out
    have y4 : Y.cell? ⟨wo.heap.size, 4, none⟩ = some (.bool x.2.2.s.su) := cell_of_row Y _ 4 _ _ _ HYr.out
    have y5 : Y.cell? ⟨wo.heap.size, 5, none⟩ = some (.bool x.2.2.s.fa) := cell_of_row Y _ 5 _ _ _ HYr.out
    go_upto_region 5 with (fail)
    rw [← HY.out]
    go_wp2_with fail
    refine HCall.out.mono ?_
    rintro e w3 ⟨rfl, hb3⟩
    have HY3 := hZ9 ((hb3.block _ hwY).trans HYr.out)
    have Hb3 := hZ9 (HbY.out.trans (hb3.mono HbY.out.size))
    have Hown3 := hZ9 (ownsRow_below Hown.out (HbYo.out.trans (hb3.mono HbYo.out.size)))
    clear hb3 x0 x1 x2 x3 x4 x5 y0 y1 y2 y3 y4 y5
    cases hh : hasT s x.2.2.s with
    | false =>
     have HE := hZ9 (show O = keptP (fun a => hasT s a.s) ((plainSp S).take (k + 1)) by rw [HTk.out, HP.out, hh, if_neg (by decide), List.append_nil])
     clear hh
     go_wp2
     exact ⟨⟨k + 1, O, by omega, by go_num, HE, Hown3.out, Hb3.out⟩, by simp [intOf]; omega⟩
    | true =>
     have HE := hZ9 (show O ++ [(x.1, x.2.1)] = keptP (fun a => hasT s a.s) ((plainSp S).take (k + 1)) by rw [HTk.out, HP.out, hh, if_pos rfl])
     clear hh
     have z0 : w3.cell? ⟨wo.heap.size, 0, none⟩ = some (.int .i64 x.1) := cell_of_row w3 _ 0 _ _ _ HY3.out
     have z1 : w3.cell? ⟨wo.heap.size, 1, none⟩ = some (.int .i64 x.2.1) := cell_of_row w3 _ 1 _ _ _ HY3.out
     have HX := hZ9 (RecAt.one (c := perCells) (sz := 2) w3 (x.1, x.2.1) 24 #[.int .i64 x.1, .int .i64 x.2.1] rfl)
     have hbs := Hb3.out.size
     go_wp2_with (at_builtin; refine append_rec2 (c := perCells) (sz := 2) (fun _ => rfl) per_one2 24 60 _ 16 Try.underlying60 Try.perInfo rfl (by decide) rfl _ _ rfl w2.heap.size ?hs _ _ O [(x.1, x.2.1)] rfl rfl (Hown3.out.alloc _) HX.out ?hl ?hb ?_)
     case hs => simp <;> omega
     case hl => unfold maxLen; simp <;> omega
     case hb => simp <;> omega
     intro R hR v5 w5 own5 hg5
     have HRe := hZ9 (hR.out.trans HE.out)
     have Own5 := hZ9 own5
     have Hb5 := hZ9 ((Hb3.out.alloc hbs _).grown hg5 (by simp <;> omega) (fun g hg => (ownsRow_block Hown3.out g hg).1))
     clear own5 hg5 hR hbs
     go_wp2
     exact ⟨⟨k + 1, R, by omega, by go_num, HRe, Own5.out, Hb5.out⟩, by simp [intOf]; omega⟩
  have HE := hZ9 (show joinP O = actL n s l by
   have e : k = (plainSp S).length := by rw [plainSp_len]; omega
   rw [HP.out, e, List.take_of_length_le (Nat.le_refl _), HpS.out]; rfl)
  have HJ := hZ9 (joinedP_own (.slice a O.length cp) O wo (RecAt.own (fun _ => rfl) Hown.out) (by omega))
  clear hown hb
  go_wp2_with fail
  refine HJ.out.mono ?_
  rintro e w3 ⟨v3, rfl, hp3, hb3⟩
  have Hp3 := hZ9 hp3
  have Hb3 := hZ9 (Hb2.out.trans ((Hb.out.trans (hb3.mono Hb.out.size)).mono Hb2.out.size))
  clear hp3 hb3
  go_wp2
  go_ret
  exact ⟨_, rfl, by rw [← HE.out]; exact own_down Hp3.out (by have := Hb2.out.size; have := Hb.out.size; omega), Hb3.out⟩
theorem active_own (v : Value) (l : List Ev) (n : Int) (s : ByteArray) (w : World) (h : EvsAt w v l) (hl : l.length ≤ 1000) :
 Calls Try.prog 20 #[v, .int .i64 n, .string s] w (PersW w (actL n s l)) := by
 obtain ⟨W, hW⟩ : ∃ W, W = w.alloc (Obj.cells #[Value.string s] 9) := ⟨_, rfl⟩
 have hw0 : Below w.heap.size w W := by rw [hW]; go_grown
 have r0 : W.heap[w.heap.size]? = some (Obj.cells #[Value.string s] 9) := by rw [hW]; exact heap_alloc_new _ _
 have HD := hZ9 (during_own v l n s w.heap.size W (h.below hw0) hl (ltB9 r0) (cell_of_row W _ 0 _ _ _ r0))
 have HW := hZ9 hW
 have Hw0 := hZ9 hw0
 obtain ⟨av, cap, rfl, hcl, hcm⟩ := rec_shape h.1
 clear h hW hw0 r0 hcl hcm
 go_enter Try.func20, Try.ntmps20
 go_upto_region 1 with (fail)
 rw [← HW.out]
 go_wp2_with fail
 refine HD.out.mono ?_
 rintro e w3 ⟨v3, rfl, hp3, hb3⟩
 have Hp3 := hZ9 hp3
 have Hb3 := hZ9 (Hw0.out.trans (hb3.mono Hw0.out.size))
 clear hp3 hb3
 go_wp2
 go_ret
 exact ⟨_, rfl, own_down Hp3.out Hw0.out.size, Hb3.out⟩
end Go.Proofs.Ytngippiilgdnoaa
namespace Go.Proofs.Ytngippiilgdnoaa
open Go.RowKit
open Go.RowKit
abbrev Du := Int × (Int × Int)
def befD (x y : Du) : Prop := x.2.2 < y.2.2 ∨ (x.2.2 = y.2.2 ∧ x.1 < y.1)
instance befDDec (x y : Du) : Decidable (befD x y) := inferInstanceAs (Decidable (_ ∨ (_ ∧ _)))
theorem befD_asym {a b : Du} (h1 : befD a b) (h2 : befD b a) : False := by unfold befD at h1 h2; omega
noncomputable def moOf (a t : Int) : Int := by
 classical exact if h : ∃ m, IsMo a t m then h.choose else 0
theorem moOf_is {a t : Int} (h0 : 0 ≤ t) (h1 : t < 12622780800) : IsMo a t (moOf a t) := by
 classical
 unfold moOf
 rw [dif_pos (IsMo.ex a t h0 h1)]
 exact (IsMo.ex a t h0 h1).choose_spec
theorem cycL_pair {a : Int} (ha : 1 ≤ a) (hb : a ≤ 28) (lo hi : Int) : (cycL a lo hi).Pairwise fun c d => c.2 ≤ d.1 := by
 unfold cycL
 rw [List.pairwise_map]
 refine List.Pairwise.imp (fun {i j} hij => ?_) (List.pairwise_lt_range (n := (hi + 1 - lo).toNat))
 exact beg_mono ha hb (by omega)
def IsDue (l : List Ev) (a b : Int) (d : Du) : Prop := ∃ e ∈ l, e.kd = 1 ∧ e.ac = d.1 ∧ ∃ m, -1 ≤ m ∧ m ≤ 4799 ∧ d.2 = cyc e.vl m ∧ meetsL e.tm (closeT l e.ac) d.2 = true ∧ a < d.2.2 ∧ d.2.2 ≤ b
structure DueOk (l : List Ev) (a b : Int) (D : List Du) : Prop where
 srt : D.Pairwise befD
 mem : ∀ d, d ∈ D ↔ IsDue l a b d
theorem DueOk.one {l : List Ev} {a b : Int} {D E : List Du} (h : DueOk l a b D) (g : DueOk l a b E) : D = E := by
 have nd : ∀ {D : List Du}, D.Pairwise befD → D.Nodup := fun h => h.imp fun {x y} h e => by subst e; exact befD_asym h h
 refine List.Perm.eq_of_pairwise (le := befD) (fun a b _ _ x y => (befD_asym x y).elim) h.srt g.srt ?_
 rw [List.perm_ext_iff_of_nodup (nd h.srt) (nd g.srt)]
 intro d
 rw [h.mem, g.mem]
theorem DueOk.append {l : List Ev} {a b c : Int} {D E : List Du} (hab : a ≤ b) (hbc : b ≤ c) (h : DueOk l a b D) (g : DueOk l b c E) : DueOk l a c (D ++ E) := by
 constructor
 · refine List.pairwise_append.2 ⟨h.srt, g.srt, fun x hx y hy => ?_⟩
   obtain ⟨_, _, _, _, _, _, _, _, _, _, h1⟩ := (h.mem x).1 hx
   obtain ⟨_, _, _, _, _, _, _, _, _, h2, _⟩ := (g.mem y).1 hy
   exact Or.inl (by omega)
 intro d
 rw [List.mem_append, h.mem, g.mem]
 constructor
 · rintro (⟨e, h1, h2, h3, m, h4, h5, h6, h7, h8, h9⟩ | ⟨e, h1, h2, h3, m, h4, h5, h6, h7, h8, h9⟩)
   · exact ⟨e, h1, h2, h3, m, h4, h5, h6, h7, h8, by omega⟩
   exact ⟨e, h1, h2, h3, m, h4, h5, h6, h7, by omega, h9⟩
 rintro ⟨e, h1, h2, h3, m, h4, h5, h6, h7, h8, h9⟩
 by_cases hb : d.2.2 ≤ b
 · exact Or.inl ⟨e, h1, h2, h3, m, h4, h5, h6, h7, h8, hb⟩
 exact Or.inr ⟨e, h1, h2, h3, m, h4, h5, h6, h7, by omega, h9⟩
open Go.RowKit
open Go.RowKit
end Go.Proofs.Ytngippiilgdnoaa
namespace Go.Proofs.Ytngippiilgdnoaa
open Go.RowKit
structure SpE (w : World) (o : Value) (p : Int × Int × SbX) : Prop where
 st : StrsAt w (.slice p.2.2.pa p.2.2.pn p.2.2.pc) p.2.2.s.prs
 pl : p.2.2.s.plan.size ≤ maxLen
 sp : PlainA p.2.2.pa
 off : p.2.2.s.prs ≠ [] → ∀ ad, p.2.2.pa = some ad → o.ownBlock ≠ some ad.block
theorem SpE.below {w w' : World} {o : Value} {p : Int × Int × SbX} (h : SpE w o p) (hb : Below w.heap.size w w') : SpE w' o p := ⟨h.st.below hb, h.pl, h.sp, h.off⟩
theorem SpE.turn {w w' : World} {o o' : Value} {p : Int × Int × SbX} (h : SpE w o p) (hg : w.grownBy w' o.ownBlock) (ho : ∀ g, o'.ownBlock = some g → o.ownBlock = some g ∨ w.heap.size ≤ g) : SpE w' o' p := by
 by_cases hne : p.2.2.s.prs = []
 · refine ⟨?_, h.pl, h.sp, fun h => absurd hne h⟩
   obtain ⟨av, cap, e, h1, h2, -⟩ := h.st
   rw [e, hne]
   rw [hne] at h1
   exact ⟨av, cap, rfl, h1, h2, fun h => absurd rfl h⟩
 obtain ⟨av, cap, e, h1, h2, h3⟩ := h.st
 obtain ⟨b, o2, e2, hB, hx⟩ := h3 hne
 have hpa : p.2.2.pa = some ⟨b, o2, none⟩ := by
  simp only [Value.slice.injEq] at e
  rw [e.1, e2]
 have hoff := h.off hne _ hpa
 have hbl : w'.heap[b]? = w.heap[b]? := hg.block b hB (fun e => hoff e.symm)
 refine ⟨⟨av, cap, e, h1, h2, fun _ => ⟨b, o2, e2, Nat.lt_of_lt_of_le hB hg.size, fun i hi => ⟨(World.cell?_of_block (a := ⟨b, _, none⟩) hbl).trans (hx i hi).1, (hx i hi).2⟩⟩⟩, h.pl, h.sp, fun _ ad had hq => ?_⟩
 rw [hpa] at had
 cases had
 rcases ho b hq with h | h
 · exact hoff h
 omega
end Go.Proofs.Ytngippiilgdnoaa
