/-
  The walk of the reference's spells.
-/
import Derived.Test.YtngippiilgdnoaaGreatMkay
set_option maxRecDepth 100000
set_option maxHeartbeats 25600000
namespace Go.Proofs.YtngippiilgdnoaaGreat
open Go.RowKit
def MmJ (L : List (Int × SbX)) (w : World) (e : Ending) (w' : World) : Prop := ∃ (a : Option Addr) (c : Nat) (X : List (Int × SbX)), e = .returned (.slice a X.length c) ∧ w'.ownsRow w.heap.size 239 9 (.slice a X.length c) X.length (X.flatMap mmCells) ∧ plainM X = jmL (plainM L) ∧ (∀ p ∈ X, p ∈ L) ∧ Below w.heap.size w w'
theorem joinedM_take (L : List (Int × SbX)) (k : Nat) (h : k < L.length) : jmL ((plainM L).take (k + 1)) = jmStep (jmL ((plainM L).take k)) ((L[k]).1, (L[k]).2.s) := by
 rw [jmL_take (plainM L) k (by rw [plainM_len]; exact h)]
 unfold plainM
 rw [List.getElem_map]
theorem joinedM_calls (base : Nat) (v : Value) (L : List (Int × SbX)) (w : World) (h : RecAt mmCells 9 w v L) (hl : L.length ≤ 10000) (hok : MmsOk base w L) :
 Calls Tryz.prog 178 #[v, .func (.func 180) #[] #[], .func (.func 182) #[] #[]] w (MmJ L w) := by
 have HA := hZ9 h
 have HOk := hZ9 hok
 obtain ⟨av, cap, rfl, hcl, hcm⟩ := rec_shape h
 unfold maxLen at hcm
 clear h hok
 go_enter Tryz.func178, Tryz.ntmps178
 go_wp2_with fail
 go_loopw [7, 13] (fun vo i wr => ∃ (k : Nat) (O : List (Int × SbX)), k ≤ L.length ∧ i = .int .i64 k ∧ RowKit.Hid (plainM O = jmL ((plainM L).take k) ∧ ∀ p ∈ O, p ∈ L) ∧ wr.ownsRow w.heap.size 239 9 vo O.length (O.flatMap mmCells) ∧ Below w.heap.size w wr) (fun _ i _ => L.length - (intOf i).toNat)
 case atStart => exact ⟨0, [], Nat.zero_le _, rfl, hZ9 (⟨rfl, fun p hp => by cases hp⟩), World.ownsRow_nil _ _ _ _, Below.refl _ _⟩
 case round =>
  obtain ⟨wo, rfl⟩ : ∃ wo : World, wo = wr := ⟨_, rfl⟩
  obtain ⟨k, O, hk, rfl, HP, hown, hb⟩ := hrel
  obtain ⟨a, cp, rfl, hc1, hc2⟩ := own_shape hown
  unfold maxLen at hc2
  have Hown := hZ9 hown
  have Hb := hZ9 hb
  have hOl : O.length ≤ k := by rw [← plainM_len O, HP.out.1]; exact jmL_len _ k (by rw [plainM_len]; exact hk)
  by_cases hlt : k < L.length
  · have hk1 : (k : Int) < (L.length : Int) := by omega
    have hk0 : (0 : Int) ≤ (k : Int) := Int.natCast_nonneg _
    have HTk := hZ9 (joinedM_take L k hlt)
    have HMem := hZ9 (List.getElem_mem hlt : L[k] ∈ L)
    obtain ⟨a2, c2, e2, -, -, hx⟩ := (HA.out.below hb)
    cases e2
    obtain ⟨bb, o, rfl, hB, hx⟩ := hx (by rintro rfl; cases hlt)
    have hx := hx k hlt
    have x0 : wo.cell? ⟨bb, o + k * 9, none⟩ = some (.int .i64 (L[k]).1) := hx 0 (by decide)
    have x1 : wo.cell? ⟨bb, o + k * 9 + 1, none⟩ = some (.int .i64 (L[k]).2.s.id) := hx 1 (by decide)
    have x2 : wo.cell? ⟨bb, o + k * 9 + 2, none⟩ = some (.int .i64 (L[k]).2.s.ac) := hx 2 (by decide)
    have x3 : wo.cell? ⟨bb, o + k * 9 + 3, none⟩ = some (.int .i64 (L[k]).2.s.si) := hx 3 (by decide)
    have x4 : wo.cell? ⟨bb, o + k * 9 + 4, none⟩ = some (.string (L[k]).2.s.plan) := hx 4 (by decide)
    have x5 : wo.cell? ⟨bb, o + k * 9 + 5, none⟩ = some (.slice (L[k]).2.na (L[k]).2.nn (L[k]).2.nc) := hx 5 (by decide)
    have x6 : wo.cell? ⟨bb, o + k * 9 + 6, none⟩ = some (.slice (L[k]).2.pa (L[k]).2.pn (L[k]).2.pc) := hx 6 (by decide)
    have x7 : wo.cell? ⟨bb, o + k * 9 + 7, none⟩ = some (.bool (L[k]).2.s.su) := hx 7 (by decide)
    have x8 : wo.cell? ⟨bb, o + k * 9 + 8, none⟩ = some (.bool (L[k]).2.s.fa) := hx 8 (by decide)
    clear hx hB hown hb
    generalize L[k] = x at *
    obtain ⟨Y, hY⟩ : ∃ Y, Y = wo.alloc (Obj.cells #[.int .i64 x.1, .int .i64 x.2.s.id, .int .i64 x.2.s.ac, .int .i64 x.2.s.si, .string x.2.s.plan, .slice x.2.na x.2.nn x.2.nc, .slice x.2.pa x.2.pn x.2.pc, .bool x.2.s.su, .bool x.2.s.fa] 239) := ⟨_, rfl⟩
    have hbY : Below wo.heap.size wo Y := by rw [hY]; go_grown
    have HYr := hZ9 (show Y.heap[wo.heap.size]? = some (Obj.cells #[.int .i64 x.1, .int .i64 x.2.s.id, .int .i64 x.2.s.ac, .int .i64 x.2.s.si, .string x.2.s.plan, .slice x.2.na x.2.nn x.2.nc, .slice x.2.pa x.2.pn x.2.pc, .bool x.2.s.su, .bool x.2.s.fa] 239) by rw [hY]; exact heap_alloc_new _ _)
    have HbY := hZ9 (Hb.out.trans (hbY.mono Hb.out.size))
    have HownY := hZ9 (ownsRow_below Hown.out hbY)
    have HY := hZ9 hY
    have hwY : wo.heap.size < Y.heap.size := (ltB9 HYr.out)
    clear hbY hY
    go_upto_region 6 with (fail)
    rw [← HY.out]
    by_cases hO : O = []
    · subst hO
      have hj0 : decide ((0 : Int) < 0) = false := by decide
      go_big_quiet (fail)
      obtain ⟨w2, hV⟩ : ∃ w2, w2 = Y.drewN nq := ⟨_, rfl⟩
      have hY2 : Below Y.heap.size Y w2 := by rw [hV]; exact below_drewN2 (Below.refl _ _) _
      rw [← hV]
      clear hV x0 x1 x2 x3 x4 x5 x6 x7 x8
      have HbA := hZ9 (HbY.out.trans (hY2.mono HbY.out.size))
      have HownA := hZ9 (ownsRow_below HownY.out hY2)
      have rA := (hY2.block _ hwY).trans HYr.out
      have c0 : w2.cell? ⟨wo.heap.size, 0, none⟩ = some (.int .i64 x.1) := cell_of_row w2 _ 0 _ _ _ rA
      have c1 : w2.cell? ⟨wo.heap.size, 1, none⟩ = some (.int .i64 x.2.s.id) := cell_of_row w2 _ 1 _ _ _ rA
      have c2 : w2.cell? ⟨wo.heap.size, 2, none⟩ = some (.int .i64 x.2.s.ac) := cell_of_row w2 _ 2 _ _ _ rA
      have c3 : w2.cell? ⟨wo.heap.size, 3, none⟩ = some (.int .i64 x.2.s.si) := cell_of_row w2 _ 3 _ _ _ rA
      have c4 : w2.cell? ⟨wo.heap.size, 4, none⟩ = some (.string x.2.s.plan) := cell_of_row w2 _ 4 _ _ _ rA
      have c5 : w2.cell? ⟨wo.heap.size, 5, none⟩ = some (.slice x.2.na x.2.nn x.2.nc) := cell_of_row w2 _ 5 _ _ _ rA
      have c6 : w2.cell? ⟨wo.heap.size, 6, none⟩ = some (.slice x.2.pa x.2.pn x.2.pc) := cell_of_row w2 _ 6 _ _ _ rA
      have c7 : w2.cell? ⟨wo.heap.size, 7, none⟩ = some (.bool x.2.s.su) := cell_of_row w2 _ 7 _ _ _ rA
      have c8 : w2.cell? ⟨wo.heap.size, 8, none⟩ = some (.bool x.2.s.fa) := cell_of_row w2 _ 8 _ _ _ rA
      have hbs := HbA.out.size
      have HX := hZ9 (RecAt.one (c := mmCells) (sz := 9) w2 x 239 #[.int .i64 x.1, .int .i64 x.2.s.id, .int .i64 x.2.s.ac, .int .i64 x.2.s.si, .string x.2.s.plan, .slice x.2.na x.2.nn x.2.nc, .slice x.2.pa x.2.pn x.2.pc, .bool x.2.s.su, .bool x.2.s.fa] rfl)
      clear rA hY2
      go_upto_region 8 with (fail)
      go_wp2_with (at_builtin; refine append_rec2 (c := mmCells) (sz := 9) (fun _ => rfl) mm_one 239 236 _ 104 Tryz.underlying236 Tryz.momInfo rfl (by decide) rfl _ _ rfl w.heap.size ?hs _ _ [] [x] rfl rfl (HownA.out.alloc _) HX.out ?hl ?hb ?_)
      case hs => simp <;> omega
      case hl => unfold maxLen; simp <;> omega
      case hb => simp <;> omega
      intro R hR v5 w5 own5 hg5
      have HRe := hZ9 (show R = [] ++ [x] by rw [hR.out]; first | rfl | simp)
      have Own5 := hZ9 own5
      have Hb5 := hZ9 ((HbA.out.alloc hbs _).grown hg5 (by simp <;> omega) (fun g hg => (ownsRow_block HownA.out g hg).1))
      clear own5 hg5 hR hbs
      go_wp2
      exact ⟨⟨k + 1, R, by omega, by go_num, hZ9 (⟨by rw [HRe.out, HTk.out, ← HP.out.1]; exact rfl, fun p hp => by
       rw [HRe.out] at hp
       rcases List.mem_append.1 hp with hp | hp
       · first | exact HP.out.2 p hp | cases hp
       rw [List.mem_singleton.1 hp]; exact HMem.out⟩), Own5.out, Hb5.out⟩, by simp [intOf]; omega⟩
    obtain ⟨M, q, rfl⟩ : ∃ M q, O = M ++ [q] := ⟨_, _, (List.dropLast_concat_getLast hO).symm⟩
    clear hO
    obtain ⟨g0, rfl, hln, hgB, hgl, hownM, hcell⟩ := own_last (c := mmCells) (sz := 9) (fun _ => rfl) HownY.out
    have HownM := hZ9 hownM
    have z0 : Y.cell? ⟨g0, M.length * 9, none⟩ = some (.int .i64 q.1) := hcell 0 (by decide)
    have z1 : Y.cell? ⟨g0, M.length * 9 + 1, none⟩ = some (.int .i64 q.2.s.id) := hcell 1 (by decide)
    have z2 : Y.cell? ⟨g0, M.length * 9 + 2, none⟩ = some (.int .i64 q.2.s.ac) := hcell 2 (by decide)
    have z3 : Y.cell? ⟨g0, M.length * 9 + 3, none⟩ = some (.int .i64 q.2.s.si) := hcell 3 (by decide)
    have z4 : Y.cell? ⟨g0, M.length * 9 + 4, none⟩ = some (.string q.2.s.plan) := hcell 4 (by decide)
    have z5 : Y.cell? ⟨g0, M.length * 9 + 5, none⟩ = some (.slice q.2.na q.2.nn q.2.nc) := hcell 5 (by decide)
    have z6 : Y.cell? ⟨g0, M.length * 9 + 6, none⟩ = some (.slice q.2.pa q.2.pn q.2.pc) := hcell 6 (by decide)
    have z7 : Y.cell? ⟨g0, M.length * 9 + 7, none⟩ = some (.bool q.2.s.su) := hcell 7 (by decide)
    have z8 : Y.cell? ⟨g0, M.length * 9 + 8, none⟩ = some (.bool q.2.s.fa) := hcell 8 (by decide)
    rw [hln] at hc1 hOl ⊢
    have hj1 : IntKind.i64.wrap ((M.length : Int) + 1 - 1) = (M.length : Int) := by rw [Int.add_sub_cancel]; exact IntWalk.i64_in _ (by omega)
    have hj2 : (0 : Int) < (M.length : Int) + 1 := by omega
    have hj3 : ((M.length : Int) + 1).toNat = M.length + 1 := by omega
    have hj4 : IntKind.i64.wrap (M.length : Int) = (M.length : Int) := IntWalk.i64_in _ (by omega)
    have hj5 : (0 : Int) ≤ (M.length : Int) := Int.natCast_nonneg _
    have hj6 : (M.length : Int) < (M.length : Int) + 1 := by omega
    have J := hZ9 (And.intro hj1 (And.intro hj2 (And.intro hj3 (And.intro hj4 (And.intro hj5 hj6)))))
    clear hownM hcell
    have HQm := hZ9 (HP.out.2 q (by simp))
    have HownL := hZ9 (show Y.ownsRow w.heap.size 239 9 (.slice (some ⟨g0, 0, none⟩) (M.length + 1) cp) (M ++ [q]).length ((M ++ [q]).flatMap mmCells) by rw [show (M ++ [q]).length = M.length + 1 by simp]; exact HownM.out)
    have Hyc := hZ9 (show ∀ p : BelowOf Y, p.w.cell? ⟨wo.heap.size, 0, none⟩ = some (.int .i64 x.1) ∧ p.w.cell? ⟨wo.heap.size, 1, none⟩ = some (.int .i64 x.2.s.id) ∧ p.w.cell? ⟨wo.heap.size, 2, none⟩ = some (.int .i64 x.2.s.ac) ∧ p.w.cell? ⟨wo.heap.size, 3, none⟩ = some (.int .i64 x.2.s.si) ∧ p.w.cell? ⟨wo.heap.size, 4, none⟩ = some (.string x.2.s.plan) ∧ p.w.cell? ⟨wo.heap.size, 5, none⟩ = some (.slice x.2.na x.2.nn x.2.nc) ∧ p.w.cell? ⟨wo.heap.size, 6, none⟩ = some (.slice x.2.pa x.2.pn x.2.pc) ∧ p.w.cell? ⟨wo.heap.size, 7, none⟩ = some (.bool x.2.s.su) ∧ p.w.cell? ⟨wo.heap.size, 8, none⟩ = some (.bool x.2.s.fa) from fun p => by
     have r := (p.h.block _ hwY).trans HYr.out
     exact ⟨cell_of_row p.w _ 0 _ _ _ r, cell_of_row p.w _ 1 _ _ _ r, cell_of_row p.w _ 2 _ _ _ r, cell_of_row p.w _ 3 _ _ _ r, cell_of_row p.w _ 4 _ _ _ r, cell_of_row p.w _ 5 _ _ _ r, cell_of_row p.w _ 6 _ _ _ r, cell_of_row p.w _ 7 _ _ _ r, cell_of_row p.w _ 8 _ _ _ r⟩)
    have Hzc := hZ9 (show ∀ p : BelowOf Y, p.w.cell? ⟨g0, M.length * 9, none⟩ = some (.int .i64 q.1) ∧ p.w.cell? ⟨g0, M.length * 9 + 1, none⟩ = some (.int .i64 q.2.s.id) ∧ p.w.cell? ⟨g0, M.length * 9 + 2, none⟩ = some (.int .i64 q.2.s.ac) ∧ p.w.cell? ⟨g0, M.length * 9 + 3, none⟩ = some (.int .i64 q.2.s.si) ∧ p.w.cell? ⟨g0, M.length * 9 + 4, none⟩ = some (.string q.2.s.plan) ∧ p.w.cell? ⟨g0, M.length * 9 + 5, none⟩ = some (.slice q.2.na q.2.nn q.2.nc) ∧ p.w.cell? ⟨g0, M.length * 9 + 6, none⟩ = some (.slice q.2.pa q.2.pn q.2.pc) ∧ p.w.cell? ⟨g0, M.length * 9 + 7, none⟩ = some (.bool q.2.s.su) ∧ p.w.cell? ⟨g0, M.length * 9 + 8, none⟩ = some (.bool q.2.s.fa) from fun p => ⟨BelowOf.cell (a := ⟨g0, M.length * 9, none⟩) hgl z0 p, BelowOf.cell (a := ⟨g0, M.length * 9 + 1, none⟩) hgl z1 p, BelowOf.cell (a := ⟨g0, M.length * 9 + 2, none⟩) hgl z2 p, BelowOf.cell (a := ⟨g0, M.length * 9 + 3, none⟩) hgl z3 p, BelowOf.cell (a := ⟨g0, M.length * 9 + 4, none⟩) hgl z4 p, BelowOf.cell (a := ⟨g0, M.length * 9 + 5, none⟩) hgl z5 p, BelowOf.cell (a := ⟨g0, M.length * 9 + 6, none⟩) hgl z6 p, BelowOf.cell (a := ⟨g0, M.length * 9 + 7, none⟩) hgl z7 p, BelowOf.cell (a := ⟨g0, M.length * 9 + 8, none⟩) hgl z8 p⟩)
    have HT1 := hZ9 (show ∀ W, Below Y.heap.size Y W → Calls Tryz.prog 180 #[mmVal q, mmVal x] W fun e w' => e = .returned (.bool (alikeB q.2.s x.2.s)) ∧ Below W.heap.size W w' from fun W hW => spells1_calls q x base W ((HOk.out q HQm.out).below (HbY.out.trans (hW.mono HbY.out.size))) ((HOk.out x HMem.out).below (HbY.out.trans (hW.mono HbY.out.size))))
    have hrr := Below.refl Y.heap.size Y
    have y0 := fun p : BelowOf Y => (Hyc.out p).1
    have u0 := fun p : BelowOf Y => (Hzc.out p).1
    have y1 := fun p : BelowOf Y => (Hyc.out p).2.1
    have u1 := fun p : BelowOf Y => (Hzc.out p).2.1
    have y2 := fun p : BelowOf Y => (Hyc.out p).2.2.1
    have u2 := fun p : BelowOf Y => (Hzc.out p).2.2.1
    have y3 := fun p : BelowOf Y => (Hyc.out p).2.2.2.1
    have u3 := fun p : BelowOf Y => (Hzc.out p).2.2.2.1
    have y4 := fun p : BelowOf Y => (Hyc.out p).2.2.2.2.1
    have u4 := fun p : BelowOf Y => (Hzc.out p).2.2.2.2.1
    have y5 := fun p : BelowOf Y => (Hyc.out p).2.2.2.2.2.1
    have u5 := fun p : BelowOf Y => (Hzc.out p).2.2.2.2.2.1
    have y6 := fun p : BelowOf Y => (Hyc.out p).2.2.2.2.2.2.1
    have u6 := fun p : BelowOf Y => (Hzc.out p).2.2.2.2.2.2.1
    have y7 := fun p : BelowOf Y => (Hyc.out p).2.2.2.2.2.2.2.1
    have u7 := fun p : BelowOf Y => (Hzc.out p).2.2.2.2.2.2.2.1
    have y8 := fun p : BelowOf Y => (Hyc.out p).2.2.2.2.2.2.2.2
    have u8 := fun p : BelowOf Y => (Hzc.out p).2.2.2.2.2.2.2.2
    clear x0 x1 x2 x3 x4 x5 x6 x7 x8 z0 z1 z2 z3 z4 z5 z6 z7 z8
    cases htg : alikeB q.2.s x.2.s with
    | true =>
      rw [htg] at HT1
      have Htg := hZ9 htg
      clear htg
      refine wp_region_quiet_below hrr (by kernel_rfl) (by kernel_rfl) ?_
      repeat (go_big_quiet_step (first | (go_at_call 180; refine calls_below_of (HT1.out _ (BelowOf.h _)) (fun e w' h => h))))
      refine wpQuiet_nil ?_
      intro w2 hw2
      have hY2 : Below Y.heap.size Y w2 := by obtain ⟨pq, rfl⟩ := hw2; exact pq.h
      clear hw2 y0 u0 y1 u1 y2 u2 y3 u3 y4 u4 y5 u5 y6 u6 y7 u7 y8 u8 hrr
      have HY2 := hZ9 hY2
      have Hown2 := hZ9 (ownsRow_below HownM.out hY2)
      have HT2 := hZ9 (show ∀ W, Below w2.heap.size w2 W → Calls Tryz.prog 182 #[mmVal q, mmVal x] W fun e w' => e = .returned (mmVal q) ∧ Below W.heap.size W w' from fun W hW => spells2_calls q x W)
      have HC2 := hZ9 (show ∀ W, Below w2.heap.size w2 W → (W.cell? ⟨wo.heap.size, 0, none⟩ = some (.int .i64 x.1) ∧ W.cell? ⟨wo.heap.size, 1, none⟩ = some (.int .i64 x.2.s.id) ∧ W.cell? ⟨wo.heap.size, 2, none⟩ = some (.int .i64 x.2.s.ac) ∧ W.cell? ⟨wo.heap.size, 3, none⟩ = some (.int .i64 x.2.s.si) ∧ W.cell? ⟨wo.heap.size, 4, none⟩ = some (.string x.2.s.plan) ∧ W.cell? ⟨wo.heap.size, 5, none⟩ = some (.slice x.2.na x.2.nn x.2.nc) ∧ W.cell? ⟨wo.heap.size, 6, none⟩ = some (.slice x.2.pa x.2.pn x.2.pc) ∧ W.cell? ⟨wo.heap.size, 7, none⟩ = some (.bool x.2.s.su) ∧ W.cell? ⟨wo.heap.size, 8, none⟩ = some (.bool x.2.s.fa)) ∧ (W.cell? ⟨g0, M.length * 9, none⟩ = some (.int .i64 q.1) ∧ W.cell? ⟨g0, M.length * 9 + 1, none⟩ = some (.int .i64 q.2.s.id) ∧ W.cell? ⟨g0, M.length * 9 + 2, none⟩ = some (.int .i64 q.2.s.ac) ∧ W.cell? ⟨g0, M.length * 9 + 3, none⟩ = some (.int .i64 q.2.s.si) ∧ W.cell? ⟨g0, M.length * 9 + 4, none⟩ = some (.string q.2.s.plan) ∧ W.cell? ⟨g0, M.length * 9 + 5, none⟩ = some (.slice q.2.na q.2.nn q.2.nc) ∧ W.cell? ⟨g0, M.length * 9 + 6, none⟩ = some (.slice q.2.pa q.2.pn q.2.pc) ∧ W.cell? ⟨g0, M.length * 9 + 7, none⟩ = some (.bool q.2.s.su) ∧ W.cell? ⟨g0, M.length * 9 + 8, none⟩ = some (.bool q.2.s.fa)) from fun W hW => by
       have hh := HY2.out.trans (hW.mono HY2.out.size)
       exact ⟨Hyc.out ⟨W, hh⟩, Hzc.out ⟨W, hh⟩⟩)
      have HG := hZ9 (show ∀ W, Below w2.heap.size w2 W → W.ownsRow w.heap.size 239 9 (.slice (some ⟨g0, 0, none⟩) (M.length + 1) cp) (M.length + 1) ((M ++ [q]).flatMap mmCells) from fun W hW => ownsRow_below Hown2.out hW)
      clear hY2 HT1
      go_upto_region 7 with (fail)
      refine wp_region_free2 (fun W => Below w2.heap.size w2 W) (fun i v _ => v = (match i with | 0 => .slice (some ⟨g0, 0, none⟩) (M.length + 1) cp | 1 => .int .i64 ((M.length : Int) + 1) | 2 => .int .i64 (M.length : Int) | 3 => .func (.func 182) #[] #[] | 4 => .slice (some ⟨g0, 0, none⟩) (M.length + 1) cp | 5 => .int .i64 ((M.length : Int) + 1) | 6 => .int .i64 (M.length : Int) | 7 => .pointer (some ⟨g0, M.length * 9, none⟩) | 8 => mmVal q | 9 => mmVal x | 10 => mmVal q | 11 => .pointer (some ⟨g0, M.length * 9, none⟩) | _ => v)) (by kernel_rfl) (by decide) (by kernel_rfl) (Below.refl _ _).drew ?_
      generalize hfr : (fun v : Nat → Value => _) = fr
      simp only [List.map_cons, List.map_nil, putsL, List.setIfInBounds_toArray, List.set_cons_succ, List.set_cons_zero, Nat.zero_add, Nat.reduceAdd] at hfr
      simp only [FreeOps]
      refine ⟨?_, ?_, ?_, ?_, ?_, ?_, ?_, ?_, ?_, ?_, ?_, ?_, ?_⟩
      iterate 2
       · intro v w3 hC hd K hK
         rw [← hfr] at hK ⊢
         go_simp
         exact hK _ _ hC (fun _ _ h => h) rfl
      · intro v w3 hC hd K hK
        obtain ⟨(e1 : v 1 = _), -⟩ := hd
        obtain ⟨hj1, hj2, hj3, hj4, hj5, hj6⟩ := J.out
        rw [← hfr] at hK ⊢
        simp only [e1] at hK ⊢
        go_simp
        exact hK _ _ hC (fun _ _ h => h) rfl
      iterate 3
       · intro v w3 hC hd K hK
         rw [← hfr] at hK ⊢
         go_simp
         exact hK _ _ hC (fun _ _ h => h) rfl
      · intro v w3 hC hd K hK
        obtain ⟨(e5 : v 5 = _), -⟩ := hd
        obtain ⟨hj1, hj2, hj3, hj4, hj5, hj6⟩ := J.out
        rw [← hfr] at hK ⊢
        simp only [e5] at hK ⊢
        go_simp
        exact hK _ _ hC (fun _ _ h => h) rfl
      · intro v w3 hC hd K hK
        obtain ⟨(e4 : v 4 = _), (e6 : v 6 = _), -⟩ := hd
        obtain ⟨hj1, hj2, hj3, hj4, hj5, hj6⟩ := J.out
        rw [← hfr] at hK ⊢
        simp only [e4, e6] at hK ⊢
        go_simp
        exact hK _ _ hC (fun _ _ h => h) rfl
      · intro v w3 hC hd K hK
        obtain ⟨(e7 : v 7 = _), -⟩ := hd
        obtain ⟨-, c0, c1, c2, c3, c4, c5, c6, c7, c8⟩ := HC2.out w3 hC
        rw [← hfr] at hK ⊢
        simp only [e7] at hK ⊢
        go_simp
        exact hK _ _ hC (fun _ _ h => h) rfl
      · intro v w3 hC hd K hK
        obtain ⟨⟨c0, c1, c2, c3, c4, c5, c6, c7, c8⟩, -⟩ := HC2.out w3 hC
        rw [← hfr] at hK ⊢
        go_simp
        exact hK _ _ hC (fun _ _ h => h) rfl
      · intro v w3 hC hd K hK
        obtain ⟨(e3 : v 3 = _), (e8 : v 8 = _), (e9 : v 9 = _), -⟩ := hd
        rw [← hfr] at hK ⊢
        simp only [e3, e8, e9] at hK ⊢
        go_simp
        refine (HT2.out w3 hC).mono ?_
        rintro e w4 ⟨rfl, hb4⟩
        exact hK _ _ (hC.trans (hb4.mono hC.size)) (fun _ _ h => h) rfl
      · intro v w3 hC hd K hK
        obtain ⟨(e0 : v 0 = _), (e2 : v 2 = _), -⟩ := hd
        obtain ⟨hj1, hj2, hj3, hj4, hj5, hj6⟩ := J.out
        rw [← hfr] at hK ⊢
        simp only [e0, e2] at hK ⊢
        go_simp
        exact hK _ _ hC (fun _ _ h => h) rfl
      intro v w3 hC hall
      obtain ⟨-, e10, e11⟩ : _ ∧ v 10 = _ ∧ v 11 = _ := ⟨trivial, hall.1.2, hall.2⟩
      have hownG := HG.out w3 hC
      obtain ⟨so, sg⟩ := own_setCells (mmCells q) _ (M.length * 9) _ hownG
      rw [show M.length * 9 = M.length * 9 + 0 from rfl, flat_last_set (c := mmCells) (sz := 9) (fun _ => rfl) M q q 0 (mmCells q) rfl rfl] at so
      refine wp_store_mid _ _ _ rfl g0 (M.length * 9) (mmCells q).toArray (by rw [← hfr]; exact e11) (by rw [← hfr]; exact e10) (own_there2 hownG (M.length * 9) 9 (by omega)) (by kernel_rfl) (by simp [mmCells, sbCells, Value.oneCell']) ?_
      have SO := hZ9 (show (w3.setCells g0 (M.length * 9) (mmCells q).toArray.toList).ownsRow w.heap.size 239 9 (.slice (some ⟨g0, 0, none⟩) (M.length + 1) cp) (M ++ [q]).length ((M ++ [q]).flatMap mmCells) by rw [List.length_append, List.length_singleton]; exact so)
      have SB := hZ9 (show Below w.heap.size w (w3.setCells g0 (M.length * 9) (mmCells q).toArray.toList) from ((HbY.out.trans (HY2.out.mono HbY.out.size)).trans (hC.mono (by have := HY2.out.size; have := HbY.out.size; omega))).grown sg (by have := HY2.out.size; have := HbY.out.size; have := hC.size; omega) (fun g hg => by cases hg; exact hgB))
      rw [← hfr]
      generalize (w3.setCells g0 (M.length * 9) (mmCells q).toArray.toList) = w4 at *
      clear so sg hownG
      generalize v 0 = y0, v 1 = y1, v 2 = y2, v 3 = y3, v 4 = y4, v 5 = y5, v 6 = y6, v 7 = y7, v 8 = y8, v 9 = y9, v 10 = y10, v 11 = y11
      clear hfr hall hC e10 e11
      have HE := hZ9 (jmStep_eq (plainM M) (q.1, q.2.s) (x.1, x.2.s) Htg.out)
      obtain ⟨hj1, hj2, hj3, hj4, hj5, hj6⟩ := J.out
      go_wp2
      exact ⟨⟨k + 1, M ++ [q], by omega, by go_num, hZ9 (⟨by rw [HTk.out, ← HP.out.1, plainM_snoc]; exact HE.out.symm, HP.out.2⟩), SO.out, SB.out⟩, by simp [intOf]; omega⟩
    | false =>
      rw [htg] at HT1
      have Htg := hZ9 htg
      clear htg
      refine wp_region_quiet_below hrr (by kernel_rfl) (by kernel_rfl) ?_
      repeat (go_big_quiet_step (first | (go_at_call 180; refine calls_below_of (HT1.out _ (BelowOf.h _)) (fun e w' h => h))))
      refine wpQuiet_nil ?_
      intro w2 hw2
      have hY2 : Below Y.heap.size Y w2 := by obtain ⟨pq, rfl⟩ := hw2; exact pq.h
      clear hw2 y0 u0 y1 u1 y2 u2 y3 u3 y4 u4 y5 u5 y6 u6 y7 u7 y8 u8 hrr hj1 hj2 hj3 hj4 hj5 hj6
      have HbA := hZ9 (HbY.out.trans (hY2.mono HbY.out.size))
      have HownA := hZ9 (ownsRow_below HownL.out hY2)
      have rA := (hY2.block _ hwY).trans HYr.out
      have c0 : w2.cell? ⟨wo.heap.size, 0, none⟩ = some (.int .i64 x.1) := cell_of_row w2 _ 0 _ _ _ rA
      have c1 : w2.cell? ⟨wo.heap.size, 1, none⟩ = some (.int .i64 x.2.s.id) := cell_of_row w2 _ 1 _ _ _ rA
      have c2 : w2.cell? ⟨wo.heap.size, 2, none⟩ = some (.int .i64 x.2.s.ac) := cell_of_row w2 _ 2 _ _ _ rA
      have c3 : w2.cell? ⟨wo.heap.size, 3, none⟩ = some (.int .i64 x.2.s.si) := cell_of_row w2 _ 3 _ _ _ rA
      have c4 : w2.cell? ⟨wo.heap.size, 4, none⟩ = some (.string x.2.s.plan) := cell_of_row w2 _ 4 _ _ _ rA
      have c5 : w2.cell? ⟨wo.heap.size, 5, none⟩ = some (.slice x.2.na x.2.nn x.2.nc) := cell_of_row w2 _ 5 _ _ _ rA
      have c6 : w2.cell? ⟨wo.heap.size, 6, none⟩ = some (.slice x.2.pa x.2.pn x.2.pc) := cell_of_row w2 _ 6 _ _ _ rA
      have c7 : w2.cell? ⟨wo.heap.size, 7, none⟩ = some (.bool x.2.s.su) := cell_of_row w2 _ 7 _ _ _ rA
      have c8 : w2.cell? ⟨wo.heap.size, 8, none⟩ = some (.bool x.2.s.fa) := cell_of_row w2 _ 8 _ _ _ rA
      have hbs := HbA.out.size
      have HX := hZ9 (RecAt.one (c := mmCells) (sz := 9) w2 x 239 #[.int .i64 x.1, .int .i64 x.2.s.id, .int .i64 x.2.s.ac, .int .i64 x.2.s.si, .string x.2.s.plan, .slice x.2.na x.2.nn x.2.nc, .slice x.2.pa x.2.pn x.2.pc, .bool x.2.s.su, .bool x.2.s.fa] rfl)
      clear rA hY2
      go_upto_region 8 with (fail)
      go_wp2_with (at_builtin; refine append_rec2 (c := mmCells) (sz := 9) (fun _ => rfl) mm_one 239 236 _ 104 Tryz.underlying236 Tryz.momInfo rfl (by decide) rfl _ _ rfl w.heap.size ?hs _ _ (M ++ [q]) [x] rfl rfl (HownA.out.alloc _) HX.out ?hl ?hb ?_)
      case hs => simp <;> omega
      case hl => unfold maxLen; simp <;> omega
      case hb => simp <;> omega
      intro R hR v5 w5 own5 hg5
      have HRe := hZ9 (show R = (M ++ [q]) ++ [x] by rw [hR.out]; first | rfl | simp)
      have Own5 := hZ9 own5
      have Hb5 := hZ9 ((HbA.out.alloc hbs _).grown hg5 (by simp <;> omega) (fun g hg => (ownsRow_block HownA.out g hg).1))
      clear own5 hg5 hR hbs
      go_wp2
      exact ⟨⟨k + 1, R, by omega, by go_num, hZ9 (⟨by rw [HRe.out, HTk.out, ← HP.out.1, plainM_snoc, plainM_snoc]; exact (jmStep_ne (plainM M) (q.1, q.2.s) (x.1, x.2.s) Htg.out).symm, fun p hp => by
       rw [HRe.out] at hp
       rcases List.mem_append.1 hp with hp | hp
       · first | exact HP.out.2 p hp | cases hp
       rw [List.mem_singleton.1 hp]; exact HMem.out⟩), Own5.out, Hb5.out⟩, by simp [intOf]; omega⟩
  have HE := hZ9 (show jmL ((plainM L).take k) = jmL (plainM L) by rw [List.take_of_length_le (by rw [plainM_len]; omega)])
  go_wp2
  go_ret
  exact ⟨a, cp, O, rfl, Hown.out, HP.out.1.trans HE.out, HP.out.2, Hb.out⟩
def spCells (p : Int × Int × SbX) : List Value := [.int .i64 p.1, .int .i64 p.2.1, .string p.2.2.s.plan, .slice p.2.2.pa p.2.2.pn p.2.2.pc, .bool p.2.2.s.su, .bool p.2.2.s.fa]
def spVal (p : Int × Int × SbX) : Value := .agg (spCells p).toArray
def plainSp (S : List (Int × Int × SbX)) : List Sp := S.map fun p => ⟨p.1, p.2.1, p.2.2.s⟩
theorem plainSp_len (S : List (Int × Int × SbX)) : (plainSp S).length = S.length := List.length_map _
theorem plainSp_snoc (S : List (Int × Int × SbX)) (p : Int × Int × SbX) : plainSp (S ++ [p]) = plainSp S ++ [⟨p.1, p.2.1, p.2.2.s⟩] := by unfold plainSp; rw [List.map_append]; rfl
theorem sp_one (p : Int × Int × SbX) : ∀ u ∈ spCells p, u.oneCell' = true := by
 intro u hu
 unfold spCells at hu
 simp only [List.mem_cons, List.not_mem_nil, or_false] at hu
 rcases hu with rfl | rfl | rfl | rfl | rfl | rfl <;> rfl
theorem Tryz.spellInfo : (Tryz.prog.info? 169).map (fun i => (i.zero, i.size, i.bytes)) = some (some (.agg #[.int .i64 0, .int .i64 0, .string ⟨#[]⟩, .slice none 0 0, .bool false, .bool false]), 6, 64) := by kernel_rfl
def SpsOk (base : Nat) (w : World) (S : List (Int × Int × SbX)) : Prop := ∀ p ∈ S, SbO base w p.2.2
theorem SpsOk.below {base : Nat} {w w' : World} {S : List (Int × Int × SbX)} (h : SpsOk base w S) (hb : Below w.heap.size w w') : SpsOk base w' S := fun p hp => (h p hp).below hb
theorem SbO.growT {base base' : Nat} {w w' : World} {x : SbX} (h : SbO base w x) {v : Value} {e : TypeId} {sz n : Nat} {xs : List Value} (ho : w.ownsRow base' e sz v n xs) (he : e ≠ 9) (hg : w.grownBy w' v.ownBlock) : SbO base w' x :=
 ⟨own_grow h.row hg (own_other2 h.row ho he), h.na, h.nn, h.nc, h.nus, h.plan, h.sizes⟩
theorem SbO.down {b b' : Nat} {w : World} {x : SbX} (h : SbO b w x) (hb : b' ≤ b) : SbO b' w x := ⟨own_down h.row hb, h.na, h.nn, h.nc, h.nus, h.plan, h.sizes⟩
def SpsTo (N : List Sp) (w : World) (e : Ending) (w' : World) : Prop := ∃ (a : Option Addr) (c : Nat) (S : List (Int × Int × SbX)), e = .returned (.slice a S.length c) ∧ w'.ownsRow w.heap.size 169 6 (.slice a S.length c) S.length (S.flatMap spCells) ∧ plainSp S = N ∧ SpsOk w.heap.size w' S ∧ Below w.heap.size w w'
theorem rec_block {α : Type} {c : α → List Value} {sz : Nat} {w : World} {g : Nat} {cs : Array Value} {t : TypeId} {fr : Nat × Nat} (hg : w.heap[g]? = some (.cells cs t fr)) (x : α) (h : cs = (c x).toArray) : RecAt c sz w (.slice (some ⟨g, 0, none⟩) 1 1) [x] := by
 subst h
 refine ⟨_, 1, rfl, Nat.le_refl _, ⟨by decide, fun h => by cases h⟩, fun _ => ⟨g, 0, rfl, (ltB9 hg), fun i hi => ?_⟩⟩
 obtain rfl : i = 0 := by simpa using hi
 intro j hj
 rw [cell_of_row _ _ _ _ _ _ hg]
 simp
def spPhi (Y : World) (gx : Nat) (a : Option Addr) (n cp : Nat) (nx : Int) (x : Int × SbX) : Nat → Value → World → Prop
 | 0, v, _ => v = .slice a n cp
 | 1, v, _ => v = .agg #[.int .i64 x.1, .int .i64 nx]
 | 2, v, _ => v = .pointer (some ⟨gx, 1, none⟩)
 | 3, v, _ => v = .pointer (some ⟨gx, 4, none⟩)
 | 4, v, _ => v = .string x.2.s.plan
 | 5, v, _ => v = .pointer (some ⟨gx, 1, none⟩)
 | 6, v, _ => v = .pointer (some ⟨gx, 6, none⟩)
 | 7, v, _ => v = .slice x.2.pa x.2.pn x.2.pc
 | 8, v, w => ∃ (pa : Option Addr) (pn pc : Nat), v = .slice pa pn pc ∧ w.ownsRow Y.heap.size 9 1 (.slice pa pn pc) x.2.s.prs.length (x.2.s.prs.flatMap strCells)
 | 9, v, _ => v = .pointer (some ⟨gx, 1, none⟩)
 | 10, v, _ => v = .pointer (some ⟨gx, 7, none⟩)
 | 11, v, _ => v = .bool x.2.s.su
 | 12, v, _ => v = .pointer (some ⟨gx, 1, none⟩)
 | 13, v, _ => v = .pointer (some ⟨gx, 8, none⟩)
 | 14, v, _ => v = .bool x.2.s.fa
 | 15, v, w => ∃ (pa : Option Addr) (pn pc : Nat), v = .agg #[.int .i64 x.1, .int .i64 nx, .string x.2.s.plan, .slice pa pn pc, .bool x.2.s.su, .bool x.2.s.fa] ∧ w.ownsRow Y.heap.size 9 1 (.slice pa pn pc) x.2.s.prs.length (x.2.s.prs.flatMap strCells)
 | 16, v, w => ∃ (g : Nat) (pa : Option Addr) (pn pc : Nat), v = .slice (some ⟨g, 0, none⟩) 1 1 ∧ w.heap[g]? = some (.cells #[.int .i64 x.1, .int .i64 nx, .string x.2.s.plan, .slice pa pn pc, .bool x.2.s.su, .bool x.2.s.fa] 169) ∧ w.ownsRow Y.heap.size 9 1 (.slice pa pn pc) x.2.s.prs.length (x.2.s.prs.flatMap strCells)
 | _ + 17, _, _ => True
theorem spPhi_stays {Y : World} {gx : Nat} {a : Option Addr} {n cp : Nat} {nx : Int} {x : Int × SbX} {w1 w2 : World} (hb : Below w1.heap.size w1 w2) : ∀ j y, spPhi Y gx a n cp nx x j y w1 → spPhi Y gx a n cp nx x j y w2
 | 0, _, h => h
 | 1, _, h => h
 | 2, _, h => h
 | 3, _, h => h
 | 4, _, h => h
 | 5, _, h => h
 | 6, _, h => h
 | 7, _, h => h
 | 9, _, h => h
 | 10, _, h => h
 | 11, _, h => h
 | 12, _, h => h
 | 13, _, h => h
 | 14, _, h => h
 | 8, _, ⟨pa, pn, pc, h1, h2⟩ => ⟨pa, pn, pc, h1, ownsRow_below h2 hb⟩
 | 15, _, ⟨pa, pn, pc, h1, h2⟩ => ⟨pa, pn, pc, h1, ownsRow_below h2 hb⟩
 | 16, _, ⟨g, pa, pn, pc, h1, h2, h3⟩ => ⟨g, pa, pn, pc, h1, (hb.block _ (ltB9 h2)).trans h2, ownsRow_below h3 hb⟩
 | _ + 17, _, _ => trivial
theorem plainM_get (X : List (Int × SbX)) (k : Nat) (h : k < X.length) : (plainM X)[k]'(by rw [plainM_len]; exact h) = ((X[k]).1, (X[k]).2.s) := List.getElem_map _
theorem momF_prs (n : Int) (l : List Ev) : ∀ k, k ≤ l.length → ∀ q ∈ (momF n (l.take k)).1, q.2.prs.length ≤ k
 | 0, _ => fun q hq => by rw [List.take_zero] at hq; cases hq
 | k + 1, hk => by
   have ih := momF_prs n l k (by omega)
   have h2 := prs_len n l (k + 1) hk
   rw [momF_take n l k (by omega)] at h2 ⊢
   generalize l[k]'(by omega) = e at h2 ⊢
   unfold momStep at h2 ⊢
   split
   · intro q hq; have := ih q hq; omega
   rename_i hc
   rw [if_neg hc] at h2
   dsimp only at h2 ⊢
   intro q hq
   unfold putM at hq
   split at hq
   · split at hq
     · rcases List.mem_append.1 hq with hq | hq
       · have := ih q ((List.dropLast_sublist _).mem hq); omega
       rw [List.mem_singleton.1 hq]; exact h2
     rcases List.mem_append.1 hq with hq | hq
     · have := ih q hq; omega
     rw [List.mem_singleton.1 hq]; exact h2
   rw [List.mem_singleton.1 hq]; exact h2
theorem jmL_mem (M : List (Int × Sb)) : ∀ k, k ≤ M.length → ∀ q ∈ jmL (M.take k), q ∈ M
 | 0, _ => fun q hq => by rw [List.take_zero] at hq; cases hq
 | k + 1, hk => by
   have ih := jmL_mem M k (by omega)
   rw [jmL_take M k (by omega)]
   intro q hq
   unfold jmStep at hq
   split at hq
   · split at hq
     · exact ih q hq
     rcases List.mem_append.1 hq with hq | hq
     · exact ih q hq
     rw [List.mem_singleton.1 hq]; exact List.getElem_mem _
   rw [List.mem_singleton.1 hq]; exact List.getElem_mem _
theorem spells_calls (v : Value) (l : List Ev) (n : Int) (w : World) (h : EvsAt w v l) (hl : l.length ≤ 1000) :
 Calls Tryz.prog 144 #[v, .int .i64 n] w (SpsTo (spellsL n l) w) := by
 have HMo := hZ9 (moments_calls v l n w h hl)
 have HMl := hZ9 (momF_len n l l.length (Nat.le_refl _))
 rw [List.take_of_length_le (Nat.le_refl _)] at HMl
 obtain ⟨av, cap, rfl, hcl, hcm⟩ := rec_shape h.1
 clear h hcl hcm
 go_enter Tryz.func144, Tryz.ntmps144
 go_wp2_with fail
 refine HMo.out.mono ?_
 rintro e w1 ⟨a1, c1, X1, rfl, own1, hp1, hok1, hb1⟩
 have hX1 : X1.length ≤ 1000 := by
  have h := HMl.out
  rw [← hp1, plainM_len] at h; omega
 have HJo := hZ9 (joinedM_calls w.heap.size (.slice a1 X1.length c1) X1 w1 (RecAt.own (fun _ => rfl) own1) (by omega) hok1)
 have Hp1 := hZ9 hp1
 have Hok1 := hZ9 hok1
 have Hb1 := hZ9 hb1
 clear own1 hp1 hok1 hb1 HMo HMl
 go_wp2_with fail
 refine HJo.out.mono ?_
 rintro e w2 ⟨a2, c2, X, rfl, own2, hp2, hmem, hb2⟩
 have HpX := hZ9 (show plainM X = jmL (momF n l).1 by rw [hp2, Hp1.out])
 have HokX := hZ9 (show MmsOk w.heap.size w2 X from fun p hp => ((Hok1.out p (hmem p hp)).below hb2))
 have HX := hZ9 (show RecAt mmCells 9 w2 (.slice a2 X.length c2) X from RecAt.own (fun _ => rfl) own2)
 have HbX := hZ9 (Hb1.out.trans (hb2.mono Hb1.out.size))
 have hXl : X.length ≤ 1000 := by
  have h1 := jmL_len (plainM X1) _ (Nat.le_refl _)
  rw [List.take_of_length_le (Nat.le_refl _), ← hp2, plainM_len, plainM_len] at h1; omega
 obtain ⟨ax, cx, ecx, hcx1, hcx2⟩ := own_shape own2
 cases ecx
 unfold maxLen at hcx2
 clear own2 hp2 hmem hb2 Hp1 Hok1 Hb1 HJo hX1
 go_wp2_with fail
 go_loopw [6, 16] (fun vo i wr => ∃ (k : Nat) (S : List (Int × Int × SbX)), k ≤ X.length ∧ i = .int .i64 k ∧ RowKit.Hid (plainSp S = spUpto (plainM X) k) ∧ wr.ownsRow w2.heap.size 169 6 vo S.length (S.flatMap spCells) ∧ SpsOk w2.heap.size wr S ∧ Below w2.heap.size w2 wr) (fun _ i _ => X.length - (intOf i).toNat)
 case atStart => exact ⟨0, [], Nat.zero_le _, rfl, hZ9 rfl, World.ownsRow_nil _ _ _ _, (fun p hp => by cases hp), Below.refl _ _⟩
 case round =>
  obtain ⟨wo, rfl⟩ : ∃ wo : World, wo = wr := ⟨_, rfl⟩
  obtain ⟨k, S, hk, rfl, HP, hown, hok, hb⟩ := hrel
  obtain ⟨a, cp, rfl, hc1, hc2⟩ := own_shape hown
  unfold maxLen at hc2
  have Hown := hZ9 hown
  have Hok := hZ9 hok
  have Hb := hZ9 hb
  have hSl : S.length ≤ 1000 := by
   have h := spUpto_len (plainM X) k
   rw [← HP.out, plainSp_len] at h; omega
  by_cases hlt : k < X.length
  · have hk1 : (k : Int) < (X.length : Int) := by omega
    have hk0 : (0 : Int) ≤ (k : Int) := Int.natCast_nonneg _
    have hlp : k < (plainM X).length := by rw [plainM_len]; exact hlt
    have HSu := hZ9 (show spUpto (plainM X) (k + 1) = spUpto (plainM X) k ++ (if (X[k]).2.s.id = 0 then [] else [⟨(X[k]).1, nextAt (plainM X) k, (X[k]).2.s⟩]) by
     rw [spUpto_succ, spOne_at hlp, plainM_get X k hlt])
    have HPb := hZ9 (show (X[k]).2.s.prs.length ≤ 1000 by
     have h1 : (plainM X)[k]'hlp ∈ jmL (momF n l).1 := by rw [← HpX.out]; exact List.getElem_mem _
     have h2 := jmL_mem (momF n l).1 _ (Nat.le_refl _)
     rw [List.take_of_length_le (Nat.le_refl _)] at h2
     have h3 := momF_prs n l l.length (Nat.le_refl _)
     rw [List.take_of_length_le (Nat.le_refl _)] at h3
     have h4 := h3 _ (h2 _ h1)
     rw [plainM_get X k hlt] at h4
     dsimp only at h4
     omega)
    have HSo := hZ9 ((HokX.out _ (List.getElem_mem hlt)).below hb)
    have HXw := hZ9 (HX.out.below hb)
    obtain ⟨a3, c3, e3, -, -, hx⟩ := HXw.out
    cases e3
    obtain ⟨bb, o, rfl, hB, hx⟩ := hx (by rintro rfl; cases hlt)
    have HNx := hZ9 (show ∀ h : k + 1 < X.length, nextAt (plainM X) k = (X[k + 1]).1 ∧ wo.cell? ⟨bb, o + (k + 1) * 9, none⟩ = some (.int .i64 (X[k + 1]).1) from fun h => by
     refine ⟨?_, hx (k + 1) h 0 (by decide)⟩
     rw [nextAt_lt (by rw [plainM_len]; exact h), plainM_get X (k + 1) h])
    have HNe := hZ9 (show ¬ k + 1 < X.length → nextAt (plainM X) k = 12622780800 from fun h => nextAt_end (by rw [plainM_len]; omega))
    have hx := hx k hlt
    have x0 : wo.cell? ⟨bb, o + k * 9, none⟩ = some (.int .i64 (X[k]).1) := hx 0 (by decide)
    have x1 : wo.cell? ⟨bb, o + k * 9 + 1, none⟩ = some (.int .i64 (X[k]).2.s.id) := hx 1 (by decide)
    have x2 : wo.cell? ⟨bb, o + k * 9 + 2, none⟩ = some (.int .i64 (X[k]).2.s.ac) := hx 2 (by decide)
    have x3 : wo.cell? ⟨bb, o + k * 9 + 3, none⟩ = some (.int .i64 (X[k]).2.s.si) := hx 3 (by decide)
    have x4 : wo.cell? ⟨bb, o + k * 9 + 4, none⟩ = some (.string (X[k]).2.s.plan) := hx 4 (by decide)
    have x5 : wo.cell? ⟨bb, o + k * 9 + 5, none⟩ = some (.slice (X[k]).2.na (X[k]).2.nn (X[k]).2.nc) := hx 5 (by decide)
    have x6 : wo.cell? ⟨bb, o + k * 9 + 6, none⟩ = some (.slice (X[k]).2.pa (X[k]).2.pn (X[k]).2.pc) := hx 6 (by decide)
    have x7 : wo.cell? ⟨bb, o + k * 9 + 7, none⟩ = some (.bool (X[k]).2.s.su) := hx 7 (by decide)
    have x8 : wo.cell? ⟨bb, o + k * 9 + 8, none⟩ = some (.bool (X[k]).2.s.fa) := hx 8 (by decide)
    clear hx hown hok hb hlp
    generalize X[k] = x at *
    obtain ⟨nx, hnx⟩ : ∃ nx, nx = nextAt (plainM X) k := ⟨_, rfl⟩
    rw [← hnx] at HSu HNx HNe
    clear hnx
    obtain ⟨Y, hY⟩ : ∃ Y, Y = wo.alloc (Obj.cells #[.int .i64 x.1, .int .i64 x.2.s.id, .int .i64 x.2.s.ac, .int .i64 x.2.s.si, .string x.2.s.plan, .slice x.2.na x.2.nn x.2.nc, .slice x.2.pa x.2.pn x.2.pc, .bool x.2.s.su, .bool x.2.s.fa] 239) := ⟨_, rfl⟩
    have hbY : Below wo.heap.size wo Y := by rw [hY]; go_grown
    have HYr := hZ9 (show Y.heap[wo.heap.size]? = some (Obj.cells #[.int .i64 x.1, .int .i64 x.2.s.id, .int .i64 x.2.s.ac, .int .i64 x.2.s.si, .string x.2.s.plan, .slice x.2.na x.2.nn x.2.nc, .slice x.2.pa x.2.pn x.2.pc, .bool x.2.s.su, .bool x.2.s.fa] 239) by rw [hY]; exact heap_alloc_new _ _)
    have HbYo := hZ9 hbY
    have HbY := hZ9 (Hb.out.trans (hbY.mono Hb.out.size))
    have hwY : wo.heap.size < Y.heap.size := (ltB9 HYr.out)
    have hBY : bb < Y.heap.size := by omega
    have HY := hZ9 hY
    clear hbY hY
    have y1 : Y.cell? ⟨wo.heap.size, 1, none⟩ = some (.int .i64 x.2.s.id) := cell_of_row Y _ 1 _ _ _ HYr.out
    by_cases hid : x.2.s.id = 0
    · have hi1 : (x.2.s.id == 0) = true := by simp [hid]
      have HE := hZ9 (show spUpto (plainM X) (k + 1) = spUpto (plainM X) k by rw [HSu.out, if_pos hid, List.append_nil])
      have HownY := hZ9 (ownsRow_below Hown.out HbYo.out)
      have HokY := hZ9 (Hok.out.below HbYo.out)
      clear hid
      go_upto_region 6 with (fail)
      rw [← HY.out]
      go_wp2
      exact ⟨⟨k + 1, S, by omega, by go_num, hZ9 (HP.out.trans HE.out.symm), HownY.out, HokY.out, HbY.out⟩, by simp [intOf]; omega⟩
    have hi1 : (x.2.s.id == 0) = false := by simp [hid]
    have HE := hZ9 (show spUpto (plainM X) (k + 1) = spUpto (plainM X) k ++ [⟨x.1, nx, x.2.s⟩] by rw [HSu.out, if_neg hid])
    have Hid := hZ9 hid
    clear hid HSu
    have y0 : Y.cell? ⟨wo.heap.size, 0, none⟩ = some (.int .i64 x.1) := cell_of_row Y _ 0 _ _ _ HYr.out
    go_upto_region 6 with (fail)
    rw [← HY.out]
    by_cases hk2 : k + 1 < X.length
    · obtain ⟨hn1, hn2⟩ := HNx.out hk2
      have hk3 : (k : Int) + 1 < (X.length : Int) := by omega
      have nxc : (Y.alloc (Obj.cells #[.int .i64 x.1, .int .i64 12622780800] 25)).cell? ⟨bb, o + (k + 1) * 9, none⟩ = some (.int .i64 nx) := by
       rw [hn1, ← hn2]
       exact (((Below.refl _ Y).alloc (Nat.le_refl _) _).cell (p := ⟨bb, o + (k + 1) * 9, none⟩) hBY).trans (HbYo.out.cell (p := ⟨bb, o + (k + 1) * 9, none⟩) hB)
      have Hn1 := hZ9 hn1
      clear hn1 hn2
      obtain ⟨Y3, hY3⟩ : ∃ Y3, Y3 = (Y.alloc (Obj.cells #[.int .i64 x.1, .int .i64 nx] 25)) := ⟨_, rfl⟩
      have r3 : Y3.heap[Y.heap.size]? = some (Obj.cells #[.int .i64 x.1, .int .i64 nx] 25) := by rw [hY3]; exact heap_alloc_new _ _
      have hbYY : Below Y.heap.size Y Y3 := by rw [hY3]; exact (Below.refl _ _).alloc (Nat.le_refl _) _
      have HR3 := hZ9 r3
      have HbYY := hZ9 hbYY
      have HY3 := hZ9 hY3
      clear hY3 r3 hbYY
      go_upto_region 10 with (fail)
      clear y0 y1
      rw [← HY3.out]
      have Hb3 := hZ9 (HbY.out.trans (HbYY.out.mono HbY.out.size))
      have HbO3 := hZ9 (HbYo.out.trans (HbYY.out.mono HbYo.out.size))
      have HX3 := hZ9 ((HbYY.out.block _ hwY).trans HYr.out)
      have HSo3 := hZ9 (HSo.out.below HbO3.out)
      have h3z : Y.heap.size < Y3.heap.size := (ltB9 HR3.out)
      have Hpl := hZ9 (HSo.out.row.1)
      have HCx := hZ9 (show ∀ W, Below Y3.heap.size Y3 W → W.cell? ⟨wo.heap.size, 4, none⟩ = some (.string x.2.s.plan) ∧ W.cell? ⟨wo.heap.size, 6, none⟩ = some (.slice x.2.pa x.2.pn x.2.pc) ∧ W.cell? ⟨wo.heap.size, 7, none⟩ = some (.bool x.2.s.su) ∧ W.cell? ⟨wo.heap.size, 8, none⟩ = some (.bool x.2.s.fa) from fun W hW => by
       have q := (hW.block _ (by omega)).trans HX3.out
       exact ⟨cell_of_row W _ 4 _ _ _ q, cell_of_row W _ 6 _ _ _ q, cell_of_row W _ 7 _ _ _ q, cell_of_row W _ 8 _ _ _ q⟩)
      have HCp := hZ9 (show ∀ W, Below Y3.heap.size Y3 W → W.cell? ⟨Y.heap.size, 0, none⟩ = some (.int .i64 x.1) ∧ W.cell? ⟨Y.heap.size, 1, none⟩ = some (.int .i64 nx) from fun W hW => by
       have q := (hW.block _ h3z).trans HR3.out
       exact ⟨cell_of_row W _ 0 _ _ _ q, cell_of_row W _ 1 _ _ _ q⟩)
      refine wp_region_free3 17 (fun W => Below Y3.heap.size Y3 W) (spPhi Y3 wo.heap.size a S.length cp nx x) (by kernel_rfl) (by kernel_rfl) (Below.refl _ _).drew ?_ ?_
      · generalize hfr : (fun v : Nat → Value => _) = fr
        simp only [List.take_succ_cons, List.take_zero, List.map_cons, List.map_nil, putsL, List.setIfInBounds_toArray, List.set_cons_succ, List.set_cons_zero, Nat.zero_add, Nat.reduceAdd] at hfr
        simp only [List.take_succ_cons, List.take_zero, FreeHead]
        refine ⟨?_, ?_, ?_, ?_, ?_, ?_, ?_, ?_, ?_, ?_, ?_, ?_, ?_, ?_, ?_, ?_, ?_, trivial⟩
        · intro v w3 hC hd K hK
          rw [← hfr] at hK ⊢
          go_simp
          exact hK _ _ hC (spPhi_stays (Below.refl _ _)) rfl
        · intro v w3 hC hd K hK
          obtain ⟨p0, p1⟩ := HCp.out w3 hC
          rw [← hfr] at hK ⊢
          go_simp
          exact hK _ _ hC (spPhi_stays (Below.refl _ _)) rfl
        · intro v w3 hC hd K hK
          rw [← hfr] at hK ⊢
          go_simp
          exact hK _ _ hC (spPhi_stays (Below.refl _ _)) rfl
        · intro v w3 hC hd K hK
          obtain ⟨(e2 : v 2 = _), -⟩ := hd
          rw [← hfr] at hK ⊢
          simp only [e2] at hK ⊢
          go_simp
          exact hK _ _ hC (spPhi_stays (Below.refl _ _)) rfl
        · intro v w3 hC hd K hK
          obtain ⟨(e3 : v 3 = _), -⟩ := hd
          obtain ⟨k4, k6, k7, k8⟩ := HCx.out w3 hC
          rw [← hfr] at hK ⊢
          simp only [e3] at hK ⊢
          go_simp
          exact hK _ _ hC (spPhi_stays (Below.refl _ _)) rfl
        · intro v w3 hC hd K hK
          rw [← hfr] at hK ⊢
          go_simp
          exact hK _ _ hC (spPhi_stays (Below.refl _ _)) rfl
        · intro v w3 hC hd K hK
          obtain ⟨(e5 : v 5 = _), -⟩ := hd
          rw [← hfr] at hK ⊢
          simp only [e5] at hK ⊢
          go_simp
          exact hK _ _ hC (spPhi_stays (Below.refl _ _)) rfl
        · intro v w3 hC hd K hK
          obtain ⟨(e6 : v 6 = _), -⟩ := hd
          obtain ⟨k4, k6, k7, k8⟩ := HCx.out w3 hC
          rw [← hfr] at hK ⊢
          simp only [e6] at hK ⊢
          go_simp
          exact hK _ _ hC (spPhi_stays (Below.refl _ _)) rfl
        · intro v w3 hC hd K hK
          obtain ⟨(e7 : v 7 = _), -⟩ := hd
          have hXs := rec_of_strs (HSo3.out.below hC).strs
          have hpl2 : x.2.s.prs.length ≤ 140737488355328 / 16 := by have := HPb.out; omega
          refine wp_append_copy (c := strCells) (sz := 1) (fun _ => rfl) str_one 9 58 _ 16 Tryz.underlying58 Tryz.strInfo rfl (by decide) rfl _ _ rfl Y3.heap.size hC.size none _ x.2.s.prs rfl (by rw [← hfr]; exact e7) (World.ownsRow_nil _ _ _ _) hXs (by unfold maxLen; omega) (by omega) (fun v' w' h1 h2 => ?_)
          obtain ⟨pa, pc, rfl, -, -⟩ := own_shape h1
          exact hK _ _ (hC.trans (h2.mono hC.size)) (spPhi_stays h2) ⟨pa, _, pc, rfl, h1⟩
        · intro v w3 hC hd K hK
          rw [← hfr] at hK ⊢
          go_simp
          exact hK _ _ hC (spPhi_stays (Below.refl _ _)) rfl
        · intro v w3 hC hd K hK
          obtain ⟨(e9 : v 9 = _), -⟩ := hd
          rw [← hfr] at hK ⊢
          simp only [e9] at hK ⊢
          go_simp
          exact hK _ _ hC (spPhi_stays (Below.refl _ _)) rfl
        · intro v w3 hC hd K hK
          obtain ⟨(e10 : v 10 = _), -⟩ := hd
          obtain ⟨k4, k6, k7, k8⟩ := HCx.out w3 hC
          rw [← hfr] at hK ⊢
          simp only [e10] at hK ⊢
          go_simp
          exact hK _ _ hC (spPhi_stays (Below.refl _ _)) rfl
        · intro v w3 hC hd K hK
          rw [← hfr] at hK ⊢
          go_simp
          exact hK _ _ hC (spPhi_stays (Below.refl _ _)) rfl
        · intro v w3 hC hd K hK
          obtain ⟨(e12 : v 12 = _), -⟩ := hd
          rw [← hfr] at hK ⊢
          simp only [e12] at hK ⊢
          go_simp
          exact hK _ _ hC (spPhi_stays (Below.refl _ _)) rfl
        · intro v w3 hC hd K hK
          obtain ⟨(e13 : v 13 = _), -⟩ := hd
          obtain ⟨k4, k6, k7, k8⟩ := HCx.out w3 hC
          rw [← hfr] at hK ⊢
          simp only [e13] at hK ⊢
          go_simp
          exact hK _ _ hC (spPhi_stays (Below.refl _ _)) rfl
        · intro v w3 hC hd K hK
          obtain ⟨(e1 : v 1 = _), (e4 : v 4 = _), f8, f11, f14, -⟩ := hd
          obtain ⟨pa, pn, pc, e8, ho⟩ : ∃ (pa : Option Addr) (pn pc : Nat), v 8 = .slice pa pn pc ∧ w3.ownsRow Y3.heap.size 9 1 (.slice pa pn pc) x.2.s.prs.length (x.2.s.prs.flatMap strCells) := f8
          have e11 : v 11 = _ := f11
          have e14 : v 14 = _ := f14
          have Ho := hZ9 ho
          clear ho
          rw [← hfr] at hK ⊢
          simp only [e1, e4, e8, e11, e14] at hK ⊢
          go_simp
          exact hK _ _ hC (spPhi_stays (Below.refl _ _)) ⟨pa, pn, pc, rfl, Ho.out⟩
        intro v w3 hC hd K hK
        obtain ⟨f15, -⟩ := hd
        obtain ⟨pa, pn, pc, e15, ho⟩ : ∃ (pa : Option Addr) (pn pc : Nat), v 15 = .agg #[.int .i64 x.1, .int .i64 nx, .string x.2.s.plan, .slice pa pn pc, .bool x.2.s.su, .bool x.2.s.fa] ∧ w3.ownsRow Y3.heap.size 9 1 (.slice pa pn pc) x.2.s.prs.length (x.2.s.prs.flatMap strCells) := f15
        have Ho := hZ9 ho
        clear ho
        rw [← hfr] at hK ⊢
        simp only [e15] at hK ⊢
        go_simp
        exact hK _ _ (hC.alloc hC.size _) (spPhi_stays ((Below.refl _ _).alloc (Nat.le_refl _) _)) ⟨_, pa, pn, pc, rfl, heap_alloc_new _ _, ownsRow_below Ho.out ((Below.refl _ _).alloc (Nat.le_refl _) _)⟩
      intro v w3 hC hall
      obtain ⟨g, pa, pn, pc, e16, hg, ho⟩ : ∃ (g : Nat) (pa : Option Addr) (pn pc : Nat), v 16 = .slice (some ⟨g, 0, none⟩) 1 1 ∧ w3.heap[g]? = some (.cells #[.int .i64 x.1, .int .i64 nx, .string x.2.s.plan, .slice pa pn pc, .bool x.2.s.su, .bool x.2.s.fa] 169) ∧ w3.ownsRow Y3.heap.size 9 1 (.slice pa pn pc) x.2.s.prs.length (x.2.s.prs.flatMap strCells) := hall.2
      have e0 : v 0 = .slice a S.length cp := hall.1.1.1.1.1.1.1.1.1.1.1.1.1.1.1.1.2
      have HownW := hZ9 (ownsRow_below Hown.out (HbO3.out.trans (hC.mono HbO3.out.size)))
      have HokW := hZ9 (Hok.out.below (HbO3.out.trans (hC.mono HbO3.out.size)))
      have HbW := hZ9 (Hb3.out.trans (hC.mono Hb3.out.size))
      have hbs := HbW.out.size
      have hb3s := Hb3.out.size
      have HXE := hZ9 (rec_block (c := spCells) (sz := 6) hg (x.1, nx, ⟨x.2.s, none, 0, 0, pa, pn, pc⟩) rfl)
      have HSn := hZ9 (show SbO w2.heap.size w3 ⟨x.2.s, none, 0, 0, pa, pn, pc⟩ from ⟨own_down ho hb3s, rfl, rfl, rfl, HSo.out.nus, HSo.out.plan, HSo.out.sizes⟩)
      simp only [List.take_succ_cons, List.take_zero, List.map_cons, List.map_nil, putsL, List.setIfInBounds_toArray, List.set_cons_succ, List.set_cons_zero, Nat.zero_add, Nat.reduceAdd, List.drop_succ_cons, List.drop_zero]
      simp only [e0, e16]
      clear hg ho hC hall
      generalize v 1 = u1, v 2 = u2, v 3 = u3, v 4 = u4, v 5 = u5, v 6 = u6, v 7 = u7, v 8 = u8, v 9 = u9, v 10 = u10, v 11 = u11, v 12 = u12, v 13 = u13, v 14 = u14, v 15 = u15
      clear e0 e16
      go_wp2_with (at_builtin; refine append_rec2 (c := spCells) (sz := 6) (fun _ => rfl) sp_one 169 171 _ 64 Tryz.underlying171 Tryz.spellInfo rfl (by decide) rfl _ _ rfl w2.heap.size hbs _ _ S [(x.1, nx, ⟨x.2.s, none, 0, 0, pa, pn, pc⟩)] rfl rfl HownW.out HXE.out ?hl1 ?hb1 ?_)
      case hl1 => unfold maxLen; (try simp); omega
      case hb1 => (try simp); omega
      intro R hR v5 w5 own5 hg5
      have HRe := hZ9 hR.out
      have HR5 := hZ9 (show SpsOk w2.heap.size w5 R from fun p hp => by
       rw [HRe.out] at hp
       rcases List.mem_append.1 hp with hp | hp
       · exact (HokW.out p hp).growT HownW.out (by decide) hg5
       rw [List.mem_singleton.1 hp]; exact HSn.out.growT HownW.out (by decide) hg5)
      have Hb5 := hZ9 (HbW.out.grown hg5 hbs (fun g hg => (ownsRow_block HownW.out g hg).1))
      have Own5 := hZ9 own5
      have HPf := hZ9 (show plainSp R = spUpto (plainM X) (k + 1) by rw [HRe.out, plainSp_snoc, HE.out, HP.out])
      clear own5 hg5 hR
      go_wp2
      exact ⟨⟨k + 1, R, by omega, by go_num, HPf, Own5.out, HR5.out, Hb5.out⟩, by simp [intOf]; omega⟩
    have Hn1 := hZ9 (HNe.out hk2)
    have hk3 : ¬ ((k : Int) + 1 < (X.length : Int)) := by omega
    obtain ⟨Y3, hY3⟩ : ∃ Y3, Y3 = (Y.alloc (Obj.cells #[.int .i64 x.1, .int .i64 12622780800] 25)) := ⟨_, rfl⟩
    have r3 : Y3.heap[Y.heap.size]? = some (Obj.cells #[.int .i64 x.1, .int .i64 nx] 25) := by rw [hY3]; rw [Hn1.out]; exact heap_alloc_new _ _
    have hbYY : Below Y.heap.size Y Y3 := by rw [hY3]; exact (Below.refl _ _).alloc (Nat.le_refl _) _
    have HR3 := hZ9 r3
    have HbYY := hZ9 hbYY
    have HY3 := hZ9 hY3
    clear hY3 r3 hbYY
    go_upto_region 10 with (fail)
    clear y0 y1
    rw [← HY3.out]
    have Hb3 := hZ9 (HbY.out.trans (HbYY.out.mono HbY.out.size))
    have HbO3 := hZ9 (HbYo.out.trans (HbYY.out.mono HbYo.out.size))
    have HX3 := hZ9 ((HbYY.out.block _ hwY).trans HYr.out)
    have HSo3 := hZ9 (HSo.out.below HbO3.out)
    have h3z : Y.heap.size < Y3.heap.size := (ltB9 HR3.out)
    have Hpl := hZ9 (HSo.out.row.1)
    have HCx := hZ9 (show ∀ W, Below Y3.heap.size Y3 W → W.cell? ⟨wo.heap.size, 4, none⟩ = some (.string x.2.s.plan) ∧ W.cell? ⟨wo.heap.size, 6, none⟩ = some (.slice x.2.pa x.2.pn x.2.pc) ∧ W.cell? ⟨wo.heap.size, 7, none⟩ = some (.bool x.2.s.su) ∧ W.cell? ⟨wo.heap.size, 8, none⟩ = some (.bool x.2.s.fa) from fun W hW => by
     have q := (hW.block _ (by omega)).trans HX3.out
     exact ⟨cell_of_row W _ 4 _ _ _ q, cell_of_row W _ 6 _ _ _ q, cell_of_row W _ 7 _ _ _ q, cell_of_row W _ 8 _ _ _ q⟩)
    have HCp := hZ9 (show ∀ W, Below Y3.heap.size Y3 W → W.cell? ⟨Y.heap.size, 0, none⟩ = some (.int .i64 x.1) ∧ W.cell? ⟨Y.heap.size, 1, none⟩ = some (.int .i64 nx) from fun W hW => by
     have q := (hW.block _ h3z).trans HR3.out
     exact ⟨cell_of_row W _ 0 _ _ _ q, cell_of_row W _ 1 _ _ _ q⟩)
    refine wp_region_free3 17 (fun W => Below Y3.heap.size Y3 W) (spPhi Y3 wo.heap.size a S.length cp nx x) (by kernel_rfl) (by kernel_rfl) (Below.refl _ _).drew ?_ ?_
    · generalize hfr : (fun v : Nat → Value => _) = fr
      simp only [List.take_succ_cons, List.take_zero, List.map_cons, List.map_nil, putsL, List.setIfInBounds_toArray, List.set_cons_succ, List.set_cons_zero, Nat.zero_add, Nat.reduceAdd] at hfr
      simp only [List.take_succ_cons, List.take_zero, FreeHead]
      refine ⟨?_, ?_, ?_, ?_, ?_, ?_, ?_, ?_, ?_, ?_, ?_, ?_, ?_, ?_, ?_, ?_, ?_, trivial⟩
      · intro v w3 hC hd K hK
        rw [← hfr] at hK ⊢
        go_simp
        exact hK _ _ hC (spPhi_stays (Below.refl _ _)) rfl
      · intro v w3 hC hd K hK
        obtain ⟨p0, p1⟩ := HCp.out w3 hC
        rw [← hfr] at hK ⊢
        go_simp
        exact hK _ _ hC (spPhi_stays (Below.refl _ _)) rfl
      · intro v w3 hC hd K hK
        rw [← hfr] at hK ⊢
        go_simp
        exact hK _ _ hC (spPhi_stays (Below.refl _ _)) rfl
      · intro v w3 hC hd K hK
        obtain ⟨(e2 : v 2 = _), -⟩ := hd
        rw [← hfr] at hK ⊢
        simp only [e2] at hK ⊢
        go_simp
        exact hK _ _ hC (spPhi_stays (Below.refl _ _)) rfl
      · intro v w3 hC hd K hK
        obtain ⟨(e3 : v 3 = _), -⟩ := hd
        obtain ⟨k4, k6, k7, k8⟩ := HCx.out w3 hC
        rw [← hfr] at hK ⊢
        simp only [e3] at hK ⊢
        go_simp
        exact hK _ _ hC (spPhi_stays (Below.refl _ _)) rfl
      · intro v w3 hC hd K hK
        rw [← hfr] at hK ⊢
        go_simp
        exact hK _ _ hC (spPhi_stays (Below.refl _ _)) rfl
      · intro v w3 hC hd K hK
        obtain ⟨(e5 : v 5 = _), -⟩ := hd
        rw [← hfr] at hK ⊢
        simp only [e5] at hK ⊢
        go_simp
        exact hK _ _ hC (spPhi_stays (Below.refl _ _)) rfl
      · intro v w3 hC hd K hK
        obtain ⟨(e6 : v 6 = _), -⟩ := hd
        obtain ⟨k4, k6, k7, k8⟩ := HCx.out w3 hC
        rw [← hfr] at hK ⊢
        simp only [e6] at hK ⊢
        go_simp
        exact hK _ _ hC (spPhi_stays (Below.refl _ _)) rfl
      · intro v w3 hC hd K hK
        obtain ⟨(e7 : v 7 = _), -⟩ := hd
        have hXs := rec_of_strs (HSo3.out.below hC).strs
        have hpl2 : x.2.s.prs.length ≤ 140737488355328 / 16 := by have := HPb.out; omega
        refine wp_append_copy (c := strCells) (sz := 1) (fun _ => rfl) str_one 9 58 _ 16 Tryz.underlying58 Tryz.strInfo rfl (by decide) rfl _ _ rfl Y3.heap.size hC.size none _ x.2.s.prs rfl (by rw [← hfr]; exact e7) (World.ownsRow_nil _ _ _ _) hXs (by unfold maxLen; omega) (by omega) (fun v' w' h1 h2 => ?_)
        obtain ⟨pa, pc, rfl, -, -⟩ := own_shape h1
        exact hK _ _ (hC.trans (h2.mono hC.size)) (spPhi_stays h2) ⟨pa, _, pc, rfl, h1⟩
      · intro v w3 hC hd K hK
        rw [← hfr] at hK ⊢
        go_simp
        exact hK _ _ hC (spPhi_stays (Below.refl _ _)) rfl
      · intro v w3 hC hd K hK
        obtain ⟨(e9 : v 9 = _), -⟩ := hd
        rw [← hfr] at hK ⊢
        simp only [e9] at hK ⊢
        go_simp
        exact hK _ _ hC (spPhi_stays (Below.refl _ _)) rfl
      · intro v w3 hC hd K hK
        obtain ⟨(e10 : v 10 = _), -⟩ := hd
        obtain ⟨k4, k6, k7, k8⟩ := HCx.out w3 hC
        rw [← hfr] at hK ⊢
        simp only [e10] at hK ⊢
        go_simp
        exact hK _ _ hC (spPhi_stays (Below.refl _ _)) rfl
      · intro v w3 hC hd K hK
        rw [← hfr] at hK ⊢
        go_simp
        exact hK _ _ hC (spPhi_stays (Below.refl _ _)) rfl
      · intro v w3 hC hd K hK
        obtain ⟨(e12 : v 12 = _), -⟩ := hd
        rw [← hfr] at hK ⊢
        simp only [e12] at hK ⊢
        go_simp
        exact hK _ _ hC (spPhi_stays (Below.refl _ _)) rfl
      · intro v w3 hC hd K hK
        obtain ⟨(e13 : v 13 = _), -⟩ := hd
        obtain ⟨k4, k6, k7, k8⟩ := HCx.out w3 hC
        rw [← hfr] at hK ⊢
        simp only [e13] at hK ⊢
        go_simp
        exact hK _ _ hC (spPhi_stays (Below.refl _ _)) rfl
      · intro v w3 hC hd K hK
        obtain ⟨(e1 : v 1 = _), (e4 : v 4 = _), f8, f11, f14, -⟩ := hd
        obtain ⟨pa, pn, pc, e8, ho⟩ : ∃ (pa : Option Addr) (pn pc : Nat), v 8 = .slice pa pn pc ∧ w3.ownsRow Y3.heap.size 9 1 (.slice pa pn pc) x.2.s.prs.length (x.2.s.prs.flatMap strCells) := f8
        have e11 : v 11 = _ := f11
        have e14 : v 14 = _ := f14
        have Ho := hZ9 ho
        clear ho
        rw [← hfr] at hK ⊢
        simp only [e1, e4, e8, e11, e14] at hK ⊢
        go_simp
        exact hK _ _ hC (spPhi_stays (Below.refl _ _)) ⟨pa, pn, pc, rfl, Ho.out⟩
      intro v w3 hC hd K hK
      obtain ⟨f15, -⟩ := hd
      obtain ⟨pa, pn, pc, e15, ho⟩ : ∃ (pa : Option Addr) (pn pc : Nat), v 15 = .agg #[.int .i64 x.1, .int .i64 nx, .string x.2.s.plan, .slice pa pn pc, .bool x.2.s.su, .bool x.2.s.fa] ∧ w3.ownsRow Y3.heap.size 9 1 (.slice pa pn pc) x.2.s.prs.length (x.2.s.prs.flatMap strCells) := f15
      have Ho := hZ9 ho
      clear ho
      rw [← hfr] at hK ⊢
      simp only [e15] at hK ⊢
      go_simp
      exact hK _ _ (hC.alloc hC.size _) (spPhi_stays ((Below.refl _ _).alloc (Nat.le_refl _) _)) ⟨_, pa, pn, pc, rfl, heap_alloc_new _ _, ownsRow_below Ho.out ((Below.refl _ _).alloc (Nat.le_refl _) _)⟩
    intro v w3 hC hall
    obtain ⟨g, pa, pn, pc, e16, hg, ho⟩ : ∃ (g : Nat) (pa : Option Addr) (pn pc : Nat), v 16 = .slice (some ⟨g, 0, none⟩) 1 1 ∧ w3.heap[g]? = some (.cells #[.int .i64 x.1, .int .i64 nx, .string x.2.s.plan, .slice pa pn pc, .bool x.2.s.su, .bool x.2.s.fa] 169) ∧ w3.ownsRow Y3.heap.size 9 1 (.slice pa pn pc) x.2.s.prs.length (x.2.s.prs.flatMap strCells) := hall.2
    have e0 : v 0 = .slice a S.length cp := hall.1.1.1.1.1.1.1.1.1.1.1.1.1.1.1.1.2
    have HownW := hZ9 (ownsRow_below Hown.out (HbO3.out.trans (hC.mono HbO3.out.size)))
    have HokW := hZ9 (Hok.out.below (HbO3.out.trans (hC.mono HbO3.out.size)))
    have HbW := hZ9 (Hb3.out.trans (hC.mono Hb3.out.size))
    have hbs := HbW.out.size
    have hb3s := Hb3.out.size
    have HXE := hZ9 (rec_block (c := spCells) (sz := 6) hg (x.1, nx, ⟨x.2.s, none, 0, 0, pa, pn, pc⟩) rfl)
    have HSn := hZ9 (show SbO w2.heap.size w3 ⟨x.2.s, none, 0, 0, pa, pn, pc⟩ from ⟨own_down ho hb3s, rfl, rfl, rfl, HSo.out.nus, HSo.out.plan, HSo.out.sizes⟩)
    simp only [List.take_succ_cons, List.take_zero, List.map_cons, List.map_nil, putsL, List.setIfInBounds_toArray, List.set_cons_succ, List.set_cons_zero, Nat.zero_add, Nat.reduceAdd, List.drop_succ_cons, List.drop_zero]
    simp only [e0, e16]
    clear hg ho hC hall
    generalize v 1 = u1, v 2 = u2, v 3 = u3, v 4 = u4, v 5 = u5, v 6 = u6, v 7 = u7, v 8 = u8, v 9 = u9, v 10 = u10, v 11 = u11, v 12 = u12, v 13 = u13, v 14 = u14, v 15 = u15
    clear e0 e16
    go_wp2_with (at_builtin; refine append_rec2 (c := spCells) (sz := 6) (fun _ => rfl) sp_one 169 171 _ 64 Tryz.underlying171 Tryz.spellInfo rfl (by decide) rfl _ _ rfl w2.heap.size hbs _ _ S [(x.1, nx, ⟨x.2.s, none, 0, 0, pa, pn, pc⟩)] rfl rfl HownW.out HXE.out ?hl2 ?hb2 ?_)
    case hl2 => unfold maxLen; (try simp); omega
    case hb2 => (try simp); omega
    intro R hR v5 w5 own5 hg5
    have HRe := hZ9 hR.out
    have HR5 := hZ9 (show SpsOk w2.heap.size w5 R from fun p hp => by
     rw [HRe.out] at hp
     rcases List.mem_append.1 hp with hp | hp
     · exact (HokW.out p hp).growT HownW.out (by decide) hg5
     rw [List.mem_singleton.1 hp]; exact HSn.out.growT HownW.out (by decide) hg5)
    have Hb5 := hZ9 (HbW.out.grown hg5 hbs (fun g hg => (ownsRow_block HownW.out g hg).1))
    have Own5 := hZ9 own5
    have HPf := hZ9 (show plainSp R = spUpto (plainM X) (k + 1) by rw [HRe.out, plainSp_snoc, HE.out, HP.out])
    clear own5 hg5 hR
    go_wp2
    exact ⟨⟨k + 1, R, by omega, by go_num, HPf, Own5.out, HR5.out, Hb5.out⟩, by simp [intOf]; omega⟩
  have HE := hZ9 (show spUpto (plainM X) k = spellsL n l by
   have e : k = X.length := by omega
   have e2 : X.length = (plainM X).length := (plainM_len X).symm
   unfold spellsL
   rw [e, e2, HpX.out])
  go_wp2
  go_ret
  exact ⟨a, cp, S, rfl, own_down Hown.out HbX.out.size, HP.out.trans HE.out, fun p hp => (Hok.out p hp).down HbX.out.size, HbX.out.trans (Hb.out.mono HbX.out.size)⟩
theorem any_step {s : ByteArray} {N : List ByteArray} {k : Nat} (h : k < N.length) (h1 : (N.take k).any (fun a => sameS a s) = false) (h2 : sameS N[k] s = false) : (N.take (k + 1)).any (fun a => sameS a s) = false := by
 rw [List.take_succ_eq_append_getElem h, List.any_append, h1]; simp [h2]
theorem active1_calls (p : Int × Int × SbX) (s : ByteArray) (gb base : Nat) (w : World) (h : SbO base w p.2.2) (hgb : gb < w.heap.size) (hc : w.cell? ⟨gb, 0, none⟩ = some (.string s)) :
 Calls Tryz.prog 108 #[spVal p, .pointer (some ⟨gb, 0, none⟩)] w fun e w' => e = .returned (.bool (hasT s p.2.2.s)) ∧ Below w.heap.size w w' := by
 obtain ⟨f, t, ⟨⟨i1, i2, i3, i4, nus, prs, su, fa⟩, na, nn, nc, pa, pn, pc⟩⟩ := p
 have hst := h.strs
 dsimp only at hst
 obtain ⟨W, hW⟩ : ∃ W, W = w.alloc (Obj.cells #[.int .i64 f, .int .i64 t, .string i4, .slice pa pn pc, .bool su, .bool fa] 169) := ⟨_, rfl⟩
 have hw0 : Below w.heap.size w W := by rw [hW]; go_grown
 have r0 : W.heap[w.heap.size]? = some (Obj.cells #[.int .i64 f, .int .i64 t, .string i4, .slice pa pn pc, .bool su, .bool fa] 169) := by rw [hW]; exact heap_alloc_new _ _
 have x3 := cell_of_row W _ 3 _ _ _ r0
 have c0 : W.cell? ⟨gb, 0, none⟩ = some (.string s) := (hw0.cell (p := ⟨gb, 0, none⟩) hgb).trans hc
 have HS := hZ9 (hst.below hw0)
 have Hb := hZ9 hw0
 have HW := hZ9 hW
 obtain ⟨a1, c1, e1, hl1, hm1, -⟩ := hst
 cases e1
 have hm1 := hm1.1
 unfold maxLen at hm1
 have HH := hZ9 (show hasT s ⟨i1, i2, i3, i4, nus, prs, su, fa⟩ = prs.any (fun a => sameS a s) from rfl)
 unfold spVal spCells
 dsimp only
 clear hW hw0 r0 hc h
 go_enter Tryz.func108, Tryz.ntmps108
 go_upto_region 1 with (fail)
 rw [← HW.out]
 go_wp2_with fail
 go_loop [9] (fun i => ∃ k : Nat, k ≤ prs.length ∧ i = .int .i64 k ∧ (prs.take k).any (fun a => sameS a s) = false) (fun i => prs.length - (intOf i).toNat)
 case atStart => exact ⟨0, Nat.zero_le _, rfl, rfl⟩
 case round =>
  obtain ⟨k, hk, rfl, hn⟩ := hrel
  have Hn := hZ9 hn
  clear hn
  by_cases hlt : k < prs.length
  · obtain ⟨av2, cap2, ee, -, -, hxx⟩ := HS.out
    cases ee
    obtain ⟨b1, o1, rfl, hB1, hxx⟩ := hxx (by rintro rfl; cases hlt)
    obtain ⟨u0, -⟩ := hxx k hlt
    rw [Nat.mul_one] at u0
    have hk0 : (0 : Int) ≤ (k : Int) := Int.natCast_nonneg _
    have hk1 : (k : Int) < (prs.length : Int) := by omega
    have HT := hZ9 (fun h => any_step hlt Hn.out h)
    have HY := hZ9 (fun h => any_hit (p := fun a => sameS a s) hlt h)
    clear hxx
    generalize prs[k] = p at *
    cases hq : sameS p s with
    | true =>
      have HE := hZ9 (HY.out hq)
      have hq1 : (p.toList == s.toList) = true := hq
      clear HT HY hq
      go_wp2
      go_ret
      exact ⟨ret_bool (by rw [HH.out, HE.out]), Hb.out⟩
    | false =>
      have HE := hZ9 (HT.out hq)
      have hq1 : (p.toList == s.toList) = false := hq
      clear HT HY hq
      go_wp2
      exact ⟨⟨k + 1, by omega, by go_num, HE.out⟩, by simp [intOf]; omega⟩
  have HE := hZ9 (any_end (p := fun a => sameS a s) (Nat.le_of_not_lt hlt) Hn.out)
  go_wp2
  go_ret
  exact ⟨ret_bool (by rw [HH.out, HE.out]), Hb.out⟩
theorem keptP_take (k : Sp → Bool) (S : List Sp) (j : Nat) (h : j < S.length) : keptP k (S.take (j + 1)) = keptP k (S.take j) ++ (if k S[j] = true then [((S[j]).f, (S[j]).t)] else []) := by
 unfold keptP
 rw [List.take_succ_eq_append_getElem h, List.filter_append, List.map_append]
 congr 1
 cases hb : k S[j] <;> simp [hb]
theorem keptP_len (k : Sp → Bool) (S : List Sp) : (keptP k S).length ≤ S.length := by
 unfold keptP; rw [List.length_map]; exact List.length_filter_le _ _
theorem plainSp_get (S : List (Int × Int × SbX)) (k : Nat) (h : k < S.length) : (plainSp S)[k]'(by rw [plainSp_len]; exact h) = ⟨(S[k]).1, (S[k]).2.1, (S[k]).2.2.s⟩ := List.getElem_map _
def PersW (w : World) (N : List (Int × Int)) (e : Ending) (w' : World) : Prop := ∃ v, e = .returned v ∧ w'.ownsRow w.heap.size 25 2 v N.length (N.flatMap perCells) ∧ Below w.heap.size w w'
theorem joinedP_own  (v : Value) (L : List (Int × Int)) (w : World) (h : RecAt perCells 2 w v L) (hl : L.length ≤ 10000) :
 Calls Tryz.prog 145 #[v, .func (.func 146) #[] #[], .func (.func 147) #[] #[]] w (PersW w (joinP L)) := by
 have HA := hZ9 h
 obtain ⟨av, cap, rfl, hcl, hcm⟩ := rec_shape h
 unfold maxLen at hcm
 clear h
 go_enter Tryz.func145, Tryz.ntmps145
 go_wp2_with fail
 go_loopw [7, 13] (fun vo i wr => ∃ (k : Nat) (O : List (Int × Int)), k ≤ L.length ∧ i = .int .i64 k ∧ RowKit.Hid (O = joinP (L.take k)) ∧ wr.ownsRow w.heap.size 25 2 vo O.length (O.flatMap perCells) ∧ Below w.heap.size w wr) (fun _ i _ => L.length - (intOf i).toNat)
 case atStart => exact ⟨0, [], Nat.zero_le _, rfl, hZ9 (rfl), World.ownsRow_nil _ _ _ _, Below.refl _ _⟩
 case round =>
  obtain ⟨wo, rfl⟩ : ∃ wo : World, wo = wr := ⟨_, rfl⟩
  obtain ⟨k, O, hk, rfl, HP, hown, hb⟩ := hrel
  obtain ⟨a, cp, rfl, hc1, hc2⟩ := own_shape hown
  unfold maxLen at hc2
  have Hown := hZ9 hown
  have Hb := hZ9 hb
  have hOl : O.length ≤ k := by rw [HP.out]; exact joinP_len L k hk
  by_cases hlt : k < L.length
  · have hk1 : (k : Int) < (L.length : Int) := by omega
    have hk0 : (0 : Int) ≤ (k : Int) := Int.natCast_nonneg _
    have HTk := hZ9 (joinP_take L k hlt)
    obtain ⟨a2, c2, e2, -, -, hx⟩ := (HA.out.below hb)
    cases e2
    obtain ⟨bb, o, rfl, hB, hx⟩ := hx (by rintro rfl; cases hlt)
    have hx := hx k hlt
    have x0 : wo.cell? ⟨bb, o + k * 2, none⟩ = some (.int .i64 (L[k]).1) := hx 0 (by decide)
    have x1c : wo.cell? ⟨bb, o + k * 2 + 1, none⟩ = some (.int .i64 (L[k]).2) := hx 1 (by decide)
    clear hx hB hown hb
    generalize L[k] = x at *
    obtain ⟨x1, x2⟩ := x
    dsimp only at x0 x1c HTk
    obtain ⟨Y, hY⟩ : ∃ Y, Y = wo.alloc (Obj.cells #[.int .i64 x1, .int .i64 x2] 25) := ⟨_, rfl⟩
    have hbY : Below wo.heap.size wo Y := by rw [hY]; go_grown
    have HYr := hZ9 (show Y.heap[wo.heap.size]? = some (Obj.cells #[.int .i64 x1, .int .i64 x2] 25) by rw [hY]; exact heap_alloc_new _ _)
    have HbY := hZ9 (Hb.out.trans (hbY.mono Hb.out.size))
    have HownY := hZ9 (ownsRow_below Hown.out hbY)
    have HY := hZ9 hY
    have hwY : wo.heap.size < Y.heap.size := (ltB9 HYr.out)
    clear hbY hY
    go_upto_region 6 with (fail)
    rw [← HY.out]
    by_cases hO : O = []
    · subst hO
      have hj0 : decide ((0 : Int) < 0) = false := by decide
      go_big_quiet (fail)
      obtain ⟨w2, hV⟩ : ∃ w2, w2 = Y.drewN nq := ⟨_, rfl⟩
      have hY2 : Below Y.heap.size Y w2 := by rw [hV]; exact below_drewN2 (Below.refl _ _) _
      rw [← hV]
      clear hV x0 x1c
      have HbA := hZ9 (HbY.out.trans (hY2.mono HbY.out.size))
      have HownA := hZ9 (ownsRow_below HownY.out hY2)
      have rA := (hY2.block _ hwY).trans HYr.out
      have c0 := cell_of_row w2 _ 0 _ _ _ rA
      have c1 := cell_of_row w2 _ 1 _ _ _ rA
      have hbs := HbA.out.size
      have HX := hZ9 (RecAt.one (c := perCells) (sz := 2) w2 (x1, x2) 25 #[.int .i64 x1, .int .i64 x2] rfl)
      clear rA hY2
      go_upto_region 8 with (fail)
      go_wp2_with (at_builtin; refine append_rec2 (c := perCells) (sz := 2) (fun _ => rfl) per_one2 25 85 _ 16 Tryz.underlying85 Tryz.perInfo rfl (by decide) rfl _ _ rfl w.heap.size ?hs _ _ [] [(x1, x2)] rfl rfl (HownA.out.alloc _) HX.out ?hl ?hb ?_)
      case hs => simp <;> omega
      case hl => unfold maxLen; simp <;> omega
      case hb => simp <;> omega
      intro R hR v5 w5 own5 hg5
      have HRe := hZ9 (show R = [] ++ [(x1, x2)] by rw [hR.out]; first | rfl | simp)
      have Own5 := hZ9 own5
      have Hb5 := hZ9 ((HbA.out.alloc hbs _).grown hg5 (by simp <;> omega) (fun g hg => (ownsRow_block HownA.out g hg).1))
      clear own5 hg5 hR hbs
      go_wp2
      exact ⟨⟨k + 1, R, by omega, by go_num, hZ9 (by rw [HRe.out, HTk.out, ← HP.out]; exact rfl), Own5.out, Hb5.out⟩, by simp [intOf]; omega⟩
    obtain ⟨M, q, rfl⟩ : ∃ M q, O = M ++ [q] := ⟨_, _, (List.dropLast_concat_getLast hO).symm⟩
    clear hO
    obtain ⟨g0, rfl, hln, hgB, hgl, hownM, hcell⟩ := own_last (c := perCells) (sz := 2) (fun _ => rfl) HownY.out
    have HownM := hZ9 hownM
    have z0 : Y.cell? ⟨g0, M.length * 2, none⟩ = some (.int .i64 q.1) := hcell 0 (by decide)
    have z1 : Y.cell? ⟨g0, M.length * 2 + 1, none⟩ = some (.int .i64 q.2) := hcell 1 (by decide)
    rw [hln] at hc1 hOl ⊢
    have hj1 : IntKind.i64.wrap ((M.length : Int) + 1 - 1) = (M.length : Int) := by rw [Int.add_sub_cancel]; exact IntWalk.i64_in _ (by omega)
    have hj2 : (0 : Int) < (M.length : Int) + 1 := by omega
    have hj3 : ((M.length : Int) + 1).toNat = M.length + 1 := by omega
    have hj4 : IntKind.i64.wrap (M.length : Int) = (M.length : Int) := IntWalk.i64_in _ (by omega)
    have hj5 : (0 : Int) ≤ (M.length : Int) := Int.natCast_nonneg _
    have hj6 : (M.length : Int) < (M.length : Int) + 1 := by omega
    have J := hZ9 (And.intro hj1 (And.intro hj2 (And.intro hj3 (And.intro hj4 (And.intro hj5 hj6)))))
    clear hownM hcell
    obtain ⟨q1, q2⟩ := q
    dsimp only at z0 z1
    have HownL := hZ9 (show Y.ownsRow w.heap.size 25 2 (.slice (some ⟨g0, 0, none⟩) (M.length + 1) cp) (M ++ [(q1, q2)]).length ((M ++ [(q1, q2)]).flatMap perCells) by rw [show (M ++ [(q1, q2)]).length = M.length + 1 by simp]; exact HownM.out)
    have Hyc := hZ9 (show ∀ p : BelowOf Y, p.w.cell? ⟨wo.heap.size, 0, none⟩ = some (.int .i64 x1) ∧ p.w.cell? ⟨wo.heap.size, 1, none⟩ = some (.int .i64 x2) from fun p => by
     have r := (p.h.block _ hwY).trans HYr.out
     exact ⟨cell_of_row p.w _ 0 _ _ _ r, cell_of_row p.w _ 1 _ _ _ r⟩)
    have Hzc := hZ9 (show ∀ p : BelowOf Y, p.w.cell? ⟨g0, M.length * 2, none⟩ = some (.int .i64 q1) ∧ p.w.cell? ⟨g0, M.length * 2 + 1, none⟩ = some (.int .i64 q2) from fun p => ⟨BelowOf.cell (a := ⟨g0, M.length * 2, none⟩) hgl z0 p, BelowOf.cell (a := ⟨g0, M.length * 2 + 1, none⟩) hgl z1 p⟩)
    have HT1 := hZ9 (show ∀ W, Below Y.heap.size Y W → Calls Tryz.prog 146 #[.agg #[.int .i64 q1, .int .i64 q2], .agg #[.int .i64 x1, .int .i64 x2]] W fun e w' => e = .returned (.bool (decide (q2 = x1))) ∧ Below W.heap.size W w' from fun W hW => during1_calls q1 q2 x1 x2 W)
    have hrr := Below.refl Y.heap.size Y
    have y0 := fun p : BelowOf Y => (Hyc.out p).1
    have y1 := fun p : BelowOf Y => (Hyc.out p).2
    have u0 := fun p : BelowOf Y => (Hzc.out p).1
    have u1 := fun p : BelowOf Y => (Hzc.out p).2
    clear x0 x1c z0 z1
    cases htg : decide (q2 = x1) with
    | true =>
      rw [htg] at HT1
      have Htg := hZ9 htg
      clear htg
      refine wp_region_quiet_below hrr (by kernel_rfl) (by kernel_rfl) ?_
      repeat (go_big_quiet_step (first | (go_at_call 146; refine calls_below_of (HT1.out _ (BelowOf.h _)) (fun e w' h => h))))
      refine wpQuiet_nil ?_
      intro w2 hw2
      have hY2 : Below Y.heap.size Y w2 := by obtain ⟨pq, rfl⟩ := hw2; exact pq.h
      clear hw2 y0 y1 u0 u1 hrr
      have HY2 := hZ9 hY2
      have Hown2 := hZ9 (ownsRow_below HownM.out hY2)
      have HT2 := hZ9 (show ∀ W, Below w2.heap.size w2 W → Calls Tryz.prog 147 #[.agg #[.int .i64 q1, .int .i64 q2], .agg #[.int .i64 x1, .int .i64 x2]] W fun e w' => e = .returned (.agg #[.int .i64 q1, .int .i64 x2]) ∧ Below W.heap.size W w' from fun W hW => during2_calls q1 q2 x1 x2 W)
      have HC2 := hZ9 (show ∀ W, Below w2.heap.size w2 W → (W.cell? ⟨wo.heap.size, 0, none⟩ = some (.int .i64 x1) ∧ W.cell? ⟨wo.heap.size, 1, none⟩ = some (.int .i64 x2)) ∧ (W.cell? ⟨g0, M.length * 2, none⟩ = some (.int .i64 q1) ∧ W.cell? ⟨g0, M.length * 2 + 1, none⟩ = some (.int .i64 q2)) from fun W hW => by
       have hh := HY2.out.trans (hW.mono HY2.out.size)
       exact ⟨Hyc.out ⟨W, hh⟩, Hzc.out ⟨W, hh⟩⟩)
      have HG := hZ9 (show ∀ W, Below w2.heap.size w2 W → W.ownsRow w.heap.size 25 2 (.slice (some ⟨g0, 0, none⟩) (M.length + 1) cp) (M.length + 1) ((M ++ [(q1, q2)]).flatMap perCells) from fun W hW => ownsRow_below Hown2.out hW)
      clear hY2 HT1
      go_upto_region 7 with (fail)
      refine wp_region_free2 (fun W => Below w2.heap.size w2 W) (fun i v _ => v = (match i with | 0 => .slice (some ⟨g0, 0, none⟩) (M.length + 1) cp | 1 => .int .i64 ((M.length : Int) + 1) | 2 => .int .i64 (M.length : Int) | 3 => .func (.func 147) #[] #[] | 4 => .slice (some ⟨g0, 0, none⟩) (M.length + 1) cp | 5 => .int .i64 ((M.length : Int) + 1) | 6 => .int .i64 (M.length : Int) | 7 => .pointer (some ⟨g0, M.length * 2, none⟩) | 8 => .agg #[.int .i64 q1, .int .i64 q2] | 9 => .agg #[.int .i64 x1, .int .i64 x2] | 10 => .agg #[.int .i64 q1, .int .i64 x2] | 11 => .pointer (some ⟨g0, M.length * 2, none⟩) | _ => v)) (by kernel_rfl) (by decide) (by kernel_rfl) (Below.refl _ _).drew ?_
      generalize hfr : (fun v : Nat → Value => _) = fr
      simp only [List.map_cons, List.map_nil, putsL, List.setIfInBounds_toArray, List.set_cons_succ, List.set_cons_zero, Nat.zero_add, Nat.reduceAdd] at hfr
      simp only [FreeOps]
      refine ⟨?_, ?_, ?_, ?_, ?_, ?_, ?_, ?_, ?_, ?_, ?_, ?_, ?_⟩
      iterate 2
       · intro v w3 hC hd K hK
         rw [← hfr] at hK ⊢
         go_simp
         exact hK _ _ hC (fun _ _ h => h) rfl
      · intro v w3 hC hd K hK
        obtain ⟨(e1 : v 1 = _), -⟩ := hd
        obtain ⟨hj1, hj2, hj3, hj4, hj5, hj6⟩ := J.out
        rw [← hfr] at hK ⊢
        simp only [e1] at hK ⊢
        go_simp
        exact hK _ _ hC (fun _ _ h => h) rfl
      iterate 3
       · intro v w3 hC hd K hK
         rw [← hfr] at hK ⊢
         go_simp
         exact hK _ _ hC (fun _ _ h => h) rfl
      · intro v w3 hC hd K hK
        obtain ⟨(e5 : v 5 = _), -⟩ := hd
        obtain ⟨hj1, hj2, hj3, hj4, hj5, hj6⟩ := J.out
        rw [← hfr] at hK ⊢
        simp only [e5] at hK ⊢
        go_simp
        exact hK _ _ hC (fun _ _ h => h) rfl
      · intro v w3 hC hd K hK
        obtain ⟨(e4 : v 4 = _), (e6 : v 6 = _), -⟩ := hd
        obtain ⟨hj1, hj2, hj3, hj4, hj5, hj6⟩ := J.out
        rw [← hfr] at hK ⊢
        simp only [e4, e6] at hK ⊢
        go_simp
        exact hK _ _ hC (fun _ _ h => h) rfl
      · intro v w3 hC hd K hK
        obtain ⟨(e7 : v 7 = _), -⟩ := hd
        obtain ⟨-, c0, c1⟩ := HC2.out w3 hC
        rw [← hfr] at hK ⊢
        simp only [e7] at hK ⊢
        go_simp
        exact hK _ _ hC (fun _ _ h => h) rfl
      · intro v w3 hC hd K hK
        obtain ⟨⟨c0, c1⟩, -⟩ := HC2.out w3 hC
        rw [← hfr] at hK ⊢
        go_simp
        exact hK _ _ hC (fun _ _ h => h) rfl
      · intro v w3 hC hd K hK
        obtain ⟨(e3 : v 3 = _), (e8 : v 8 = _), (e9 : v 9 = _), -⟩ := hd
        rw [← hfr] at hK ⊢
        simp only [e3, e8, e9] at hK ⊢
        go_simp
        refine (HT2.out w3 hC).mono ?_
        rintro e w4 ⟨rfl, hb4⟩
        exact hK _ _ (hC.trans (hb4.mono hC.size)) (fun _ _ h => h) rfl
      · intro v w3 hC hd K hK
        obtain ⟨(e0 : v 0 = _), (e2 : v 2 = _), -⟩ := hd
        obtain ⟨hj1, hj2, hj3, hj4, hj5, hj6⟩ := J.out
        rw [← hfr] at hK ⊢
        simp only [e0, e2] at hK ⊢
        go_simp
        exact hK _ _ hC (fun _ _ h => h) rfl
      intro v w3 hC hall
      obtain ⟨-, e10, e11⟩ : _ ∧ v 10 = _ ∧ v 11 = _ := ⟨trivial, hall.1.2, hall.2⟩
      have hownG := HG.out w3 hC
      obtain ⟨so, sg⟩ := own_setCells (perCells (q1, x2)) _ (M.length * 2) _ hownG
      rw [show M.length * 2 = M.length * 2 + 0 from rfl, flat_last_set (c := perCells) (sz := 2) (fun _ => rfl) M (q1, q2) (q1, x2) 0 (perCells (q1, x2)) rfl rfl] at so
      refine wp_store_mid _ _ _ rfl g0 (M.length * 2) (perCells (q1, x2)).toArray (by rw [← hfr]; exact e11) (by rw [← hfr]; exact e10) (own_there2 hownG (M.length * 2) 2 (by omega)) (by kernel_rfl) (by simp [perCells, Value.oneCell']) ?_
      have SO := hZ9 (show (w3.setCells g0 (M.length * 2) (perCells (q1, x2)).toArray.toList).ownsRow w.heap.size 25 2 (.slice (some ⟨g0, 0, none⟩) (M.length + 1) cp) (M ++ [(q1, x2)]).length ((M ++ [(q1, x2)]).flatMap perCells) by rw [List.length_append, List.length_singleton]; exact so)
      have SB := hZ9 (show Below w.heap.size w (w3.setCells g0 (M.length * 2) (perCells (q1, x2)).toArray.toList) from ((HbY.out.trans (HY2.out.mono HbY.out.size)).trans (hC.mono (by have := HY2.out.size; have := HbY.out.size; omega))).grown sg (by have := HY2.out.size; have := HbY.out.size; have := hC.size; omega) (fun g hg => by cases hg; exact hgB))
      rw [← hfr]
      generalize (w3.setCells g0 (M.length * 2) (perCells (q1, x2)).toArray.toList) = w4 at *
      clear so sg hownG
      generalize v 0 = y0, v 1 = y1, v 2 = y2, v 3 = y3, v 4 = y4, v 5 = y5, v 6 = y6, v 7 = y7, v 8 = y8, v 9 = y9, v 10 = y10, v 11 = y11
      clear hfr hall hC e10 e11
      have HE := hZ9 (chStep_eq M (q1, q2) x1 x2 (of_decide_eq_true Htg.out))
      obtain ⟨hj1, hj2, hj3, hj4, hj5, hj6⟩ := J.out
      go_wp2
      exact ⟨⟨k + 1, M ++ [(q1, x2)], by omega, by go_num, hZ9 (by rw [HTk.out, ← HP.out]; exact HE.out.symm), SO.out, SB.out⟩, by simp [intOf]; omega⟩
    | false =>
      rw [htg] at HT1
      have Htg := hZ9 htg
      clear htg
      refine wp_region_quiet_below hrr (by kernel_rfl) (by kernel_rfl) ?_
      repeat (go_big_quiet_step (first | (go_at_call 146; refine calls_below_of (HT1.out _ (BelowOf.h _)) (fun e w' h => h))))
      refine wpQuiet_nil ?_
      intro w2 hw2
      have hY2 : Below Y.heap.size Y w2 := by obtain ⟨pq, rfl⟩ := hw2; exact pq.h
      clear hw2 y0 y1 u0 u1 hrr hj1 hj2 hj3 hj4 hj5 hj6
      have HbA := hZ9 (HbY.out.trans (hY2.mono HbY.out.size))
      have HownA := hZ9 (ownsRow_below HownL.out hY2)
      have rA := (hY2.block _ hwY).trans HYr.out
      have c0 := cell_of_row w2 _ 0 _ _ _ rA
      have c1 := cell_of_row w2 _ 1 _ _ _ rA
      have hbs := HbA.out.size
      have HX := hZ9 (RecAt.one (c := perCells) (sz := 2) w2 (x1, x2) 25 #[.int .i64 x1, .int .i64 x2] rfl)
      clear rA hY2
      go_upto_region 8 with (fail)
      go_wp2_with (at_builtin; refine append_rec2 (c := perCells) (sz := 2) (fun _ => rfl) per_one2 25 85 _ 16 Tryz.underlying85 Tryz.perInfo rfl (by decide) rfl _ _ rfl w.heap.size ?hs _ _ (M ++ [(q1, q2)]) [(x1, x2)] rfl rfl (HownA.out.alloc _) HX.out ?hl ?hb ?_)
      case hs => simp <;> omega
      case hl => unfold maxLen; simp <;> omega
      case hb => simp <;> omega
      intro R hR v5 w5 own5 hg5
      have HRe := hZ9 (show R = (M ++ [(q1, q2)]) ++ [(x1, x2)] by rw [hR.out]; first | rfl | simp)
      have Own5 := hZ9 own5
      have Hb5 := hZ9 ((HbA.out.alloc hbs _).grown hg5 (by simp <;> omega) (fun g hg => (ownsRow_block HownA.out g hg).1))
      clear own5 hg5 hR hbs
      go_wp2
      exact ⟨⟨k + 1, R, by omega, by go_num, hZ9 (by rw [HRe.out, HTk.out, ← HP.out]; exact (chStep_ne M (q1, q2) x1 x2 (of_decide_eq_false Htg.out)).symm), Own5.out, Hb5.out⟩, by simp [intOf]; omega⟩
  have HE := hZ9 (show O = joinP L by rw [HP.out, List.take_of_length_le (by omega)])
  go_wp2
  go_ret
  exact ⟨_, rfl, by rw [← HE.out]; exact Hown.out, Hb.out⟩
theorem during_own (v : Value) (l : List Ev) (n : Int) (s : ByteArray) (gb : Nat) (w : World) (h : EvsAt w v l) (hl : l.length ≤ 1000) (hgb : gb < w.heap.size) (hc : w.cell? ⟨gb, 0, none⟩ = some (.string s)) :
 Calls Tryz.prog 107 #[v, .int .i64 n, .func (.func 108) #[] #[.pointer (some ⟨gb, 0, none⟩)]] w (PersW w (actL n s l)) := by
 have HSp := hZ9 (spells_calls v l n w h hl)
 have HSl := hZ9 (spellsL_len n l)
 have Hc := hZ9 hc
 obtain ⟨av, cap, rfl, hcl, hcm⟩ := rec_shape h.1
 clear h hcl hcm hc
 go_enter Tryz.func107, Tryz.ntmps107
 go_wp2_with fail
 refine HSp.out.mono ?_
 rintro e w2 ⟨a2, c2, S, rfl, own2, hp2, hok2, hb2⟩
 have hSl : S.length ≤ 1000 := by
  have h := HSl.out
  rw [← hp2, plainSp_len] at h; omega
 obtain ⟨ax, cx, ecx, hcx1, hcx2⟩ := own_shape own2
 cases ecx
 unfold maxLen at hcx2
 have HpS := hZ9 hp2
 have HokS := hZ9 hok2
 have HS := hZ9 (show RecAt spCells 6 w2 (.slice a2 S.length c2) S from RecAt.own (fun _ => rfl) own2)
 have Hb2 := hZ9 hb2
 have Hc2 := hZ9 (show w2.cell? ⟨gb, 0, none⟩ = some (.string s) from (hb2.cell (p := ⟨gb, 0, none⟩) hgb).trans Hc.out)
 have hgb2 : gb < w2.heap.size := Nat.lt_of_lt_of_le hgb hb2.size
 clear own2 hp2 hok2 hb2 HSp HSl hgb Hc
 go_wp2_with fail
 go_loopw [7, 14] (fun vo i wr => ∃ (k : Nat) (O : List (Int × Int)), k ≤ S.length ∧ i = .int .i64 k ∧ RowKit.Hid (O = keptP (fun a => hasT s a.s) ((plainSp S).take k)) ∧ wr.ownsRow w2.heap.size 25 2 vo O.length (O.flatMap perCells) ∧ Below w2.heap.size w2 wr) (fun _ i _ => S.length - (intOf i).toNat)
 case atStart => exact ⟨0, [], Nat.zero_le _, rfl, hZ9 rfl, World.ownsRow_nil _ _ _ _, Below.refl _ _⟩
 case round =>
  obtain ⟨wo, rfl⟩ : ∃ wo : World, wo = wr := ⟨_, rfl⟩
  obtain ⟨k, O, hk, rfl, HP, hown, hb⟩ := hrel
  obtain ⟨a, cp, rfl, hc1, hc2⟩ := own_shape hown
  unfold maxLen at hc2
  have Hown := hZ9 hown
  have Hb := hZ9 hb
  have hOl : O.length ≤ 1000 := by
   have h := keptP_len (fun a => hasT s a.s) ((plainSp S).take k)
   rw [← HP.out, List.length_take] at h; omega
  by_cases hlt : k < S.length
  · have hk1 : (k : Int) < (S.length : Int) := by omega
    have hk0 : (0 : Int) ≤ (k : Int) := Int.natCast_nonneg _
    have HTk := hZ9 (keptP_take (fun a => hasT s a.s) (plainSp S) k (by rw [plainSp_len]; exact hlt))
    rw [plainSp_get S k hlt] at HTk
    have HSo := hZ9 ((HokS.out _ (List.getElem_mem hlt)).below hb)
    have HSw := hZ9 (HS.out.below hb)
    obtain ⟨a3, c3, e3, -, -, hx⟩ := HSw.out
    cases e3
    obtain ⟨bb, o, rfl, hB, hx⟩ := hx (by rintro rfl; cases hlt)
    have hx := hx k hlt
    have x0 : wo.cell? ⟨bb, o + k * 6, none⟩ = some (.int .i64 (S[k]).1) := hx 0 (by decide)
    have x1 : wo.cell? ⟨bb, o + k * 6 + 1, none⟩ = some (.int .i64 (S[k]).2.1) := hx 1 (by decide)
    have x2 : wo.cell? ⟨bb, o + k * 6 + 2, none⟩ = some (.string (S[k]).2.2.s.plan) := hx 2 (by decide)
    have x3 : wo.cell? ⟨bb, o + k * 6 + 3, none⟩ = some (.slice (S[k]).2.2.pa (S[k]).2.2.pn (S[k]).2.2.pc) := hx 3 (by decide)
    have x4 : wo.cell? ⟨bb, o + k * 6 + 4, none⟩ = some (.bool (S[k]).2.2.s.su) := hx 4 (by decide)
    have x5 : wo.cell? ⟨bb, o + k * 6 + 5, none⟩ = some (.bool (S[k]).2.2.s.fa) := hx 5 (by decide)
    clear hx hown
    generalize S[k] = x at *
    obtain ⟨Y, hY⟩ : ∃ Y, Y = wo.alloc (Obj.cells #[.int .i64 x.1, .int .i64 x.2.1, .string x.2.2.s.plan, .slice x.2.2.pa x.2.2.pn x.2.2.pc, .bool x.2.2.s.su, .bool x.2.2.s.fa] 169) := ⟨_, rfl⟩
    have hbY : Below wo.heap.size wo Y := by rw [hY]; go_grown
    have HYr := hZ9 (show Y.heap[wo.heap.size]? = some (Obj.cells #[.int .i64 x.1, .int .i64 x.2.1, .string x.2.2.s.plan, .slice x.2.2.pa x.2.2.pn x.2.2.pc, .bool x.2.2.s.su, .bool x.2.2.s.fa] 169) by rw [hY]; exact heap_alloc_new _ _)
    have HbYo := hZ9 hbY
    have HbY := hZ9 (Hb.out.trans (hbY.mono Hb.out.size))
    have HCall := hZ9 (active1_calls x s gb w.heap.size Y (HSo.out.below hbY) (Nat.lt_of_lt_of_le hgb2 (Nat.le_trans Hb.out.size hbY.size)) ((HbY.out.cell (p := ⟨gb, 0, none⟩) hgb2).trans Hc2.out))
    have HY := hZ9 hY
    have hwY : wo.heap.size < Y.heap.size := (ltB9 HYr.out)
    clear hbY hY hb
    have y0 : Y.cell? ⟨wo.heap.size, 0, none⟩ = some (.int .i64 x.1) := cell_of_row Y _ 0 _ _ _ HYr.out
    have y1 : Y.cell? ⟨wo.heap.size, 1, none⟩ = some (.int .i64 x.2.1) := cell_of_row Y _ 1 _ _ _ HYr.out
    have y2 : Y.cell? ⟨wo.heap.size, 2, none⟩ = some (.string x.2.2.s.plan) := cell_of_row Y _ 2 _ _ _ HYr.out
    have y3 : Y.cell? ⟨wo.heap.size, 3, none⟩ = some (.slice x.2.2.pa x.2.2.pn x.2.2.pc) := cell_of_row Y _ 3 _ _ _ HYr.out
    have y4 : Y.cell? ⟨wo.heap.size, 4, none⟩ = some (.bool x.2.2.s.su) := cell_of_row Y _ 4 _ _ _ HYr.out
    have y5 : Y.cell? ⟨wo.heap.size, 5, none⟩ = some (.bool x.2.2.s.fa) := cell_of_row Y _ 5 _ _ _ HYr.out
    go_upto_region 5 with (fail)
    rw [← HY.out]
    go_wp2_with fail
    refine HCall.out.mono ?_
    rintro e w3 ⟨rfl, hb3⟩
    have HY3 := hZ9 ((hb3.block _ hwY).trans HYr.out)
    have Hb3 := hZ9 (HbY.out.trans (hb3.mono HbY.out.size))
    have Hown3 := hZ9 (ownsRow_below Hown.out (HbYo.out.trans (hb3.mono HbYo.out.size)))
    clear hb3 x0 x1 x2 x3 x4 x5 y0 y1 y2 y3 y4 y5
    cases hh : hasT s x.2.2.s with
    | false =>
      have HE := hZ9 (show O = keptP (fun a => hasT s a.s) ((plainSp S).take (k + 1)) by rw [HTk.out, HP.out, hh, if_neg (by decide), List.append_nil])
      clear hh
      go_wp2
      exact ⟨⟨k + 1, O, by omega, by go_num, HE, Hown3.out, Hb3.out⟩, by simp [intOf]; omega⟩
    | true =>
      have HE := hZ9 (show O ++ [(x.1, x.2.1)] = keptP (fun a => hasT s a.s) ((plainSp S).take (k + 1)) by rw [HTk.out, HP.out, hh, if_pos rfl])
      clear hh
      have z0 : w3.cell? ⟨wo.heap.size, 0, none⟩ = some (.int .i64 x.1) := cell_of_row w3 _ 0 _ _ _ HY3.out
      have z1 : w3.cell? ⟨wo.heap.size, 1, none⟩ = some (.int .i64 x.2.1) := cell_of_row w3 _ 1 _ _ _ HY3.out
      have HX := hZ9 (RecAt.one (c := perCells) (sz := 2) w3 (x.1, x.2.1) 25 #[.int .i64 x.1, .int .i64 x.2.1] rfl)
      have hbs := Hb3.out.size
      go_wp2_with (at_builtin; refine append_rec2 (c := perCells) (sz := 2) (fun _ => rfl) per_one2 25 85 _ 16 Tryz.underlying85 Tryz.perInfo rfl (by decide) rfl _ _ rfl w2.heap.size ?hs _ _ O [(x.1, x.2.1)] rfl rfl (Hown3.out.alloc _) HX.out ?hl ?hb ?_)
      case hs => simp <;> omega
      case hl => unfold maxLen; simp <;> omega
      case hb => simp <;> omega
      intro R hR v5 w5 own5 hg5
      have HRe := hZ9 (hR.out.trans HE.out)
      have Own5 := hZ9 own5
      have Hb5 := hZ9 ((Hb3.out.alloc hbs _).grown hg5 (by simp <;> omega) (fun g hg => (ownsRow_block Hown3.out g hg).1))
      clear own5 hg5 hR hbs
      go_wp2
      exact ⟨⟨k + 1, R, by omega, by go_num, HRe, Own5.out, Hb5.out⟩, by simp [intOf]; omega⟩
  have HE := hZ9 (show joinP O = actL n s l by
   have e : k = (plainSp S).length := by rw [plainSp_len]; omega
   rw [HP.out, e, List.take_of_length_le (Nat.le_refl _), HpS.out]; rfl)
  have HJ := hZ9 (joinedP_own (.slice a O.length cp) O wo (RecAt.own (fun _ => rfl) Hown.out) (by omega))
  clear hown hb
  go_wp2_with fail
  refine HJ.out.mono ?_
  rintro e w3 ⟨v3, rfl, hp3, hb3⟩
  have Hp3 := hZ9 hp3
  have Hb3 := hZ9 (Hb2.out.trans ((Hb.out.trans (hb3.mono Hb.out.size)).mono Hb2.out.size))
  clear hp3 hb3
  go_wp2
  go_ret
  exact ⟨_, rfl, by rw [← HE.out]; exact own_down Hp3.out (by have := Hb2.out.size; have := Hb.out.size; omega), Hb3.out⟩
theorem active_own (v : Value) (l : List Ev) (n : Int) (s : ByteArray) (w : World) (h : EvsAt w v l) (hl : l.length ≤ 1000) :
 Calls Tryz.prog 68 #[v, .int .i64 n, .string s] w (PersW w (actL n s l)) := by
 obtain ⟨W, hW⟩ : ∃ W, W = w.alloc (Obj.cells #[Value.string s] 9) := ⟨_, rfl⟩
 have hw0 : Below w.heap.size w W := by rw [hW]; go_grown
 have r0 : W.heap[w.heap.size]? = some (Obj.cells #[Value.string s] 9) := by rw [hW]; exact heap_alloc_new _ _
 have HD := hZ9 (during_own v l n s w.heap.size W (h.below hw0) hl (ltB9 r0) (cell_of_row W _ 0 _ _ _ r0))
 have HW := hZ9 hW
 have Hw0 := hZ9 hw0
 obtain ⟨av, cap, rfl, hcl, hcm⟩ := rec_shape h.1
 clear h hW hw0 r0 hcl hcm
 go_enter Tryz.func68, Tryz.ntmps68
 go_upto_region 1 with (fail)
 rw [← HW.out]
 go_wp2_with fail
 refine HD.out.mono ?_
 rintro e w3 ⟨v3, rfl, hp3, hb3⟩
 have Hp3 := hZ9 hp3
 have Hb3 := hZ9 (Hw0.out.trans (hb3.mono Hw0.out.size))
 clear hp3 hb3
 go_wp2
 go_ret
 exact ⟨_, rfl, own_down Hp3.out Hw0.out.size, Hb3.out⟩
end Go.Proofs.YtngippiilgdnoaaGreat
namespace Go.Proofs.YtngippiilgdnoaaGreat
open Go.RowKit
end Go.Proofs.YtngippiilgdnoaaGreat
namespace Go.Proofs.YtngippiilgdnoaaGreat
open Go.RowKit
structure SpE (w : World) (o : Value) (p : Int × Int × SbX) : Prop where
 st : StrsAt w (.slice p.2.2.pa p.2.2.pn p.2.2.pc) p.2.2.s.prs
 pl : p.2.2.s.plan.size ≤ maxLen
 sp : PlainA p.2.2.pa
 off : p.2.2.s.prs ≠ [] → ∀ ad, p.2.2.pa = some ad → o.ownBlock ≠ some ad.block
theorem SpE.below {w w' : World} {o : Value} {p : Int × Int × SbX} (h : SpE w o p) (hb : Below w.heap.size w w') : SpE w' o p := ⟨h.st.below hb, h.pl, h.sp, h.off⟩
theorem SpE.turn {w w' : World} {o o' : Value} {p : Int × Int × SbX} (h : SpE w o p) (hg : w.grownBy w' o.ownBlock) (ho : ∀ g, o'.ownBlock = some g → o.ownBlock = some g ∨ w.heap.size ≤ g) : SpE w' o' p := by
 by_cases hne : p.2.2.s.prs = []
 · refine ⟨?_, h.pl, h.sp, fun h => absurd hne h⟩
   obtain ⟨av, cap, e, h1, h2, -⟩ := h.st
   rw [e, hne]
   rw [hne] at h1
   exact ⟨av, cap, rfl, h1, h2, fun h => absurd rfl h⟩
 obtain ⟨av, cap, e, h1, h2, h3⟩ := h.st
 obtain ⟨b, o2, e2, hB, hx⟩ := h3 hne
 have hpa : p.2.2.pa = some ⟨b, o2, none⟩ := by
  simp only [Value.slice.injEq] at e
  rw [e.1, e2]
 have hoff := h.off hne _ hpa
 have hbl : w'.heap[b]? = w.heap[b]? := hg.block b hB (fun e => hoff e.symm)
 refine ⟨⟨av, cap, e, h1, h2, fun _ => ⟨b, o2, e2, Nat.lt_of_lt_of_le hB hg.size, fun i hi => ⟨(World.cell?_of_block (a := ⟨b, _, none⟩) hbl).trans (hx i hi).1, (hx i hi).2⟩⟩⟩, h.pl, h.sp, fun _ ad had hq => ?_⟩
 rw [hpa] at had
 cases had
 rcases ho b hq with h | h
 · exact hoff h
 omega
end Go.Proofs.YtngippiilgdnoaaGreat
