/-
  The walk of joined at moments.
-/
import Derived.Test.YtngippiilgdnoaaGreatMgbq
import Derived.Test.YtngippiilgdnoaaGreatMgaf
namespace Go.Proofs.YtngippiilgdnoaaGreat
open Go.RowKit

def MmJ (L : List (Int × SbX)) (w : World) (e : Ending) (w' : World) : Prop := ∃ (a : Option Addr) (c : Nat) (X : List (Int × SbX)), e = .returned (.slice a X.length c) ∧ w'.ownsRow w.heap.size 239 9 (.slice a X.length c) X.length (X.flatMap mmCells) ∧ plainM X = jmL (plainM L) ∧ (∀ p ∈ X, p ∈ L) ∧ Below w.heap.size w w'
theorem joinedM_take (L : List (Int × SbX)) (k : Nat) (h : k < L.length) : jmL ((plainM L).take (k + 1)) = jmStep (jmL ((plainM L).take k)) ((L[k]).1, (L[k]).2.s) := by
  rw [jmL_take (plainM L) k (by rw [plainM_len]; exact h)]
  unfold plainM
  rw [List.getElem_map]

set_option maxRecDepth 100000 in
set_option maxHeartbeats 12800000 in
theorem joinedM_calls (base : Nat) (v : Value) (L : List (Int × SbX)) (w : World) (h : RecAt mmCells 9 w v L) (hl : L.length ≤ 10000) (hok : MmsOk base w L) :
    Calls Tryz.prog 178 #[v, .func (.func 180) #[] #[], .func (.func 182) #[] #[]] w (MmJ L w) := by
  have HA := Lib.hid h
  have HOk := Lib.hid hok
  obtain ⟨av, cap, rfl, hcl, hcm⟩ := rec_shape h
  unfold maxLen at hcm
  clear h hok
  go_enter Tryz.func178, Tryz.ntmps178
  go_wp2_with fail
  go_loopw [7, 13] (fun vo i wr => ∃ (k : Nat) (O : List (Int × SbX)), k ≤ L.length ∧ i = .int .i64 k ∧ RowKit.Hid (plainM O = jmL ((plainM L).take k) ∧ ∀ p ∈ O, p ∈ L) ∧ wr.ownsRow w.heap.size 239 9 vo O.length (O.flatMap mmCells) ∧ Below w.heap.size w wr) (fun _ i _ => L.length - (intOf i).toNat)
  case atStart => exact ⟨0, [], Nat.zero_le _, rfl, Lib.hid (⟨rfl, fun p hp => by cases hp⟩), World.ownsRow_nil _ _ _ _, Below.refl _ _⟩
  case round =>
    obtain ⟨wo, rfl⟩ : ∃ wo : World, wo = wr := ⟨_, rfl⟩
    obtain ⟨k, O, hk, rfl, HP, hown, hb⟩ := hrel
    obtain ⟨a, cp, rfl, hc1, hc2⟩ := own_shape hown
    unfold maxLen at hc2
    have Hown := Lib.hid hown
    have Hb := Lib.hid hb
    have hOl : O.length ≤ k := by rw [← plainM_len O, HP.out.1]; exact jmL_len _ k (by rw [plainM_len]; exact hk)
    by_cases hlt : k < L.length
    · have hk1 : (k : Int) < (L.length : Int) := by omega
      have hk0 : (0 : Int) ≤ (k : Int) := Int.natCast_nonneg _
      have HTk := Lib.hid (joinedM_take L k hlt)
      have HMem := Lib.hid (List.getElem_mem hlt : L[k] ∈ L)
      obtain ⟨a2, c2, e2, -, -, hx⟩ := (HA.out.below hb)
      cases e2
      obtain ⟨bb, o, rfl, hB, hx⟩ := hx (by rintro rfl; cases hlt)
      have hx := hx k hlt
      have x0 : wo.cell? ⟨bb, o + k * 9, none⟩ = some (.int .i64 (L[k]).1) := hx 0 (by decide)
      have x1 : wo.cell? ⟨bb, o + k * 9 + 1, none⟩ = some (.int .i64 (L[k]).2.s.id) := hx 1 (by decide)
      have x2 : wo.cell? ⟨bb, o + k * 9 + 2, none⟩ = some (.int .i64 (L[k]).2.s.ac) := hx 2 (by decide)
      have x3 : wo.cell? ⟨bb, o + k * 9 + 3, none⟩ = some (.int .i64 (L[k]).2.s.si) := hx 3 (by decide)
      have x4 : wo.cell? ⟨bb, o + k * 9 + 4, none⟩ = some (.string (L[k]).2.s.plan) := hx 4 (by decide)
      have x5 : wo.cell? ⟨bb, o + k * 9 + 5, none⟩ = some (.slice (L[k]).2.na (L[k]).2.nn (L[k]).2.nc) := hx 5 (by decide)
      have x6 : wo.cell? ⟨bb, o + k * 9 + 6, none⟩ = some (.slice (L[k]).2.pa (L[k]).2.pn (L[k]).2.pc) := hx 6 (by decide)
      have x7 : wo.cell? ⟨bb, o + k * 9 + 7, none⟩ = some (.bool (L[k]).2.s.su) := hx 7 (by decide)
      have x8 : wo.cell? ⟨bb, o + k * 9 + 8, none⟩ = some (.bool (L[k]).2.s.fa) := hx 8 (by decide)
      clear hx hB hown hb
      generalize L[k] = x at *

      obtain ⟨Y, hY⟩ : ∃ Y, Y = wo.alloc (Obj.cells #[.int .i64 x.1, .int .i64 x.2.s.id, .int .i64 x.2.s.ac, .int .i64 x.2.s.si, .string x.2.s.plan, .slice x.2.na x.2.nn x.2.nc, .slice x.2.pa x.2.pn x.2.pc, .bool x.2.s.su, .bool x.2.s.fa] 239) := ⟨_, rfl⟩
      have hbY : Below wo.heap.size wo Y := by rw [hY]; go_grown
      have HYr := Lib.hid (show Y.heap[wo.heap.size]? = some (Obj.cells #[.int .i64 x.1, .int .i64 x.2.s.id, .int .i64 x.2.s.ac, .int .i64 x.2.s.si, .string x.2.s.plan, .slice x.2.na x.2.nn x.2.nc, .slice x.2.pa x.2.pn x.2.pc, .bool x.2.s.su, .bool x.2.s.fa] 239) by rw [hY]; exact heap_alloc_new _ _)
      have HbY := Lib.hid (Hb.out.trans (hbY.mono Hb.out.size))
      have HownY := Lib.hid (ownsRow_below Hown.out hbY)
      have HY := Lib.hid hY
      have hwY : wo.heap.size < Y.heap.size := (Array.getElem?_eq_some_iff.1 HYr.out).1
      clear hbY hY
      go_upto_region 6 with (fail)
      rw [← HY.out]
      by_cases hO : O = []
      · subst hO
        have hj0 : decide ((0 : Int) < 0) = false := by decide
        go_big_quiet (fail)
        obtain ⟨w2, hV⟩ : ∃ w2, w2 = Y.drewN nq := ⟨_, rfl⟩
        have hY2 : Below Y.heap.size Y w2 := by rw [hV]; exact below_drewN2 (Below.refl _ _) _
        rw [← hV]
        clear hV x0 x1 x2 x3 x4 x5 x6 x7 x8
        have HbA := Lib.hid (HbY.out.trans (hY2.mono HbY.out.size))
        have HownA := Lib.hid (ownsRow_below HownY.out hY2)
        have rA := (hY2.block _ hwY).trans HYr.out
        have c0 : w2.cell? ⟨wo.heap.size, 0, none⟩ = some (.int .i64 x.1) := cell_of_row w2 _ 0 _ _ _ rA
        have c1 : w2.cell? ⟨wo.heap.size, 1, none⟩ = some (.int .i64 x.2.s.id) := cell_of_row w2 _ 1 _ _ _ rA
        have c2 : w2.cell? ⟨wo.heap.size, 2, none⟩ = some (.int .i64 x.2.s.ac) := cell_of_row w2 _ 2 _ _ _ rA
        have c3 : w2.cell? ⟨wo.heap.size, 3, none⟩ = some (.int .i64 x.2.s.si) := cell_of_row w2 _ 3 _ _ _ rA
        have c4 : w2.cell? ⟨wo.heap.size, 4, none⟩ = some (.string x.2.s.plan) := cell_of_row w2 _ 4 _ _ _ rA
        have c5 : w2.cell? ⟨wo.heap.size, 5, none⟩ = some (.slice x.2.na x.2.nn x.2.nc) := cell_of_row w2 _ 5 _ _ _ rA
        have c6 : w2.cell? ⟨wo.heap.size, 6, none⟩ = some (.slice x.2.pa x.2.pn x.2.pc) := cell_of_row w2 _ 6 _ _ _ rA
        have c7 : w2.cell? ⟨wo.heap.size, 7, none⟩ = some (.bool x.2.s.su) := cell_of_row w2 _ 7 _ _ _ rA
        have c8 : w2.cell? ⟨wo.heap.size, 8, none⟩ = some (.bool x.2.s.fa) := cell_of_row w2 _ 8 _ _ _ rA
        have hbs := HbA.out.size
        have HX := Lib.hid (RecAt.one (c := mmCells) (sz := 9) w2 x 239 #[.int .i64 x.1, .int .i64 x.2.s.id, .int .i64 x.2.s.ac, .int .i64 x.2.s.si, .string x.2.s.plan, .slice x.2.na x.2.nn x.2.nc, .slice x.2.pa x.2.pn x.2.pc, .bool x.2.s.su, .bool x.2.s.fa] rfl)
        clear rA hY2
        go_upto_region 8 with (fail)
        go_wp2_with (at_builtin; refine append_rec2 (c := mmCells) (sz := 9) (fun _ => rfl) mm_one 239 236 _ 104 Tryz.underlying236 Tryz.momInfo rfl (by decide) rfl _ _ rfl w.heap.size ?hs _ _ [] [x] rfl rfl (HownA.out.alloc _) HX.out ?hl ?hb ?_)
        case hs => simp <;> omega
        case hl => unfold maxLen; simp <;> omega
        case hb => simp <;> omega
        intro R hR v5 w5 own5 hg5
        have HRe := Lib.hid (show R = [] ++ [x] by rw [hR.out]; first | rfl | simp)
        have Own5 := Lib.hid own5
        have Hb5 := Lib.hid ((HbA.out.alloc hbs _).grown hg5 (by simp <;> omega) (fun g hg => (ownsRow_block HownA.out g hg).1))
        clear own5 hg5 hR hbs
        go_wp2
        exact ⟨⟨k + 1, R, by omega, by go_num, Lib.hid (⟨by rw [HRe.out, HTk.out, ← HP.out.1]; exact rfl, fun p hp => by
          rw [HRe.out] at hp
          rcases List.mem_append.1 hp with hp | hp
          · first | exact HP.out.2 p hp | cases hp
          · rw [List.mem_singleton.1 hp]; exact HMem.out⟩), Own5.out, Hb5.out⟩, by simp [intOf]; omega⟩
      · obtain ⟨M, q, rfl⟩ : ∃ M q, O = M ++ [q] := ⟨_, _, (List.dropLast_concat_getLast hO).symm⟩
        clear hO
        obtain ⟨g0, rfl, hln, hgB, hgl, hownM, hcell⟩ := own_last (c := mmCells) (sz := 9) (fun _ => rfl) HownY.out
        have HownM := Lib.hid hownM
        have z0 : Y.cell? ⟨g0, M.length * 9, none⟩ = some (.int .i64 q.1) := hcell 0 (by decide)
        have z1 : Y.cell? ⟨g0, M.length * 9 + 1, none⟩ = some (.int .i64 q.2.s.id) := hcell 1 (by decide)
        have z2 : Y.cell? ⟨g0, M.length * 9 + 2, none⟩ = some (.int .i64 q.2.s.ac) := hcell 2 (by decide)
        have z3 : Y.cell? ⟨g0, M.length * 9 + 3, none⟩ = some (.int .i64 q.2.s.si) := hcell 3 (by decide)
        have z4 : Y.cell? ⟨g0, M.length * 9 + 4, none⟩ = some (.string q.2.s.plan) := hcell 4 (by decide)
        have z5 : Y.cell? ⟨g0, M.length * 9 + 5, none⟩ = some (.slice q.2.na q.2.nn q.2.nc) := hcell 5 (by decide)
        have z6 : Y.cell? ⟨g0, M.length * 9 + 6, none⟩ = some (.slice q.2.pa q.2.pn q.2.pc) := hcell 6 (by decide)
        have z7 : Y.cell? ⟨g0, M.length * 9 + 7, none⟩ = some (.bool q.2.s.su) := hcell 7 (by decide)
        have z8 : Y.cell? ⟨g0, M.length * 9 + 8, none⟩ = some (.bool q.2.s.fa) := hcell 8 (by decide)
        rw [hln] at hc1 hOl ⊢
        have hj1 : IntKind.i64.wrap ((M.length : Int) + 1 - 1) = (M.length : Int) := by rw [Int.add_sub_cancel]; exact IntWalk.i64_in _ (by omega)
        have hj2 : (0 : Int) < (M.length : Int) + 1 := by omega
        have hj3 : ((M.length : Int) + 1).toNat = M.length + 1 := by omega
        have hj4 : IntKind.i64.wrap (M.length : Int) = (M.length : Int) := IntWalk.i64_in _ (by omega)
        have hj5 : (0 : Int) ≤ (M.length : Int) := Int.natCast_nonneg _
        have hj6 : (M.length : Int) < (M.length : Int) + 1 := by omega
        have J := Lib.hid (And.intro hj1 (And.intro hj2 (And.intro hj3 (And.intro hj4 (And.intro hj5 hj6)))))
        clear hownM hcell
        have HQm := Lib.hid (HP.out.2 q (by simp))
        have HownL := Lib.hid (show Y.ownsRow w.heap.size 239 9 (.slice (some ⟨g0, 0, none⟩) (M.length + 1) cp) (M ++ [q]).length ((M ++ [q]).flatMap mmCells) by rw [show (M ++ [q]).length = M.length + 1 by simp]; exact HownM.out)
        have Hyc := Lib.hid (show ∀ p : BelowOf Y, p.w.cell? ⟨wo.heap.size, 0, none⟩ = some (.int .i64 x.1) ∧ p.w.cell? ⟨wo.heap.size, 1, none⟩ = some (.int .i64 x.2.s.id) ∧ p.w.cell? ⟨wo.heap.size, 2, none⟩ = some (.int .i64 x.2.s.ac) ∧ p.w.cell? ⟨wo.heap.size, 3, none⟩ = some (.int .i64 x.2.s.si) ∧ p.w.cell? ⟨wo.heap.size, 4, none⟩ = some (.string x.2.s.plan) ∧ p.w.cell? ⟨wo.heap.size, 5, none⟩ = some (.slice x.2.na x.2.nn x.2.nc) ∧ p.w.cell? ⟨wo.heap.size, 6, none⟩ = some (.slice x.2.pa x.2.pn x.2.pc) ∧ p.w.cell? ⟨wo.heap.size, 7, none⟩ = some (.bool x.2.s.su) ∧ p.w.cell? ⟨wo.heap.size, 8, none⟩ = some (.bool x.2.s.fa) from fun p => by
          have r := (p.h.block _ hwY).trans HYr.out
          exact ⟨cell_of_row p.w _ 0 _ _ _ r, cell_of_row p.w _ 1 _ _ _ r, cell_of_row p.w _ 2 _ _ _ r, cell_of_row p.w _ 3 _ _ _ r, cell_of_row p.w _ 4 _ _ _ r, cell_of_row p.w _ 5 _ _ _ r, cell_of_row p.w _ 6 _ _ _ r, cell_of_row p.w _ 7 _ _ _ r, cell_of_row p.w _ 8 _ _ _ r⟩)
        have Hzc := Lib.hid (show ∀ p : BelowOf Y, p.w.cell? ⟨g0, M.length * 9, none⟩ = some (.int .i64 q.1) ∧ p.w.cell? ⟨g0, M.length * 9 + 1, none⟩ = some (.int .i64 q.2.s.id) ∧ p.w.cell? ⟨g0, M.length * 9 + 2, none⟩ = some (.int .i64 q.2.s.ac) ∧ p.w.cell? ⟨g0, M.length * 9 + 3, none⟩ = some (.int .i64 q.2.s.si) ∧ p.w.cell? ⟨g0, M.length * 9 + 4, none⟩ = some (.string q.2.s.plan) ∧ p.w.cell? ⟨g0, M.length * 9 + 5, none⟩ = some (.slice q.2.na q.2.nn q.2.nc) ∧ p.w.cell? ⟨g0, M.length * 9 + 6, none⟩ = some (.slice q.2.pa q.2.pn q.2.pc) ∧ p.w.cell? ⟨g0, M.length * 9 + 7, none⟩ = some (.bool q.2.s.su) ∧ p.w.cell? ⟨g0, M.length * 9 + 8, none⟩ = some (.bool q.2.s.fa) from fun p => ⟨BelowOf.cell (a := ⟨g0, M.length * 9, none⟩) hgl z0 p, BelowOf.cell (a := ⟨g0, M.length * 9 + 1, none⟩) hgl z1 p, BelowOf.cell (a := ⟨g0, M.length * 9 + 2, none⟩) hgl z2 p, BelowOf.cell (a := ⟨g0, M.length * 9 + 3, none⟩) hgl z3 p, BelowOf.cell (a := ⟨g0, M.length * 9 + 4, none⟩) hgl z4 p, BelowOf.cell (a := ⟨g0, M.length * 9 + 5, none⟩) hgl z5 p, BelowOf.cell (a := ⟨g0, M.length * 9 + 6, none⟩) hgl z6 p, BelowOf.cell (a := ⟨g0, M.length * 9 + 7, none⟩) hgl z7 p, BelowOf.cell (a := ⟨g0, M.length * 9 + 8, none⟩) hgl z8 p⟩)
        have HT1 := Lib.hid (show ∀ W, Below Y.heap.size Y W → Calls Tryz.prog 180 #[mmVal q, mmVal x] W fun e w' => e = .returned (.bool (alikeB q.2.s x.2.s)) ∧ Below W.heap.size W w' from fun W hW => spells1_calls q x base W ((HOk.out q HQm.out).below (HbY.out.trans (hW.mono HbY.out.size))) ((HOk.out x HMem.out).below (HbY.out.trans (hW.mono HbY.out.size))))
        have hrr := Below.refl Y.heap.size Y
        have y0 := fun p : BelowOf Y => (Hyc.out p).1
        have u0 := fun p : BelowOf Y => (Hzc.out p).1
        have y1 := fun p : BelowOf Y => (Hyc.out p).2.1
        have u1 := fun p : BelowOf Y => (Hzc.out p).2.1
        have y2 := fun p : BelowOf Y => (Hyc.out p).2.2.1
        have u2 := fun p : BelowOf Y => (Hzc.out p).2.2.1
        have y3 := fun p : BelowOf Y => (Hyc.out p).2.2.2.1
        have u3 := fun p : BelowOf Y => (Hzc.out p).2.2.2.1
        have y4 := fun p : BelowOf Y => (Hyc.out p).2.2.2.2.1
        have u4 := fun p : BelowOf Y => (Hzc.out p).2.2.2.2.1
        have y5 := fun p : BelowOf Y => (Hyc.out p).2.2.2.2.2.1
        have u5 := fun p : BelowOf Y => (Hzc.out p).2.2.2.2.2.1
        have y6 := fun p : BelowOf Y => (Hyc.out p).2.2.2.2.2.2.1
        have u6 := fun p : BelowOf Y => (Hzc.out p).2.2.2.2.2.2.1
        have y7 := fun p : BelowOf Y => (Hyc.out p).2.2.2.2.2.2.2.1
        have u7 := fun p : BelowOf Y => (Hzc.out p).2.2.2.2.2.2.2.1
        have y8 := fun p : BelowOf Y => (Hyc.out p).2.2.2.2.2.2.2.2
        have u8 := fun p : BelowOf Y => (Hzc.out p).2.2.2.2.2.2.2.2
        clear x0 x1 x2 x3 x4 x5 x6 x7 x8 z0 z1 z2 z3 z4 z5 z6 z7 z8
        cases htg : alikeB q.2.s x.2.s with
        | true =>
          rw [htg] at HT1
          have Htg := Lib.hid htg
          clear htg
          refine wp_region_quiet_below hrr (by kernel_rfl) (by kernel_rfl) ?_
          repeat (go_big_quiet_step (first | (go_at_call 180; refine calls_below_of (HT1.out _ (BelowOf.h _)) (fun e w' h => h))))
          refine wpQuiet_nil ?_
          intro w2 hw2
          have hY2 : Below Y.heap.size Y w2 := by obtain ⟨pq, rfl⟩ := hw2; exact pq.h
          clear hw2 y0 u0 y1 u1 y2 u2 y3 u3 y4 u4 y5 u5 y6 u6 y7 u7 y8 u8 hrr
          have HY2 := Lib.hid hY2
          have Hown2 := Lib.hid (ownsRow_below HownM.out hY2)
          have HT2 := Lib.hid (show ∀ W, Below w2.heap.size w2 W → Calls Tryz.prog 182 #[mmVal q, mmVal x] W fun e w' => e = .returned (mmVal q) ∧ Below W.heap.size W w' from fun W hW => spells2_calls q x W)
          have HC2 := Lib.hid (show ∀ W, Below w2.heap.size w2 W → (W.cell? ⟨wo.heap.size, 0, none⟩ = some (.int .i64 x.1) ∧ W.cell? ⟨wo.heap.size, 1, none⟩ = some (.int .i64 x.2.s.id) ∧ W.cell? ⟨wo.heap.size, 2, none⟩ = some (.int .i64 x.2.s.ac) ∧ W.cell? ⟨wo.heap.size, 3, none⟩ = some (.int .i64 x.2.s.si) ∧ W.cell? ⟨wo.heap.size, 4, none⟩ = some (.string x.2.s.plan) ∧ W.cell? ⟨wo.heap.size, 5, none⟩ = some (.slice x.2.na x.2.nn x.2.nc) ∧ W.cell? ⟨wo.heap.size, 6, none⟩ = some (.slice x.2.pa x.2.pn x.2.pc) ∧ W.cell? ⟨wo.heap.size, 7, none⟩ = some (.bool x.2.s.su) ∧ W.cell? ⟨wo.heap.size, 8, none⟩ = some (.bool x.2.s.fa)) ∧ (W.cell? ⟨g0, M.length * 9, none⟩ = some (.int .i64 q.1) ∧ W.cell? ⟨g0, M.length * 9 + 1, none⟩ = some (.int .i64 q.2.s.id) ∧ W.cell? ⟨g0, M.length * 9 + 2, none⟩ = some (.int .i64 q.2.s.ac) ∧ W.cell? ⟨g0, M.length * 9 + 3, none⟩ = some (.int .i64 q.2.s.si) ∧ W.cell? ⟨g0, M.length * 9 + 4, none⟩ = some (.string q.2.s.plan) ∧ W.cell? ⟨g0, M.length * 9 + 5, none⟩ = some (.slice q.2.na q.2.nn q.2.nc) ∧ W.cell? ⟨g0, M.length * 9 + 6, none⟩ = some (.slice q.2.pa q.2.pn q.2.pc) ∧ W.cell? ⟨g0, M.length * 9 + 7, none⟩ = some (.bool q.2.s.su) ∧ W.cell? ⟨g0, M.length * 9 + 8, none⟩ = some (.bool q.2.s.fa)) from fun W hW => by
            have hh := HY2.out.trans (hW.mono HY2.out.size)
            exact ⟨Hyc.out ⟨W, hh⟩, Hzc.out ⟨W, hh⟩⟩)
          have HG := Lib.hid (show ∀ W, Below w2.heap.size w2 W → W.ownsRow w.heap.size 239 9 (.slice (some ⟨g0, 0, none⟩) (M.length + 1) cp) (M.length + 1) ((M ++ [q]).flatMap mmCells) from fun W hW => ownsRow_below Hown2.out hW)
          clear hY2 HT1
          go_upto_region 7 with (fail)
          refine wp_region_free2 (fun W => Below w2.heap.size w2 W) (fun i v _ => v = (match i with | 0 => .slice (some ⟨g0, 0, none⟩) (M.length + 1) cp | 1 => .int .i64 ((M.length : Int) + 1) | 2 => .int .i64 (M.length : Int) | 3 => .func (.func 182) #[] #[] | 4 => .slice (some ⟨g0, 0, none⟩) (M.length + 1) cp | 5 => .int .i64 ((M.length : Int) + 1) | 6 => .int .i64 (M.length : Int) | 7 => .pointer (some ⟨g0, M.length * 9, none⟩) | 8 => mmVal q | 9 => mmVal x | 10 => mmVal q | 11 => .pointer (some ⟨g0, M.length * 9, none⟩) | _ => v)) (by kernel_rfl) (by decide) (by kernel_rfl) (Below.refl _ _).drew ?_
          generalize hfr : (fun v : Nat → Value => _) = fr
          simp only [List.map_cons, List.map_nil, putsL, List.setIfInBounds_toArray, List.set_cons_succ, List.set_cons_zero, Nat.zero_add, Nat.reduceAdd] at hfr
          simp only [FreeOps]
          refine ⟨?_, ?_, ?_, ?_, ?_, ?_, ?_, ?_, ?_, ?_, ?_, ?_, ?_⟩
          · intro v w3 hC hd K hK
            rw [← hfr] at hK ⊢
            go_simp
            exact hK _ _ hC (fun _ _ h => h) rfl
          · intro v w3 hC hd K hK
            rw [← hfr] at hK ⊢
            go_simp
            exact hK _ _ hC (fun _ _ h => h) rfl
          · intro v w3 hC hd K hK
            obtain ⟨f1, -⟩ := hd
            have e1 : v 1 = _ := f1
            obtain ⟨hj1, hj2, hj3, hj4, hj5, hj6⟩ := J.out
            rw [← hfr] at hK ⊢
            simp only [e1] at hK ⊢
            go_simp
            exact hK _ _ hC (fun _ _ h => h) rfl
          · intro v w3 hC hd K hK
            rw [← hfr] at hK ⊢
            go_simp
            exact hK _ _ hC (fun _ _ h => h) rfl
          · intro v w3 hC hd K hK
            rw [← hfr] at hK ⊢
            go_simp
            exact hK _ _ hC (fun _ _ h => h) rfl
          · intro v w3 hC hd K hK
            rw [← hfr] at hK ⊢
            go_simp
            exact hK _ _ hC (fun _ _ h => h) rfl
          · intro v w3 hC hd K hK
            obtain ⟨f5, -⟩ := hd
            have e5 : v 5 = _ := f5
            obtain ⟨hj1, hj2, hj3, hj4, hj5, hj6⟩ := J.out
            rw [← hfr] at hK ⊢
            simp only [e5] at hK ⊢
            go_simp
            exact hK _ _ hC (fun _ _ h => h) rfl
          · intro v w3 hC hd K hK
            obtain ⟨f4, f6, -⟩ := hd
            have e4 : v 4 = _ := f4
            have e6 : v 6 = _ := f6
            obtain ⟨hj1, hj2, hj3, hj4, hj5, hj6⟩ := J.out
            rw [← hfr] at hK ⊢
            simp only [e4, e6] at hK ⊢
            go_simp
            exact hK _ _ hC (fun _ _ h => h) rfl
          · intro v w3 hC hd K hK
            obtain ⟨f7, -⟩ := hd
            have e7 : v 7 = _ := f7
            obtain ⟨-, c0, c1, c2, c3, c4, c5, c6, c7, c8⟩ := HC2.out w3 hC
            rw [← hfr] at hK ⊢
            simp only [e7] at hK ⊢
            go_simp
            exact hK _ _ hC (fun _ _ h => h) rfl
          · intro v w3 hC hd K hK
            obtain ⟨⟨c0, c1, c2, c3, c4, c5, c6, c7, c8⟩, -⟩ := HC2.out w3 hC
            rw [← hfr] at hK ⊢
            go_simp
            exact hK _ _ hC (fun _ _ h => h) rfl
          · intro v w3 hC hd K hK
            obtain ⟨f3, f8, f9, -⟩ := hd
            have e3 : v 3 = _ := f3
            have e8 : v 8 = _ := f8
            have e9 : v 9 = _ := f9
            rw [← hfr] at hK ⊢
            simp only [e3, e8, e9] at hK ⊢
            go_simp
            refine (HT2.out w3 hC).mono ?_
            rintro e w4 ⟨rfl, hb4⟩
            exact hK _ _ (hC.trans (hb4.mono hC.size)) (fun _ _ h => h) rfl
          · intro v w3 hC hd K hK
            obtain ⟨f0, f2, -⟩ := hd
            have e0 : v 0 = _ := f0
            have e2 : v 2 = _ := f2
            obtain ⟨hj1, hj2, hj3, hj4, hj5, hj6⟩ := J.out
            rw [← hfr] at hK ⊢
            simp only [e0, e2] at hK ⊢
            go_simp
            exact hK _ _ hC (fun _ _ h => h) rfl
          · intro v w3 hC hall
            obtain ⟨-, e10, e11⟩ : _ ∧ v 10 = _ ∧ v 11 = _ := ⟨trivial, hall.1.2, hall.2⟩
            have hownG := HG.out w3 hC
            obtain ⟨so, sg⟩ := own_setCells (mmCells q) _ (M.length * 9) _ hownG
            rw [show M.length * 9 = M.length * 9 + 0 from rfl, flat_last_set (c := mmCells) (sz := 9) (fun _ => rfl) M q q 0 (mmCells q) rfl rfl] at so
            refine wp_store_mid _ _ _ rfl g0 (M.length * 9) (mmCells q).toArray (by rw [← hfr]; exact e11) (by rw [← hfr]; exact e10) (own_there2 hownG (M.length * 9) 9 (by omega)) (by kernel_rfl) (by simp [mmCells, sbCells, Value.oneCell']) ?_
            have SO := Lib.hid (show (w3.setCells g0 (M.length * 9) (mmCells q).toArray.toList).ownsRow w.heap.size 239 9 (.slice (some ⟨g0, 0, none⟩) (M.length + 1) cp) (M ++ [q]).length ((M ++ [q]).flatMap mmCells) by rw [List.length_append, List.length_singleton]; exact so)
            have SB := Lib.hid (show Below w.heap.size w (w3.setCells g0 (M.length * 9) (mmCells q).toArray.toList) from ((HbY.out.trans (HY2.out.mono HbY.out.size)).trans (hC.mono (by have := HY2.out.size; have := HbY.out.size; omega))).grown sg (by have := HY2.out.size; have := HbY.out.size; have := hC.size; omega) (fun g hg => by cases hg; exact hgB))
            rw [← hfr]
            generalize (w3.setCells g0 (M.length * 9) (mmCells q).toArray.toList) = w4 at *
            clear so sg hownG
            generalize v 0 = y0, v 1 = y1, v 2 = y2, v 3 = y3, v 4 = y4, v 5 = y5, v 6 = y6, v 7 = y7, v 8 = y8, v 9 = y9, v 10 = y10, v 11 = y11
            clear hfr hall hC e10 e11
            have HE := Lib.hid (jmStep_eq (plainM M) (q.1, q.2.s) (x.1, x.2.s) Htg.out)
            obtain ⟨hj1, hj2, hj3, hj4, hj5, hj6⟩ := J.out
            go_wp2
            exact ⟨⟨k + 1, M ++ [q], by omega, by go_num, Lib.hid (⟨by rw [HTk.out, ← HP.out.1, plainM_snoc]; exact HE.out.symm, HP.out.2⟩), SO.out, SB.out⟩, by simp [intOf]; omega⟩
        | false =>
          rw [htg] at HT1
          have Htg := Lib.hid htg
          clear htg
          refine wp_region_quiet_below hrr (by kernel_rfl) (by kernel_rfl) ?_
          repeat (go_big_quiet_step (first | (go_at_call 180; refine calls_below_of (HT1.out _ (BelowOf.h _)) (fun e w' h => h))))
          refine wpQuiet_nil ?_
          intro w2 hw2
          have hY2 : Below Y.heap.size Y w2 := by obtain ⟨pq, rfl⟩ := hw2; exact pq.h
          clear hw2 y0 u0 y1 u1 y2 u2 y3 u3 y4 u4 y5 u5 y6 u6 y7 u7 y8 u8 hrr hj1 hj2 hj3 hj4 hj5 hj6
          have HbA := Lib.hid (HbY.out.trans (hY2.mono HbY.out.size))
          have HownA := Lib.hid (ownsRow_below HownL.out hY2)
          have rA := (hY2.block _ hwY).trans HYr.out
          have c0 : w2.cell? ⟨wo.heap.size, 0, none⟩ = some (.int .i64 x.1) := cell_of_row w2 _ 0 _ _ _ rA
          have c1 : w2.cell? ⟨wo.heap.size, 1, none⟩ = some (.int .i64 x.2.s.id) := cell_of_row w2 _ 1 _ _ _ rA
          have c2 : w2.cell? ⟨wo.heap.size, 2, none⟩ = some (.int .i64 x.2.s.ac) := cell_of_row w2 _ 2 _ _ _ rA
          have c3 : w2.cell? ⟨wo.heap.size, 3, none⟩ = some (.int .i64 x.2.s.si) := cell_of_row w2 _ 3 _ _ _ rA
          have c4 : w2.cell? ⟨wo.heap.size, 4, none⟩ = some (.string x.2.s.plan) := cell_of_row w2 _ 4 _ _ _ rA
          have c5 : w2.cell? ⟨wo.heap.size, 5, none⟩ = some (.slice x.2.na x.2.nn x.2.nc) := cell_of_row w2 _ 5 _ _ _ rA
          have c6 : w2.cell? ⟨wo.heap.size, 6, none⟩ = some (.slice x.2.pa x.2.pn x.2.pc) := cell_of_row w2 _ 6 _ _ _ rA
          have c7 : w2.cell? ⟨wo.heap.size, 7, none⟩ = some (.bool x.2.s.su) := cell_of_row w2 _ 7 _ _ _ rA
          have c8 : w2.cell? ⟨wo.heap.size, 8, none⟩ = some (.bool x.2.s.fa) := cell_of_row w2 _ 8 _ _ _ rA
          have hbs := HbA.out.size
          have HX := Lib.hid (RecAt.one (c := mmCells) (sz := 9) w2 x 239 #[.int .i64 x.1, .int .i64 x.2.s.id, .int .i64 x.2.s.ac, .int .i64 x.2.s.si, .string x.2.s.plan, .slice x.2.na x.2.nn x.2.nc, .slice x.2.pa x.2.pn x.2.pc, .bool x.2.s.su, .bool x.2.s.fa] rfl)
          clear rA hY2
          go_upto_region 8 with (fail)
          go_wp2_with (at_builtin; refine append_rec2 (c := mmCells) (sz := 9) (fun _ => rfl) mm_one 239 236 _ 104 Tryz.underlying236 Tryz.momInfo rfl (by decide) rfl _ _ rfl w.heap.size ?hs _ _ (M ++ [q]) [x] rfl rfl (HownA.out.alloc _) HX.out ?hl ?hb ?_)
          case hs => simp <;> omega
          case hl => unfold maxLen; simp <;> omega
          case hb => simp <;> omega
          intro R hR v5 w5 own5 hg5
          have HRe := Lib.hid (show R = (M ++ [q]) ++ [x] by rw [hR.out]; first | rfl | simp)
          have Own5 := Lib.hid own5
          have Hb5 := Lib.hid ((HbA.out.alloc hbs _).grown hg5 (by simp <;> omega) (fun g hg => (ownsRow_block HownA.out g hg).1))
          clear own5 hg5 hR hbs
          go_wp2
          exact ⟨⟨k + 1, R, by omega, by go_num, Lib.hid (⟨by rw [HRe.out, HTk.out, ← HP.out.1, plainM_snoc, plainM_snoc]; exact (jmStep_ne (plainM M) (q.1, q.2.s) (x.1, x.2.s) Htg.out).symm, fun p hp => by
            rw [HRe.out] at hp
            rcases List.mem_append.1 hp with hp | hp
            · first | exact HP.out.2 p hp | cases hp
            · rw [List.mem_singleton.1 hp]; exact HMem.out⟩), Own5.out, Hb5.out⟩, by simp [intOf]; omega⟩
    · have HE := Lib.hid (show jmL ((plainM L).take k) = jmL (plainM L) by rw [List.take_of_length_le (by rw [plainM_len]; omega)])
      go_wp2
      go_ret
      exact ⟨a, cp, O, rfl, Hown.out, HP.out.1.trans HE.out, HP.out.2, Hb.out⟩
end Go.Proofs.YtngippiilgdnoaaGreat
