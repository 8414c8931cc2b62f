/-
  The walk of the reference's list of the subscriptions of an account.
  The walks of the reference's Has and of its list of the products of a subscription.
-/
import Derived.Test.YtngippiilgdnoaaGreatMpbk
import Derived.Test.YtngippiilgdnoaaGreatMpax
import Derived.Test.YtngippiilgdnoaaGreatMpag
namespace Go.Proofs.YtngippiilgdnoaaGreat
open Go.RowKit

theorem append_icL {w : World} {ops : Array Oper} {rest : List Oper} {o : Oper} {a : Act} {Q : Exit → Act → World → Prop} (hgd : o.guard = none) (s x : Operand)
    (ho : o.op = .call { callee := .builtin .append, args := #[s, x], argTypes := #[96, 96] })
    (base : Nat) (hbase : base ≤ w.heap.size) (v vx : Value) (L X : List Int) (hs : a.eval s = v) (hx : a.eval x = vx) (hown : w.ownsRow base 3 1 v L.length (L.flatMap icCells)) (hX : RecAt icCells 1 w vx X) (hlen : L.length + X.length ≤ 1000000)
    (h : ∀ R : List Int, RowKit.Hid (R = L ++ X) → ∀ v' w', w'.ownsRow base 3 1 v' R.length (R.flatMap icCells) → Below base w w' → wpList Tryz.prog ops Q rest (a.put o.dst v') w') : wpList Tryz.prog ops Q (o :: rest) a w :=
  append_rec (c := icCells) (sz := 1) (fun _ => rfl) (fun a u hu => by unfold icCells at hu; rw [List.mem_singleton] at hu; subst hu; rfl) 3 96 _ 8 Tryz.underlying96 Tryz.intInfo rfl (by decide) hgd s x ho base hbase v vx L X hs hx hown hX (by unfold maxLen; omega) (by omega) h
theorem addr_zero (g j : Nat) : (⟨g, 0, none⟩ : Addr).add j = ⟨g, j, none⟩ := by unfold Addr.add; split <;> simp_all
theorem subsOk_nil (a : Int) : SubsOk [] a [] := ⟨List.Pairwise.nil, fun x => by simp⟩
/-- Subscriptions in a row of the call's own. -/
def SubsTo (l : List Ev) (a : Int) (w : World) (e : Ending) (w' : World) : Prop := ∃ v O, e = .returned v ∧ SubsOk l a O ∧ w'.ownsRow w.heap.size 3 1 v O.length (O.flatMap icCells) ∧ O.length ≤ l.length ∧ Below w.heap.size w w'

set_option maxRecDepth 100000 in
set_option maxHeartbeats 12800000 in
theorem subs35_calls (v : Value) (l : List Ev) (a : Int) (w : World) (h : EvsAt w v l) (hr : OkRun l) (hl : l.length ≤ 1000) :
    Calls Tryz.prog 46 #[v, .int .i64 a] w (SubsTo l a w) := by
  obtain ⟨av, cap, rfl, hlc, hcm⟩ := rec_shape h.1
  unfold maxLen at hcm
  have HE := Lib.hid h.1
  have HA := Lib.hid (fun (k : Nat) (hk : k < l.length) (h3 : (l[k]).kd = 3) (O : List Int) (hO : SubsOk (l.take k) a O) => adds_one hr hk h3 hO)
  have HF := Lib.hid (show ∀ O, SubsOk (l.take l.length) a O → SubsOk l a O from fun O h => by rwa [List.take_of_length_le (Nat.le_refl _)] at h)
  clear h hr
  go_enter Tryz.func46, Tryz.ntmps46
  go_wp2_with fail
  go_loopg [5, 6] l.length (fun g vo i wx => ∃ (k : Nat) (O : List Int), k + g = l.length ∧ i = .int .i64 k ∧ SubsOk (l.take k) a O ∧ O.length ≤ k ∧ wx.ownsRow w.heap.size 3 1 vo O.length (O.flatMap icCells) ∧ Below w.heap.size w wx)
  case atStart => exact ⟨0, [], by omega, rfl, subsOk_nil _, Nat.le_refl _, World.ownsRow_nil _ _ _ _, Below.refl _ _⟩
  case round =>
    obtain ⟨wo, rfl⟩ : ∃ wo : World, wo = wr := ⟨_, rfl⟩
    obtain ⟨i, O, hig, rfl, hok, hOl, hown, hb⟩ := hrel
    obtain ⟨ao, co, rfl, hco, hcom⟩ := own_shape hown
    have Hown := Lib.hid hown
    have Hb := Lib.hid hb
    cases gk with
    | zero =>
      have hiz : ¬ ((i : Int) < (l.length : Int)) := by omega
      have hEq : i = l.length := by omega
      have HR := Lib.hid (show SubsTo l a w (.returned (.slice ao O.length co)) wo from ⟨_, O, rfl, HF.out O (by rw [← hEq]; exact hok), hown, by omega, hb⟩)
      clear hig hb hown hEq hok
      go_wp2
      go_ret
      exact HR.out
    | succ g0 =>
      have hil : i < l.length := by omega
      have hi1 : (i : Int) < (l.length : Int) := by omega
      have hi0 : (0 : Int) ≤ (i : Int) := Int.natCast_nonneg _
      obtain ⟨a2, n2, e2, -, -, hx⟩ := HE.out
      cases e2
      obtain ⟨eb, eo, rfl, hB, hx⟩ := hx (by intro e; rw [e] at hil; cases hil)
      have HX := Lib.hid (show ∀ Y, Below w.heap.size w Y → Y.cell? ⟨eb, eo + i * 7 + 1, none⟩ = some (.int .i64 (l[i]).kd) ∧ Y.cell? ⟨eb, eo + i * 7 + 2, none⟩ = some (.int .i64 (l[i]).ac) ∧ Y.cell? ⟨eb, eo + i * 7 + 3, none⟩ = some (.int .i64 (l[i]).sb) from fun Y hY => ⟨(hY.cell (p := ⟨eb, _, none⟩) hB).trans (hx i hil 1 (by decide)), (hY.cell (p := ⟨eb, _, none⟩) hB).trans (hx i hil 2 (by decide)), (hY.cell (p := ⟨eb, _, none⟩) hB).trans (hx i hil 3 (by decide))⟩)
      have hebW : eb < w.heap.size := hB
      clear hx
      have HRel := Lib.hid (fun (O1 : List Int) (vo : Value) (wx : World) (h0 : SubsOk (l.take (i + 1)) a O1) (hl1 : O1.length ≤ i + 1) (h1 : wx.ownsRow w.heap.size 3 1 vo O1.length (O1.flatMap icCells)) (h2 : Below w.heap.size w wx) => (⟨i + 1, O1, by omega, by go_num, h0, hl1, h1, h2⟩ : ∃ (k : Nat) (O : List Int), k + g0 = l.length ∧ Value.int .i64 ((i : Int) + 1) = .int .i64 k ∧ SubsOk (l.take k) a O ∧ O.length ≤ k ∧ wx.ownsRow w.heap.size 3 1 vo O.length (O.flatMap icCells) ∧ Below w.heap.size w wx))
      have HSk := Lib.hid (show ¬ ((l[i]).kd = 3 ∧ (l[i]).ac = a) → SubsOk (l.take (i + 1)) a O from fun hn => by rw [List.take_succ_eq_append_getElem hil]; exact hok.skip _ hn)
      have HIn := Lib.hid (show (l[i]).kd = 3 → (l[i]).ac = a → ∀ k, PlaceO (fun x y : Int => x < y) O (l[i]).sb k → SubsOk (l.take (i + 1)) a (O.take k ++ [(l[i]).sb] ++ O.drop k) from fun h3 h4 k hp => by rw [List.take_succ_eq_append_getElem hil]; exact hok.ins _ h3 h4 (HA.out i hil h3 O hok) hp)
      clear HA HF
      generalize SubsOk (l.take (i + 1)) a = ok1 at *
      have Hok := Lib.hid hok
      clear hok
      generalize l[i] = ev at *
      obtain ⟨tm, kd, ac, sb, nu, nm, vl⟩ := ev
      dsimp only at HX HSk HIn
      obtain ⟨x1, x2, x3⟩ := HX.out wo hb
      by_cases h3 : kd = 3
      · have k1 : (kd != 3) = false := bne_eq_false_iff_eq.2 h3
        by_cases h4 : ac = a
        · have k2 : (ac != a) = false := bne_eq_false_iff_eq.2 h4
          have HIns := Lib.hid (fun k hp => HIn.out h3 h4 k hp)
          clear HIn HSk hig hb hown h3 h4
          go_wp2_with fail
          go_loopg [7] O.length (fun g x wy => x = .int .i64 g ∧ g ≤ O.length ∧ (∀ j (hj : j < O.length), g ≤ j → (fun x y : Int => x < y) sb O[j]) ∧ Below wo.heap.size wo wy)
          case atStart => exact ⟨rfl, Nat.le_refl _, fun j hj h => by omega, Below.refl _ _⟩
          case round =>
            obtain ⟨rfl, hgN, hkO, hby⟩ := hrel
            have HkO := Lib.hid hkO
            have Hby := Lib.hid hby
            have HownY := Lib.hid (ownsRow_below Hown.out hby)
            obtain ⟨y1, y2, y3⟩ := HX.out wr (Hb.out.trans (hby.mono Hb.out.size))
            have hebY : eb < wr.heap.size := by have := hby.size; have := Hb.out.size; omega
            have f3 := fun p : BelowOf wr => BelowOf.cell (a := ⟨eb, _, none⟩) hebY y3 p
            have hrr := Below.refl wr.heap.size wr
            clear hkO y1 y2 y3 x1 x2 x3 hebY
            cases gk with
            | zero =>
              have HPl := Lib.hid (HIns.out 0 ⟨Nat.zero_le _, HkO.out, fun j hj e => by omega⟩)
              go_upto_region 7 with (fail)
              refine wp_region_quiet_below hrr (by kernel_rfl) (by kernel_rfl) ?_
              repeat (go_big_quiet_step (fail))
              refine wpQuiet_nil ?_
              intro wa hw'
              have hYa : Below wr.heap.size wr wa := by obtain ⟨pq, rfl⟩ := hw'; exact pq.h
              clear hw' f3 hrr
              have Hbo := Lib.hid (Hby.out.trans (hYa.mono Hby.out.size))
              have HownA := Lib.hid (ownsRow_below HownY.out hYa)
              have Ht := Lib.hid (sliceAt_take (RecAt.own (c := icCells) (fun _ => rfl) HownA.out : RecAt icCells 1 _ _ _) 0 (Nat.zero_le _))
              have Hd := Lib.hid (show RecAt icCells 1 wa (.slice ao O.length co) (O.drop 0) from RecAt.own (fun _ => rfl) HownA.out)
              obtain ⟨P, hP0⟩ : ∃ P, P = O.take (0) := ⟨_, rfl⟩
              obtain ⟨D, hD0⟩ : ∃ D, D = O.drop (0) := ⟨_, rfl⟩
              have hlt1 : P.length ≤ O.length := by rw [hP0, List.length_take]; omega
              have hld1 : P.length + D.length = O.length := by rw [hP0, hD0, ← List.length_append, List.take_append_drop]
              rw [← hP0] at Ht
              rw [← hD0] at Hd
              rw [← hP0, ← hD0] at HPl
              clear hP0 hD0
              obtain ⟨Y, hY⟩ : ∃ Y, Y = wa.alloc (Obj.cells #[] 3) := ⟨_, rfl⟩
              have hbY : Below wa.heap.size wa Y := by rw [hY]; exact (Below.refl _ _).alloc (Nat.le_refl _) _
              have hown0 : Y.ownsRow wa.heap.size 3 1 (.slice (some ⟨wa.heap.size, 0, none⟩) 0 0) 0 [] := by
                rw [hY]
                exact own_empty _ _
              have Hown0 := Lib.hid hown0
              have HbY := Lib.hid hbY
              have HYe := Lib.hid hY
              have HbA := Lib.hid (Hb.out.trans (Hbo.out.mono Hb.out.size))
              clear hY hbY hown0 hYa
              have hbs := HbY.out.size
              have hbA := HbA.out.size
              go_wp2_with (at_builtin; rw [← HYe.out]; refine append_icL rfl _ _ rfl wa.heap.size hbs _ _ [] P rfl rfl Hown0.out ?hX1 ?hl1 ?_)
              case hX1 => exact RecAt.below Ht.out HbY.out
              case hl1 => first | omega | (simp; omega)
              intro P5 hP5 v5 w5 own5 hb5
              obtain rfl : P = P5 := hP5.out.symm
              clear hP5
              have Hb5 := Lib.hid (HbY.out.trans hb5)
              have Own5 := Lib.hid own5
              have hbs5 := Hb5.out.size
              obtain ⟨a5, c5, rfl, hc5, hm5⟩ := own_shape own5
              clear own5 hb5
              obtain ⟨z1, z2, z3⟩ := HX.out w5 (HbA.out.trans (Hb5.out.mono HbA.out.size))
              have HX2 := Lib.hid (RecAt.one (c := icCells) (sz := 1) w5 sb 3 #[.int .i64 sb] rfl)
              go_wp2_with (at_builtin; refine append_icL rfl _ _ rfl wa.heap.size ?hs2 _ _ P [sb] rfl rfl (Own5.out.alloc _) HX2.out ?hl2 ?_)
              case hs2 => simp; omega
              case hl2 => simp; omega
              intro R6 hR6 v6 w6 own6 hb6
              have Hb6 := Lib.hid ((Hb5.out.alloc hbs5 (Obj.cells #[.int .i64 sb] 3)).trans hb6)
              have HR6 := Lib.hid hR6.out
              have hR6l : R6.length = P.length + 1 := by rw [hR6.out, List.length_append]; rfl
              have hbs6 := Hb6.out.size
              obtain ⟨a6, c6, rfl, hc6, hm6⟩ := own_shape own6
              have Own6 := Lib.hid own6
              have hR6b : R6.length ≤ O.length + 1 := by omega
              have hR6d : R6.length + D.length ≤ O.length + 1 := by omega
              clear own6 hb6 hR6 hR6l z1 z2 z3
              go_wp2_with (at_builtin; refine append_icL rfl _ _ rfl wa.heap.size ?hs3 _ _ R6 D rfl rfl Own6.out ?hX3 ?hl3 ?_)
              case hs3 => exact hbs6
              case hX3 => exact RecAt.below Hd.out Hb6.out
              case hl3 => omega
              intro R hR v7 w7 own7 hb7
              have Hb7 := Lib.hid (HbA.out.trans ((Hb6.out.trans hb7).mono HbA.out.size))
              have HRl := Lib.hid (show R.length ≤ i + 1 by rw [hR.out, List.length_append]; omega)
              have hR := hR.out
              have Own7 := Lib.hid (own_down own7 (show w.heap.size ≤ wa.heap.size by omega))
              have HRm := Lib.hid (show P ++ [sb] ++ D = R by rw [hR, HR6.out])
              rw [HRm.out] at HPl
              have HS := Lib.hid (fun vo wx h1 h2 => HRel.out R vo wx HPl.out HRl.out h1 h2)
              clear own7 hb7 hR
              go_wp2
              go_roundg g0
              case measure => omega
              case rel =>
                obtain ⟨k', O', h1, h2, h3⟩ := HS.out _ _ Own7.out Hb7.out
                exact ⟨k', O', h1, by first | exact h2 | (rw [← h2]; go_num), h3⟩
            | succ n0 =>
              have hn0 : n0 < O.length := by omega
              obtain ⟨gm, rfl⟩ : ∃ gm, ao = some ⟨gm, 0, none⟩ := by
                rcases HownY.out.2 with ⟨h1, h2⟩ | ⟨gm, cap', cur, hv, -⟩
                · omega
                · simp only [Value.slice.injEq] at hv
                  exact ⟨gm, hv.1⟩
              have hgW := (ownsRow_block HownY.out gm rfl).2
              have hzr := fun j (hj : j < 1) => (HownY.out.cellAt (n0 * 1 + j) (by omega)).trans (flat_get icCells 1 (fun _ => rfl) O n0 j hn0 hj)
              have HYs := Lib.hid (show (fun x y : Int => x < y) sb O[n0] → ∀ j (hj : j < O.length), n0 ≤ j → (fun x y : Int => x < y) sb O[j] from fun h j hj hle => by
                rcases Nat.lt_or_ge n0 j with h1 | h1
                · exact HkO.out j hj h1
                · obtain rfl : j = n0 := by omega
                  exact h)
              have HNo := Lib.hid (show ¬ (fun x y : Int => x < y) sb O[n0] → ok1 (O.take (n0 + 1) ++ [sb] ++ O.drop (n0 + 1)) from fun h => HIns.out (n0 + 1) ⟨hn0, HkO.out, fun j hj e => by
                obtain rfl : j = n0 := by omega
                exact h⟩)
              clear HIns
          
              generalize O[n0] = r at *
              unfold icCells at hzr
              have e0 := fun p : BelowOf wr => BelowOf.cell (a := ⟨gm, _, none⟩) hgW (hzr 0 (by omega)) p
              have e0 : ∀ p : BelowOf wr, p.w.cell? ⟨gm, n0, none⟩ = some (.int .i64 r) := by simpa using e0
              clear hzr hgW
              have hsub : IntKind.i64.wrap ((n0 : Int) + 1 - 1) = (n0 : Int) := by rw [show (n0 : Int) + 1 - 1 = n0 by omega]; exact IntWalk.i64_in _ (by omega)
              have hn0c : (n0 : Int) < (O.length : Int) := by omega
              have hn00 : (0 : Int) ≤ (n0 : Int) := Int.natCast_nonneg _
              have hn0p : (0 : Int) < (n0 : Int) + 1 := by omega
              obtain ⟨bf, hbf⟩ : ∃ bf, bf = decide (sb < r) := ⟨_, rfl⟩
              have Hbf := Lib.hid hbf
              cases bf with
              | true =>
                have HE2 := Lib.hid (HYs.out (of_decide_eq_true Hbf.out.symm))
                have hcmp : sb < r := of_decide_eq_true Hbf.out.symm
                clear HYs HNo hbf
                go_upto_region 7 with (fail)
                refine wp_region_quiet_below hrr (by kernel_rfl) (by kernel_rfl) ?_
                repeat (go_big_quiet_step (fail))
                refine wpQuiet_nil ?_
                intro wa hw'
                have hYa : Below wr.heap.size wr wa := by obtain ⟨pq, rfl⟩ := hw'; exact pq.h
                have Hbo := Lib.hid (Hby.out.trans (hYa.mono Hby.out.size))
                clear hw' e0 f3 hrr hYa
                go_wp2
                go_roundg n0
                case measure => omega
                case rel => exact ⟨by first | rfl | simp, by omega, HE2.out, Hbo.out⟩
              | false =>
                have HPl := Lib.hid (HNo.out (of_decide_eq_false Hbf.out.symm))
                have hcmp : ¬ sb < r := of_decide_eq_false Hbf.out.symm
                clear HYs HNo hbf
                go_upto_region 7 with (fail)
                refine wp_region_quiet_below hrr (by kernel_rfl) (by kernel_rfl) ?_
                repeat (go_big_quiet_step (fail))
                refine wpQuiet_nil ?_
                intro wa hw'
                have hYa : Below wr.heap.size wr wa := by obtain ⟨pq, rfl⟩ := hw'; exact pq.h
                clear hw' e0 f3 hrr
                have Hbo := Lib.hid (Hby.out.trans (hYa.mono Hby.out.size))
                have HownA := Lib.hid (ownsRow_below HownY.out hYa)
                have Ht := Lib.hid (sliceAt_take (RecAt.own (c := icCells) (fun _ => rfl) HownA.out : RecAt icCells 1 _ _ _) (n0 + 1) hn0)
                have Hd := Lib.hid (sliceAt_drop (RecAt.own (c := icCells) (fun _ => rfl) HownA.out : RecAt icCells 1 _ _ _) (n0 + 1) hn0)
                obtain ⟨P, hP0⟩ : ∃ P, P = O.take (n0 + 1) := ⟨_, rfl⟩
                obtain ⟨D, hD0⟩ : ∃ D, D = O.drop (n0 + 1) := ⟨_, rfl⟩
                have hlt1 : P.length ≤ O.length := by rw [hP0, List.length_take]; omega
                have hld1 : P.length + D.length = O.length := by rw [hP0, hD0, ← List.length_append, List.take_append_drop]
                rw [← hP0] at Ht
                rw [← hD0] at Hd
                rw [← hP0, ← hD0] at HPl
                clear hP0 hD0
                obtain ⟨Y, hY⟩ : ∃ Y, Y = wa.alloc (Obj.cells #[] 3) := ⟨_, rfl⟩
                have hbY : Below wa.heap.size wa Y := by rw [hY]; exact (Below.refl _ _).alloc (Nat.le_refl _) _
                have hown0 : Y.ownsRow wa.heap.size 3 1 (.slice (some ⟨wa.heap.size, 0, none⟩) 0 0) 0 [] := by
                  rw [hY]
                  exact own_empty _ _
                have Hown0 := Lib.hid hown0
                have HbY := Lib.hid hbY
                have HYe := Lib.hid hY
                have HbA := Lib.hid (Hb.out.trans (Hbo.out.mono Hb.out.size))
                clear hY hbY hown0 hYa
                have hbs := HbY.out.size
                have hbA := HbA.out.size
                go_wp2_with (at_builtin; rw [← HYe.out]; refine append_icL rfl _ _ rfl wa.heap.size hbs _ _ [] P rfl rfl Hown0.out ?hX1 ?hl1 ?_)
                case hX1 => exact RecAt.below Ht.out HbY.out
                case hl1 => first | omega | (simp; omega)
                intro P5 hP5 v5 w5 own5 hb5
                obtain rfl : P = P5 := hP5.out.symm
                clear hP5
                have Hb5 := Lib.hid (HbY.out.trans hb5)
                have Own5 := Lib.hid own5
                have hbs5 := Hb5.out.size
                obtain ⟨a5, c5, rfl, hc5, hm5⟩ := own_shape own5
                clear own5 hb5
                obtain ⟨z1, z2, z3⟩ := HX.out w5 (HbA.out.trans (Hb5.out.mono HbA.out.size))
                have HX2 := Lib.hid (RecAt.one (c := icCells) (sz := 1) w5 sb 3 #[.int .i64 sb] rfl)
                go_wp2_with (at_builtin; refine append_icL rfl _ _ rfl wa.heap.size ?hs2 _ _ P [sb] rfl rfl (Own5.out.alloc _) HX2.out ?hl2 ?_)
                case hs2 => simp; omega
                case hl2 => simp; omega
                intro R6 hR6 v6 w6 own6 hb6
                have Hb6 := Lib.hid ((Hb5.out.alloc hbs5 (Obj.cells #[.int .i64 sb] 3)).trans hb6)
                have HR6 := Lib.hid hR6.out
                have hR6l : R6.length = P.length + 1 := by rw [hR6.out, List.length_append]; rfl
                have hbs6 := Hb6.out.size
                obtain ⟨a6, c6, rfl, hc6, hm6⟩ := own_shape own6
                have Own6 := Lib.hid own6
                have hR6b : R6.length ≤ O.length + 1 := by omega
                have hR6d : R6.length + D.length ≤ O.length + 1 := by omega
                clear own6 hb6 hR6 hR6l z1 z2 z3
                by_cases hco1 : co = n0 + 1
                · have Hd := Lib.hid (show RecAt icCells 1 wa (.slice (some ⟨gm, 0, none⟩) (O.length - (n0 + 1)) 0) D by
                    have h := Hd.out
                    rw [if_pos hco1, hco1, Nat.sub_self] at h
                    exact h)
                  go_wp2_with (at_builtin; refine append_icL rfl _ _ rfl wa.heap.size ?hs3 _ _ R6 D rfl rfl Own6.out ?hX3 ?hl3 ?_)
                  case hs3 => exact hbs6
                  case hX3 => exact RecAt.below Hd.out Hb6.out
                  case hl3 => omega
                  intro R hR v7 w7 own7 hb7
                  have Hb7 := Lib.hid (HbA.out.trans ((Hb6.out.trans hb7).mono HbA.out.size))
                  have HRl := Lib.hid (show R.length ≤ i + 1 by rw [hR.out, List.length_append]; omega)
                  have hR := hR.out
                  have Own7 := Lib.hid (own_down own7 (show w.heap.size ≤ wa.heap.size by omega))
                  have HRm := Lib.hid (show P ++ [sb] ++ D = R by rw [hR, HR6.out])
                  rw [HRm.out] at HPl
                  have HS := Lib.hid (fun vo wx h1 h2 => HRel.out R vo wx HPl.out HRl.out h1 h2)
                  clear own7 hb7 hR
                  go_wp2
                  go_roundg g0
                  case measure => omega
                  case rel =>
                    obtain ⟨k', O', h1, h2, h3⟩ := HS.out _ _ Own7.out Hb7.out
                    exact ⟨k', O', h1, by first | exact h2 | (rw [← h2]; go_num), h3⟩
                · have Hd := Lib.hid (show RecAt icCells 1 wa (.slice (some ⟨gm, n0 + 1, none⟩) (O.length - (n0 + 1)) (co - (n0 + 1))) D by
                    have h := Hd.out
                    rw [if_neg hco1, Option.map_some, addr_zero, Nat.mul_one] at h
                    exact h)
                  go_wp2_with (at_builtin; refine append_icL rfl _ _ rfl wa.heap.size ?hs3 _ _ R6 D rfl rfl Own6.out ?hX3 ?hl3 ?_)
                  case hs3 => exact hbs6
                  case hX3 => exact RecAt.below Hd.out Hb6.out
                  case hl3 => omega
                  intro R hR v7 w7 own7 hb7
                  have Hb7 := Lib.hid (HbA.out.trans ((Hb6.out.trans hb7).mono HbA.out.size))
                  have HRl := Lib.hid (show R.length ≤ i + 1 by rw [hR.out, List.length_append]; omega)
                  have hR := hR.out
                  have Own7 := Lib.hid (own_down own7 (show w.heap.size ≤ wa.heap.size by omega))
                  have HRm := Lib.hid (show P ++ [sb] ++ D = R by rw [hR, HR6.out])
                  rw [HRm.out] at HPl
                  have HS := Lib.hid (fun vo wx h1 h2 => HRel.out R vo wx HPl.out HRl.out h1 h2)
                  clear own7 hb7 hR
                  go_wp2
                  go_roundg g0
                  case measure => omega
                  case rel =>
                    obtain ⟨k', O', h1, h2, h3⟩ := HS.out _ _ Own7.out Hb7.out
                    exact ⟨k', O', h1, by first | exact h2 | (rw [← h2]; go_num), h3⟩
        · have k2 : (ac != a) = true := bne_iff_ne.2 h4
          have HS := Lib.hid (HRel.out O (.slice ao O.length co) wo (HSk.out (fun h => h4 h.2)) (by omega) Hown.out Hb.out)
          clear hig hb hown HIn HSk HRel h3 h4
          go_wp2
          go_roundg g0
          case measure => omega
          case rel =>
            obtain ⟨k', O', h1, h2, h3⟩ := HS.out
            exact ⟨k', O', h1, by first | exact h2 | (rw [← h2]; go_num), h3⟩
      · have k1 : (kd != 3) = true := bne_iff_ne.2 h3
        have HS := Lib.hid (HRel.out O (.slice ao O.length co) wo (HSk.out (fun h => h3 h.1)) (by omega) Hown.out Hb.out)
        clear hig hb hown HIn HSk HRel h3
        go_wp2
        go_roundg g0
        case measure => omega
        case rel =>
          obtain ⟨k', O', h1, h2, h3⟩ := HS.out
          exact ⟨k', O', h1, by first | exact h2 | (rw [← h2]; go_num), h3⟩
end Go.Proofs.YtngippiilgdnoaaGreat

namespace Go.Proofs.YtngippiilgdnoaaGreat
open Go.RowKit

theorem append_txL {w : World} {ops : Array Oper} {rest : List Oper} {o : Oper} {a : Act} {Q : Exit → Act → World → Prop} (hgd : o.guard = none) (s x : Operand)
    (ho : o.op = .call { callee := .builtin .append, args := #[s, x], argTypes := #[58, 58] })
    (base : Nat) (hbase : base ≤ w.heap.size) (v vx : Value) (L X : List ByteArray) (hs : a.eval s = v) (hx : a.eval x = vx) (hown : w.ownsRow base 9 1 v L.length (L.flatMap strCells)) (hX : RecAt strCells 1 w vx X) (hlen : L.length + X.length ≤ 1000000)
    (h : ∀ R : List ByteArray, RowKit.Hid (R = L ++ X) → ∀ v' w', w'.ownsRow base 9 1 v' R.length (R.flatMap strCells) → Below base w w' → wpList Tryz.prog ops Q rest (a.put o.dst v') w') : wpList Tryz.prog ops Q (o :: rest) a w :=
  append_rec (c := strCells) (sz := 1) (fun _ => rfl) (fun a u hu => by unfold strCells at hu; rw [List.mem_singleton] at hu; subst hu; rfl) 9 58 _ 16 Tryz.underlying58 Tryz.stringInfo rfl (by decide) hgd s x ho base hbase v vx L X hs hx hown hX (by unfold maxLen; omega) (by omega) h
theorem less_no {a b : ByteArray} (h : ltS a b = true) : Op.bytesLess b.toList a.toList = false := by
  cases hq : Op.bytesLess b.toList a.toList with
  | false => rfl
  | true => exact absurd (ltS_trans h hq) (ltS_irrefl a)
theorem less_yes {a b : ByteArray} (h : ¬ ltS a b = true) (hne : b ≠ a) : Op.bytesLess b.toList a.toList = true := ltS_tot h (Ne.symm hne)
theorem same_no {a b : ByteArray} (h : a ≠ b) : (a.toList == b.toList) = false := by
  cases hq : (a.toList == b.toList) with
  | false => rfl
  | true => exact absurd ((sameS_iff a b).1 hq) h
theorem prodsOk_nil (a : Int) : ProdsOk [] a [] := ⟨List.Pairwise.nil, fun x => by simp⟩
/-- Products in a row of the call's own. -/
def ProdsTo (l : List Ev) (a : Int) (w : World) (e : Ending) (w' : World) : Prop := ∃ v O, e = .returned v ∧ ProdsOk l a O ∧ w'.ownsRow w.heap.size 9 1 v O.length (O.flatMap strCells) ∧ O.length ≤ l.length ∧ Below w.heap.size w w'
theorem any_same (O : List ByteArray) (s : ByteArray) : O.any (fun x => sameS x s) = true ↔ s ∈ O := by
  rw [List.any_eq_true]
  exact ⟨fun ⟨x, hx, he⟩ => (sameS_iff _ _).1 he ▸ hx, fun h => ⟨s, h, (sameS_iff _ _).2 rfl⟩⟩
theorem any_same_no {O : List ByteArray} {s : ByteArray} (h : s ∉ O) : O.any (fun x => sameS x s) = false := by
  cases hq : O.any (fun x => sameS x s) with
  | false => rfl
  | true => exact absurd ((any_same O s).1 hq) h
set_option maxRecDepth 100000 in
set_option maxHeartbeats 1600000 in
theorem has33_calls (v : Value) (L : List ByteArray) (s : ByteArray) (w : World) (h : RecAt strCells 1 w v L) :
    Calls Tryz.prog 88 #[v, .string s] w fun e w' => e = .returned (.bool (L.any fun x => sameS x s)) ∧ w = w' := by
  have HA := Lib.hid h
  obtain ⟨aa, an, rfl, hla, hma, -⟩ := h
  have hma := hma.1
  unfold maxLen at hma
  go_enter Tryz.func88, Tryz.ntmps88
  go_wp2_with fail
  go_loop [5] (fun i => ∃ k : Nat, k ≤ L.length ∧ i = .int .i64 k ∧ (L.take k).any (fun x => sameS x s) = false) (fun i => L.length - (intOf i).toNat)
  case atStart => exact ⟨0, Nat.zero_le _, rfl, rfl⟩
  case round =>
    obtain ⟨k, hk, rfl, hno⟩ := hrel
    have Hno := Lib.hid hno
    clear hno
    by_cases hlt : k < L.length
    · have hk1 : (k : Int) < (L.length : Int) := by omega
      have hk0 : (0 : Int) ≤ (k : Int) := Int.natCast_nonneg _
      obtain ⟨a2, n2, e2, -, -, hx⟩ := HA.out
      cases e2
      obtain ⟨bb, o, rfl, hB, hx⟩ := hx (by rintro rfl; cases hlt)
      have x0 : w.cell? ⟨bb, o + k, none⟩ = some (.string L[k]) := by
        have := hx k hlt 0 (by decide)
        rwa [Nat.mul_one, Nat.add_zero] at this
      have HH := Lib.hid (fun hp => any_hit (p := fun x => sameS x s) hlt hp)
      have HT := Lib.hid (fun hp => any_take (p := fun x => sameS x s) hlt Hno.out hp)
      clear hx
      generalize L[k] = a at *
      cases hid : (a.toList == s.toList) with
      | true =>
        have HE := Lib.hid (HH.out hid)
        go_wp2
        go_ret
        exact ⟨ret_bool HE.out.symm, rfl⟩
      | false =>
        have HE := Lib.hid (HT.out hid)
        go_wp2
        exact ⟨⟨k + 1, by omega, by go_num, HE.out⟩, by simp [intOf]; omega⟩
    · have HE := Lib.hid (any_end (by omega) Hno.out)
      go_wp2
      go_ret
      exact ⟨ret_bool HE.out.symm, rfl⟩

set_option maxRecDepth 100000 in
set_option maxHeartbeats 12800000 in
theorem prods35_calls (v : Value) (l : List Ev) (a : Int) (w : World) (h : EvsAt w v l) (hl : l.length ≤ 1000) :
    Calls Tryz.prog 47 #[v, .int .i64 a] w (ProdsTo l a w) := by
  obtain ⟨av, cap, rfl, hlc, hcm⟩ := rec_shape h.1
  unfold maxLen at hcm
  have HE := Lib.hid h.1

  have HF := Lib.hid (show ∀ O, ProdsOk (l.take l.length) a O → ProdsOk l a O from fun O h => by rwa [List.take_of_length_le (Nat.le_refl _)] at h)
  clear h
  go_enter Tryz.func47, Tryz.ntmps47
  go_wp2_with fail
  go_loopg [5, 6] l.length (fun g vo i wx => ∃ (k : Nat) (O : List ByteArray), k + g = l.length ∧ i = .int .i64 k ∧ ProdsOk (l.take k) a O ∧ O.length ≤ k ∧ wx.ownsRow w.heap.size 9 1 vo O.length (O.flatMap strCells) ∧ Below w.heap.size w wx)
  case atStart => exact ⟨0, [], by omega, rfl, prodsOk_nil _, Nat.le_refl _, World.ownsRow_nil _ _ _ _, Below.refl _ _⟩
  case round =>
    obtain ⟨wo, rfl⟩ : ∃ wo : World, wo = wr := ⟨_, rfl⟩
    obtain ⟨i, O, hig, rfl, hok, hOl, hown, hb⟩ := hrel
    obtain ⟨ao, co, rfl, hco, hcom⟩ := own_shape hown
    have Hown := Lib.hid hown
    have Hb := Lib.hid hb
    cases gk with
    | zero =>
      have hiz : ¬ ((i : Int) < (l.length : Int)) := by omega
      have hEq : i = l.length := by omega
      have HR := Lib.hid (show ProdsTo l a w (.returned (.slice ao O.length co)) wo from ⟨_, O, rfl, HF.out O (by rw [← hEq]; exact hok), hown, by omega, hb⟩)
      clear hig hb hown hEq hok
      go_wp2
      go_ret
      exact HR.out
    | succ g0 =>
      have hil : i < l.length := by omega
      have hi1 : (i : Int) < (l.length : Int) := by omega
      have hi0 : (0 : Int) ≤ (i : Int) := Int.natCast_nonneg _
      obtain ⟨a2, n2, e2, -, -, hx⟩ := HE.out
      cases e2
      obtain ⟨eb, eo, rfl, hB, hx⟩ := hx (by intro e; rw [e] at hil; cases hil)
      have HX := Lib.hid (show ∀ Y, Below w.heap.size w Y → Y.cell? ⟨eb, eo + i * 7 + 1, none⟩ = some (.int .i64 (l[i]).kd) ∧ Y.cell? ⟨eb, eo + i * 7 + 3, none⟩ = some (.int .i64 (l[i]).sb) ∧ Y.cell? ⟨eb, eo + i * 7 + 5, none⟩ = some (.string (l[i]).nm) from fun Y hY => ⟨(hY.cell (p := ⟨eb, _, none⟩) hB).trans (hx i hil 1 (by decide)), (hY.cell (p := ⟨eb, _, none⟩) hB).trans (hx i hil 3 (by decide)), (hY.cell (p := ⟨eb, _, none⟩) hB).trans (hx i hil 5 (by decide))⟩)
      have hebW : eb < w.heap.size := hB
      clear hx
      have HRel := Lib.hid (fun (O1 : List ByteArray) (vo : Value) (wx : World) (h0 : ProdsOk (l.take (i + 1)) a O1) (hl1 : O1.length ≤ i + 1) (h1 : wx.ownsRow w.heap.size 9 1 vo O1.length (O1.flatMap strCells)) (h2 : Below w.heap.size w wx) => (⟨i + 1, O1, by omega, by go_num, h0, hl1, h1, h2⟩ : ∃ (k : Nat) (O : List ByteArray), k + g0 = l.length ∧ Value.int .i64 ((i : Int) + 1) = .int .i64 k ∧ ProdsOk (l.take k) a O ∧ O.length ≤ k ∧ wx.ownsRow w.heap.size 9 1 vo O.length (O.flatMap strCells) ∧ Below w.heap.size w wx))
      have HSk := Lib.hid (show (¬ ((l[i]).kd = 8 ∧ (l[i]).sb = a) ∨ (l[i]).nm ∈ O) → ProdsOk (l.take (i + 1)) a O from fun hn => by rw [List.take_succ_eq_append_getElem hil]; exact hok.skip _ hn)
      have HIn := Lib.hid (show (l[i]).kd = 8 → (l[i]).sb = a → (l[i]).nm ∉ O → ∀ k, PlaceO (fun x y : ByteArray => ltS x y = true) O (l[i]).nm k → ProdsOk (l.take (i + 1)) a (O.take k ++ [(l[i]).nm] ++ O.drop k) from fun h3 h4 h5 k hp => by rw [List.take_succ_eq_append_getElem hil]; exact hok.ins _ h3 h4 h5 hp)
      clear HF
      generalize ProdsOk (l.take (i + 1)) a = ok1 at *
      have Hok := Lib.hid hok
      clear hok
      generalize l[i] = ev at *
      obtain ⟨tm, kd, ac, sb, nu, nm, vl⟩ := ev
      dsimp only at HX HSk HIn
      obtain ⟨x1, x2, x3⟩ := HX.out wo hb
      by_cases h3 : kd = 8
      · have k1 : (kd != 8) = false := bne_eq_false_iff_eq.2 h3
        by_cases h4 : sb = a
        · have k2 : (sb != a) = false := bne_eq_false_iff_eq.2 h4
          have HC := Lib.hid (has33_calls (.slice ao O.length co) O nm wo (RecAt.own (fun _ => rfl) Hown.out))
          by_cases h5 : nm ∈ O
          · rw [(any_same O nm).2 h5] at HC
            have HS := Lib.hid (HRel.out O (.slice ao O.length co) wo (HSk.out (Or.inr h5)) (by omega) Hown.out Hb.out)
            clear hig hb hown HIn HSk HRel h3 h4 h5
            go_wp2_with fail
            refine HC.out.mono ?_
            rintro e w1 ⟨rfl, rfl⟩
            go_wp2
            go_roundg g0
            case measure => omega
            case rel =>
              obtain ⟨k', O', h1, h2, h3⟩ := HS.out
              exact ⟨k', O', h1, by first | exact h2 | (rw [← h2]; go_num), h3⟩
          · rw [any_same_no h5] at HC
            have HNe := Lib.hid (show ∀ n (h : n < O.length), O[n] ≠ nm from fun n h e => h5 (e ▸ List.getElem_mem h))
            have HIns := Lib.hid (fun k hp => HIn.out h3 h4 h5 k hp)
            clear HIn HSk hig hb hown h3 h4 h5
            go_wp2_with fail
            refine HC.out.mono ?_
            rintro e w1 ⟨rfl, rfl⟩
            clear HC
            go_wp2_with fail
            go_loopg [7] O.length (fun g x wy => x = .int .i64 g ∧ g ≤ O.length ∧ (∀ j (hj : j < O.length), g ≤ j → (fun x y : ByteArray => ltS x y = true) nm O[j]) ∧ Below wo.heap.size wo wy)
            case atStart => exact ⟨rfl, Nat.le_refl _, fun j hj h => by omega, Below.refl _ _⟩
            case round =>
              obtain ⟨rfl, hgN, hkO, hby⟩ := hrel
              have HkO := Lib.hid hkO
              have Hby := Lib.hid hby
              have HownY := Lib.hid (ownsRow_below Hown.out hby)
              obtain ⟨y1, y2, y3⟩ := HX.out wr (Hb.out.trans (hby.mono Hb.out.size))
              have hebY : eb < wr.heap.size := by have := hby.size; have := Hb.out.size; omega
              have f3 := fun p : BelowOf wr => BelowOf.cell (a := ⟨eb, _, none⟩) hebY y3 p
              have hrr := Below.refl wr.heap.size wr
              clear hkO y1 y2 y3 x1 x2 x3 hebY
              cases gk with
              | zero =>
                have HPl := Lib.hid (HIns.out 0 ⟨Nat.zero_le _, HkO.out, fun j hj e => by omega⟩)
                go_upto_region 7 with (fail)
                refine wp_region_quiet_below hrr (by kernel_rfl) (by kernel_rfl) ?_
                repeat (go_big_quiet_step (fail))
                refine wpQuiet_nil ?_
                intro wa hw'
                have hYa : Below wr.heap.size wr wa := by obtain ⟨pq, rfl⟩ := hw'; exact pq.h
                clear hw' f3 hrr
                have Hbo := Lib.hid (Hby.out.trans (hYa.mono Hby.out.size))
                have HownA := Lib.hid (ownsRow_below HownY.out hYa)
                have Ht := Lib.hid (sliceAt_take (RecAt.own (c := strCells) (fun _ => rfl) HownA.out : RecAt strCells 1 _ _ _) 0 (Nat.zero_le _))
                have Hd := Lib.hid (show RecAt strCells 1 wa (.slice ao O.length co) (O.drop 0) from RecAt.own (fun _ => rfl) HownA.out)
                obtain ⟨P, hP0⟩ : ∃ P, P = O.take (0) := ⟨_, rfl⟩
                obtain ⟨D, hD0⟩ : ∃ D, D = O.drop (0) := ⟨_, rfl⟩
                have hlt1 : P.length ≤ O.length := by rw [hP0, List.length_take]; omega
                have hld1 : P.length + D.length = O.length := by rw [hP0, hD0, ← List.length_append, List.take_append_drop]
                rw [← hP0] at Ht
                rw [← hD0] at Hd
                rw [← hP0, ← hD0] at HPl
                clear hP0 hD0
                obtain ⟨Y, hY⟩ : ∃ Y, Y = wa.alloc (Obj.cells #[] 9) := ⟨_, rfl⟩
                have hbY : Below wa.heap.size wa Y := by rw [hY]; exact (Below.refl _ _).alloc (Nat.le_refl _) _
                have hown0 : Y.ownsRow wa.heap.size 9 1 (.slice (some ⟨wa.heap.size, 0, none⟩) 0 0) 0 [] := by
                  rw [hY]
                  exact own_empty _ _
                have Hown0 := Lib.hid hown0
                have HbY := Lib.hid hbY
                have HYe := Lib.hid hY
                have HbA := Lib.hid (Hb.out.trans (Hbo.out.mono Hb.out.size))
                clear hY hbY hown0 hYa
                have hbs := HbY.out.size
                have hbA := HbA.out.size
                go_wp2_with (at_builtin; rw [← HYe.out]; refine append_txL rfl _ _ rfl wa.heap.size hbs _ _ [] P rfl rfl Hown0.out ?hX1 ?hl1 ?_)
                case hX1 => exact RecAt.below Ht.out HbY.out
                case hl1 => first | omega | (simp; omega)
                intro P5 hP5 v5 w5 own5 hb5
                obtain rfl : P = P5 := hP5.out.symm
                clear hP5
                have Hb5 := Lib.hid (HbY.out.trans hb5)
                have Own5 := Lib.hid own5
                have hbs5 := Hb5.out.size
                obtain ⟨a5, c5, rfl, hc5, hm5⟩ := own_shape own5
                clear own5 hb5
                obtain ⟨z1, z2, z3⟩ := HX.out w5 (HbA.out.trans (Hb5.out.mono HbA.out.size))
                have HX2 := Lib.hid (RecAt.one (c := strCells) (sz := 1) w5 nm 9 #[.string nm] rfl)
                go_wp2_with (at_builtin; refine append_txL rfl _ _ rfl wa.heap.size ?hs2 _ _ P [nm] rfl rfl (Own5.out.alloc _) HX2.out ?hl2 ?_)
                case hs2 => simp; omega
                case hl2 => simp; omega
                intro R6 hR6 v6 w6 own6 hb6
                have Hb6 := Lib.hid ((Hb5.out.alloc hbs5 (Obj.cells #[.string nm] 9)).trans hb6)
                have HR6 := Lib.hid hR6.out
                have hR6l : R6.length = P.length + 1 := by rw [hR6.out, List.length_append]; rfl
                have hbs6 := Hb6.out.size
                obtain ⟨a6, c6, rfl, hc6, hm6⟩ := own_shape own6
                have Own6 := Lib.hid own6
                have hR6b : R6.length ≤ O.length + 1 := by omega
                have hR6d : R6.length + D.length ≤ O.length + 1 := by omega
                clear own6 hb6 hR6 hR6l z1 z2 z3
                go_wp2_with (at_builtin; refine append_txL rfl _ _ rfl wa.heap.size ?hs3 _ _ R6 D rfl rfl Own6.out ?hX3 ?hl3 ?_)
                case hs3 => exact hbs6
                case hX3 => exact RecAt.below Hd.out Hb6.out
                case hl3 => omega
                intro R hR v7 w7 own7 hb7
                have Hb7 := Lib.hid (HbA.out.trans ((Hb6.out.trans hb7).mono HbA.out.size))
                have HRl := Lib.hid (show R.length ≤ i + 1 by rw [hR.out, List.length_append]; omega)
                have hR := hR.out
                have Own7 := Lib.hid (own_down own7 (show w.heap.size ≤ wa.heap.size by omega))
                have HRm := Lib.hid (show P ++ [nm] ++ D = R by rw [hR, HR6.out])
                rw [HRm.out] at HPl
                have HS := Lib.hid (fun vo wx h1 h2 => HRel.out R vo wx HPl.out HRl.out h1 h2)
                clear own7 hb7 hR
                go_wp2
                go_roundg g0
                case measure => omega
                case rel =>
                  obtain ⟨k', O', h1, h2, h3⟩ := HS.out _ _ Own7.out Hb7.out
                  exact ⟨k', O', h1, by first | exact h2 | (rw [← h2]; go_num), h3⟩
              | succ n0 =>
                have hn0 : n0 < O.length := by omega
                obtain ⟨gm, rfl⟩ : ∃ gm, ao = some ⟨gm, 0, none⟩ := by
                  rcases HownY.out.2 with ⟨h1, h2⟩ | ⟨gm, cap', cur, hv, -⟩
                  · omega
                  · simp only [Value.slice.injEq] at hv
                    exact ⟨gm, hv.1⟩
                have hgW := (ownsRow_block HownY.out gm rfl).2
                have hzr := fun j (hj : j < 1) => (HownY.out.cellAt (n0 * 1 + j) (by omega)).trans (flat_get strCells 1 (fun _ => rfl) O n0 j hn0 hj)
                have HYs := Lib.hid (show (fun x y : ByteArray => ltS x y = true) nm O[n0] → ∀ j (hj : j < O.length), n0 ≤ j → (fun x y : ByteArray => ltS x y = true) nm O[j] from fun h j hj hle => by
                  rcases Nat.lt_or_ge n0 j with h1 | h1
                  · exact HkO.out j hj h1
                  · obtain rfl : j = n0 := by omega
                    exact h)
                have HNo := Lib.hid (show ¬ (fun x y : ByteArray => ltS x y = true) nm O[n0] → ok1 (O.take (n0 + 1) ++ [nm] ++ O.drop (n0 + 1)) from fun h => HIns.out (n0 + 1) ⟨hn0, HkO.out, fun j hj e => by
                  obtain rfl : j = n0 := by omega
                  exact h⟩)
                clear HIns
                have hnr := HNe.out n0 hn0
                generalize O[n0] = r at *
                unfold strCells at hzr
                have e0 := fun p : BelowOf wr => BelowOf.cell (a := ⟨gm, _, none⟩) hgW (hzr 0 (by omega)) p
                have e0 : ∀ p : BelowOf wr, p.w.cell? ⟨gm, n0, none⟩ = some (.string r) := by simpa using e0
                clear hzr hgW
                have hsub : IntKind.i64.wrap ((n0 : Int) + 1 - 1) = (n0 : Int) := by rw [show (n0 : Int) + 1 - 1 = n0 by omega]; exact IntWalk.i64_in _ (by omega)
                have hn0c : (n0 : Int) < (O.length : Int) := by omega
                have hn00 : (0 : Int) ≤ (n0 : Int) := Int.natCast_nonneg _
                have hn0p : (0 : Int) < (n0 : Int) + 1 := by omega
                obtain ⟨bf, hbf⟩ : ∃ bf, bf = Op.bytesLess nm.toList r.toList := ⟨_, rfl⟩
                have Hbf := Lib.hid hbf
                cases bf with
                | true =>
                  have HE2 := Lib.hid (HYs.out (Hbf.out.symm))
                  have hcmp : Op.bytesLess r.toList nm.toList = false := less_no Hbf.out.symm; have hcme : (r.toList == nm.toList) = false := same_no hnr
                  clear HYs HNo hbf
                  go_upto_region 7 with (fail)
                  refine wp_region_quiet_below hrr (by kernel_rfl) (by kernel_rfl) ?_
                  repeat (go_big_quiet_step (fail))
                  refine wpQuiet_nil ?_
                  intro wa hw'
                  have hYa : Below wr.heap.size wr wa := by obtain ⟨pq, rfl⟩ := hw'; exact pq.h
                  have Hbo := Lib.hid (Hby.out.trans (hYa.mono Hby.out.size))
                  clear hw' e0 f3 hrr hYa
                  go_wp2
                  go_roundg n0
                  case measure => omega
                  case rel => exact ⟨by first | rfl | simp, by omega, HE2.out, Hbo.out⟩
                | false =>
                  have HPl := Lib.hid (HNo.out (fun h => Bool.noConfusion (Hbf.out.trans h)))
                  have hcmp : Op.bytesLess r.toList nm.toList = true := less_yes (fun h => Bool.noConfusion (Hbf.out.trans h)) hnr
                  clear HYs HNo hbf
                  go_upto_region 7 with (fail)
                  refine wp_region_quiet_below hrr (by kernel_rfl) (by kernel_rfl) ?_
                  repeat (go_big_quiet_step (fail))
                  refine wpQuiet_nil ?_
                  intro wa hw'
                  have hYa : Below wr.heap.size wr wa := by obtain ⟨pq, rfl⟩ := hw'; exact pq.h
                  clear hw' e0 f3 hrr
                  have Hbo := Lib.hid (Hby.out.trans (hYa.mono Hby.out.size))
                  have HownA := Lib.hid (ownsRow_below HownY.out hYa)
                  have Ht := Lib.hid (sliceAt_take (RecAt.own (c := strCells) (fun _ => rfl) HownA.out : RecAt strCells 1 _ _ _) (n0 + 1) hn0)
                  have Hd := Lib.hid (sliceAt_drop (RecAt.own (c := strCells) (fun _ => rfl) HownA.out : RecAt strCells 1 _ _ _) (n0 + 1) hn0)
                  obtain ⟨P, hP0⟩ : ∃ P, P = O.take (n0 + 1) := ⟨_, rfl⟩
                  obtain ⟨D, hD0⟩ : ∃ D, D = O.drop (n0 + 1) := ⟨_, rfl⟩
                  have hlt1 : P.length ≤ O.length := by rw [hP0, List.length_take]; omega
                  have hld1 : P.length + D.length = O.length := by rw [hP0, hD0, ← List.length_append, List.take_append_drop]
                  rw [← hP0] at Ht
                  rw [← hD0] at Hd
                  rw [← hP0, ← hD0] at HPl
                  clear hP0 hD0
                  obtain ⟨Y, hY⟩ : ∃ Y, Y = wa.alloc (Obj.cells #[] 9) := ⟨_, rfl⟩
                  have hbY : Below wa.heap.size wa Y := by rw [hY]; exact (Below.refl _ _).alloc (Nat.le_refl _) _
                  have hown0 : Y.ownsRow wa.heap.size 9 1 (.slice (some ⟨wa.heap.size, 0, none⟩) 0 0) 0 [] := by
                    rw [hY]
                    exact own_empty _ _
                  have Hown0 := Lib.hid hown0
                  have HbY := Lib.hid hbY
                  have HYe := Lib.hid hY
                  have HbA := Lib.hid (Hb.out.trans (Hbo.out.mono Hb.out.size))
                  clear hY hbY hown0 hYa
                  have hbs := HbY.out.size
                  have hbA := HbA.out.size
                  go_wp2_with (at_builtin; rw [← HYe.out]; refine append_txL rfl _ _ rfl wa.heap.size hbs _ _ [] P rfl rfl Hown0.out ?hX1 ?hl1 ?_)
                  case hX1 => exact RecAt.below Ht.out HbY.out
                  case hl1 => first | omega | (simp; omega)
                  intro P5 hP5 v5 w5 own5 hb5
                  obtain rfl : P = P5 := hP5.out.symm
                  clear hP5
                  have Hb5 := Lib.hid (HbY.out.trans hb5)
                  have Own5 := Lib.hid own5
                  have hbs5 := Hb5.out.size
                  obtain ⟨a5, c5, rfl, hc5, hm5⟩ := own_shape own5
                  clear own5 hb5
                  obtain ⟨z1, z2, z3⟩ := HX.out w5 (HbA.out.trans (Hb5.out.mono HbA.out.size))
                  have HX2 := Lib.hid (RecAt.one (c := strCells) (sz := 1) w5 nm 9 #[.string nm] rfl)
                  go_wp2_with (at_builtin; refine append_txL rfl _ _ rfl wa.heap.size ?hs2 _ _ P [nm] rfl rfl (Own5.out.alloc _) HX2.out ?hl2 ?_)
                  case hs2 => simp; omega
                  case hl2 => simp; omega
                  intro R6 hR6 v6 w6 own6 hb6
                  have Hb6 := Lib.hid ((Hb5.out.alloc hbs5 (Obj.cells #[.string nm] 9)).trans hb6)
                  have HR6 := Lib.hid hR6.out
                  have hR6l : R6.length = P.length + 1 := by rw [hR6.out, List.length_append]; rfl
                  have hbs6 := Hb6.out.size
                  obtain ⟨a6, c6, rfl, hc6, hm6⟩ := own_shape own6
                  have Own6 := Lib.hid own6
                  have hR6b : R6.length ≤ O.length + 1 := by omega
                  have hR6d : R6.length + D.length ≤ O.length + 1 := by omega
                  clear own6 hb6 hR6 hR6l z1 z2 z3
                  by_cases hco1 : co = n0 + 1
                  · have Hd := Lib.hid (show RecAt strCells 1 wa (.slice (some ⟨gm, 0, none⟩) (O.length - (n0 + 1)) 0) D by
                      have h := Hd.out
                      rw [if_pos hco1, hco1, Nat.sub_self] at h
                      exact h)
                    go_wp2_with (at_builtin; refine append_txL rfl _ _ rfl wa.heap.size ?hs3 _ _ R6 D rfl rfl Own6.out ?hX3 ?hl3 ?_)
                    case hs3 => exact hbs6
                    case hX3 => exact RecAt.below Hd.out Hb6.out
                    case hl3 => omega
                    intro R hR v7 w7 own7 hb7
                    have Hb7 := Lib.hid (HbA.out.trans ((Hb6.out.trans hb7).mono HbA.out.size))
                    have HRl := Lib.hid (show R.length ≤ i + 1 by rw [hR.out, List.length_append]; omega)
                    have hR := hR.out
                    have Own7 := Lib.hid (own_down own7 (show w.heap.size ≤ wa.heap.size by omega))
                    have HRm := Lib.hid (show P ++ [nm] ++ D = R by rw [hR, HR6.out])
                    rw [HRm.out] at HPl
                    have HS := Lib.hid (fun vo wx h1 h2 => HRel.out R vo wx HPl.out HRl.out h1 h2)
                    clear own7 hb7 hR
                    go_wp2
                    go_roundg g0
                    case measure => omega
                    case rel =>
                      obtain ⟨k', O', h1, h2, h3⟩ := HS.out _ _ Own7.out Hb7.out
                      exact ⟨k', O', h1, by first | exact h2 | (rw [← h2]; go_num), h3⟩
                  · have Hd := Lib.hid (show RecAt strCells 1 wa (.slice (some ⟨gm, n0 + 1, none⟩) (O.length - (n0 + 1)) (co - (n0 + 1))) D by
                      have h := Hd.out
                      rw [if_neg hco1, Option.map_some, addr_zero, Nat.mul_one] at h
                      exact h)
                    go_wp2_with (at_builtin; refine append_txL rfl _ _ rfl wa.heap.size ?hs3 _ _ R6 D rfl rfl Own6.out ?hX3 ?hl3 ?_)
                    case hs3 => exact hbs6
                    case hX3 => exact RecAt.below Hd.out Hb6.out
                    case hl3 => omega
                    intro R hR v7 w7 own7 hb7
                    have Hb7 := Lib.hid (HbA.out.trans ((Hb6.out.trans hb7).mono HbA.out.size))
                    have HRl := Lib.hid (show R.length ≤ i + 1 by rw [hR.out, List.length_append]; omega)
                    have hR := hR.out
                    have Own7 := Lib.hid (own_down own7 (show w.heap.size ≤ wa.heap.size by omega))
                    have HRm := Lib.hid (show P ++ [nm] ++ D = R by rw [hR, HR6.out])
                    rw [HRm.out] at HPl
                    have HS := Lib.hid (fun vo wx h1 h2 => HRel.out R vo wx HPl.out HRl.out h1 h2)
                    clear own7 hb7 hR
                    go_wp2
                    go_roundg g0
                    case measure => omega
                    case rel =>
                      obtain ⟨k', O', h1, h2, h3⟩ := HS.out _ _ Own7.out Hb7.out
                      exact ⟨k', O', h1, by first | exact h2 | (rw [← h2]; go_num), h3⟩
        · have k2 : (sb != a) = true := bne_iff_ne.2 h4
          have HS := Lib.hid (HRel.out O (.slice ao O.length co) wo (HSk.out (Or.inl fun h => h4 h.2)) (by omega) Hown.out Hb.out)
          clear hig hb hown HIn HSk HRel h3 h4
          go_wp2
          go_roundg g0
          case measure => omega
          case rel =>
            obtain ⟨k', O', h1, h2, h3⟩ := HS.out
            exact ⟨k', O', h1, by first | exact h2 | (rw [← h2]; go_num), h3⟩
      · have k1 : (kd != 8) = true := bne_iff_ne.2 h3
        have HS := Lib.hid (HRel.out O (.slice ao O.length co) wo (HSk.out (Or.inl fun h => h3 h.1)) (by omega) Hown.out Hb.out)
        clear hig hb hown HIn HSk HRel h3
        go_wp2
        go_roundg g0
        case measure => omega
        case rel =>
          obtain ⟨k', O', h1, h2, h3⟩ := HS.out
          exact ⟨k', O', h1, by first | exact h2 | (rw [← h2]; go_num), h3⟩
end Go.Proofs.YtngippiilgdnoaaGreat
