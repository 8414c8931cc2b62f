/-
  The walk of cycle.lives: an iterator over the lives of accounts.
  The walk of cycle.find: the life of an account.
-/
import Derived.Test.YtmilpaibkemmdaaMgbl
import Derived.Test.YtmilpaibkemmdaaMgak
import Derived.RangeFuncNested
import Derived.RangeFuncBound
import Derived.RangeFuncCalls
import Derived.RangeFuncLeaves
import Derived.Shelf.Abstract
import Derived.Shelf.RegionOpen
import Derived.WalkKit
import Derived.OwnWalkIn
import Derived.TacticsInMore
import Derived.LoopNIn
import Derived.LoopIn
import Derived.Sort.LoopGhostIn
import Derived.Sort.QuietIn
namespace Go.Proofs.Ytmilpaibkemmdaa
open Go.RowKit Go.Shelf

attribute [local go_sem] Oper.semAt_some

theorem ev_cells {w : World} {bb o : Nat} {e : Ev} (h : RecR evCells 7 w bb o e) : w.cell? ⟨bb, o, none⟩ = some (.int .i64 e.tm) ∧ w.cell? ⟨bb, o + 1, none⟩ = some (.int .i64 e.kd) ∧ w.cell? ⟨bb, o + 2, none⟩ = some (.int .i64 e.ac) ∧ w.cell? ⟨bb, o + 3, none⟩ = some (.int .i64 e.sb) ∧ w.cell? ⟨bb, o + 4, none⟩ = some (.string e.nu) ∧ w.cell? ⟨bb, o + 5, none⟩ = some (.string e.nm) ∧ w.cell? ⟨bb, o + 6, none⟩ = some (.int .i64 e.vl) :=
  ⟨h 0 (by decide), h 1 (by decide), h 2 (by decide), h 3 (by decide), h 4 (by decide), h 5 (by decide), h 6 (by decide)⟩
theorem grown_none {w w' : World} (h : Below w.heap.size w w') : w.grownBy w' none := ⟨h.os, h.tape, h.output, h.size, fun k hk _ => h.block k hk⟩
theorem row_set3 {w : World} {b : Nat} {x0 x1 x2 x3 : Value} {t : TypeId} (h : w.heap[b]? = some (Obj.cells #[x0, x1, x2, x3] t)) (v : Value) : (w.setCell ⟨b, 3, none⟩ v).heap[b]? = some (Obj.cells #[x0, x1, x2, v] t) := by
  obtain ⟨hlt, hk⟩ := Array.getElem?_eq_some_iff.1 h
  show (w.heap.modify b _)[b]? = _
  rw [Array.getElem?_eq_getElem (by rw [Array.size_modify]; exact hlt), Array.getElem_modify_self, hk]
  rfl
/-- A life in memory. -/
def lifeVal (E : List Ev) (e : Ev) : Value := .agg #[.int .i64 e.ac, .int .i64 e.vl, .int .i64 e.tm, .int .i64 (closeR E e.ac)]
/-- What a round over the lives keeps: what lay at the start, and the box of the events. -/
def KpL (n₀ Bs : Nat) (W W' : World) : Prop := Below n₀ W W' ∧ W'.heap[Bs]? = W.heap[Bs]?
theorem KpL.trans {n₀ Bs : Nat} {A B C : World} (h : KpL n₀ Bs A B) (g : KpL n₀ Bs B C) : KpL n₀ Bs A C := ⟨h.1.trans g.1, g.2.trans h.2⟩
theorem KpL.refl (n₀ Bs : Nat) (A : World) : KpL n₀ Bs A A := ⟨Below.refl _ _, rfl⟩
theorem KpL.of_below {n₀ Bs : Nat} {A B : World} (hn : n₀ ≤ A.heap.size) (hB : Bs < A.heap.size) (h : Below A.heap.size A B) : KpL n₀ Bs A B := ⟨h.mono hn, h.block _ hB⟩

set_option maxRecDepth 100000 in
set_option maxHeartbeats 8000000 in
theorem lives1_in (F : Fence) (n : Nat) (hF : F.fn 44) (hro : F.round = none) (hn : 1 ≤ n) (l Bs n₀ : Nat) (v : Value) (E : List Ev) (J Jx : List (OpE E) → World → Prop)
    (W : World) (hJ : AbidesFrom W.heap.size J) (hn₀ : n₀ ≤ W.heap.size) (hBl : Bs < W.heap.size)
    (hY : ∀ pre x W, J pre W → pre.length < E.length → YieldAt F (n - 1) Try.prog l #[lifeVal E x.1] W fun e W' =>
      (e = .returned (.bool true) ∧ J (pre ++ [x]) W' ∧ KpL n₀ Bs W W') ∨ (e = .returned (.bool false) ∧ Jx (pre ++ [x]) W'))
    (hBs : W.cell? ⟨Bs, 0, none⟩ = some v) (hc : ∃ w0 : World, w0.heap.size = n₀ ∧ EvsAt w0 v E ∧ Below n₀ w0 W) (h0 : J [] W) :
    CallsIn F n Try.prog 44 #[.func (.yield l) #[] #[], .pointer (some ⟨Bs, 0, none⟩)] W fun e W' => (∃ v, e = .returned v) ∧
      ((∃ ys, valsE ys = opens E ∧ J ys W') ∨ (∃ pre, (∃ k, k ≤ E.length ∧ valsE pre = opens (E.take k)) ∧ Jx pre W')) := by
  obtain ⟨w0, hw0, hp, hbw⟩ := hc
  obtain ⟨av, cap, rfl, hcl, hcm⟩ := rec_shape hp.1
  unfold maxLen at hcm
  have hEl : E.length ≤ 9223372036854775807 := by omega
  clear hcl hcm
  have HR := Lib.hid (show ∀ X, Below n₀ W X → ∀ k (hk : k < E.length), ∃ bb o, av = some ⟨bb, o, none⟩ ∧ RecR evCells 7 X bb (o + k * 7) E[k] from fun X hX k hk => by
    have h1 := (hp.below (w' := X) (by rw [hw0]; exact hbw.trans hX)).1
    obtain ⟨a2, c2, e2, -, -, hx⟩ := h1
    cases e2
    obtain ⟨bb, o, rfl, -, hx⟩ := hx (by rintro rfl; cases hk)
    exact ⟨bb, o, rfl, hx k hk⟩)
  have HB := Lib.hid (show ∀ X, KpL n₀ Bs W X → X.cell? ⟨Bs, 0, none⟩ = some (.slice av E.length cap) from fun X hX => (World.cell?_of_block (a := ⟨Bs, 0, none⟩) hX.2).trans hBs)
  have HOT := Lib.hid (opens_take E)
  have HOL := Lib.hid (opens_len E)
  have HCT := Lib.hid (closeR_take E)
  have HJ := Lib.hid hJ
  have HY := Lib.hid hY
  clear hp hbw hw0 w0 hJ hY
  refine callsIn_of_wp Try.func44 rfl hF ?_ hro
  simp only [Try.ntmps44, List.size_toArray, List.length_cons, List.length_nil, Nat.reduceAdd, Nat.reduceSub, Array.replicate_succ, Array.replicate_zero, List.push_toArray, List.append_toArray, List.nil_append, List.cons_append]
  gi_wp2
  gi_loopg [10] E.length (fun g i wr => ∃ k : Nat, k + g = E.length ∧ i = .int .i64 k ∧ (∃ pre : List (OpE E), valsE pre = opens (E.take k) ∧ J pre wr) ∧ KpL n₀ Bs W wr)
  case atStart => exact ⟨0, by omega, rfl, ⟨[], rfl, h0⟩, KpL.refl _ _ _⟩
  case round =>
    obtain ⟨wo, rfl⟩ : ∃ wo : World, wo = wr := ⟨_, rfl⟩
    obtain ⟨k, hkg, rfl, ⟨pre, hpre, hJs⟩, hb⟩ := hrel
    have Hkg := Lib.hid hkg
    have Hpre := Lib.hid hpre
    have HJs := Lib.hid hJs
    have Hb := Lib.hid hb
    have hcB := HB.out wo hb
    have hsz := hb.1.size
    cases gk with
    | zero =>
      have hkz : ¬ ((k : Int) < (E.length : Int)) := by omega
      clear hkg hpre hJs hb
      gi_wp2
      go_end0
      refine ⟨⟨_, rfl⟩, .inl ⟨pre, ?_, HJs.out⟩⟩
      rw [Hpre.out, List.take_of_length_le (by have := Hkg.out; omega)]
    | succ g0 =>
      have hk1 : (k : Int) < (E.length : Int) := by omega
      have hk0 : (0 : Int) ≤ (k : Int) := Int.natCast_nonneg _
      have hkl : k < E.length := by omega
      obtain ⟨bb, off, rfl, hrow⟩ := HR.out wo hb.1 k hkl
      obtain ⟨c0, c1, c2, c3, c4, c5, c6⟩ := ev_cells hrow
      have HO := Lib.hid (HOT.out k hkl)
      have hmem := List.getElem_mem hkl
      clear hrow hkg hpre hJs hb
      generalize E[k] = e at *
      obtain ⟨tm, kd, ac, sb, nu, nm, vl⟩ := e
      dsimp only at c0 c1 c2 c3 c4 c5 c6 HO
      by_cases hk1e : kd = 1
      · subst hk1e
        have HO2 := Lib.hid (HO.out.trans (if_pos rfl))
        have hmem2 : (⟨tm, 1, ac, sb, nu, nm, vl⟩ : Ev) ∈ E := hmem
        obtain ⟨r0, r1, hbX, hzX⟩ := two_rows wo (Obj.cells #[.int .i64 tm, .int .i64 1, .int .i64 ac, .int .i64 sb, .string nu, .string nm, .int .i64 vl] 55) (Obj.cells #[.int .i64 ac, .int .i64 vl, .int .i64 tm, .int .i64 12622780800] 49)
        obtain ⟨X, hX⟩ : ∃ X, X = (wo.alloc (Obj.cells #[.int .i64 tm, .int .i64 1, .int .i64 ac, .int .i64 sb, .string nu, .string nm, .int .i64 vl] 55)).alloc (Obj.cells #[.int .i64 ac, .int .i64 vl, .int .i64 tm, .int .i64 12622780800] 49) := ⟨_, rfl⟩
        rw [← hX] at r0 r1 hbX hzX
        have HX := Lib.hid hX
        have HbX := Lib.hid hbX
        have Hr0 := Lib.hid r0
        have Hr1 := Lib.hid r1
        have hBo : Bs < wo.heap.size := by omega
        have hBn : ¬ Bs = wo.heap.size := by omega
        have hBn1 : ¬ Bs = wo.heap.size + 1 := by omega
        clear hX hbX r0 r1 HO hmem
        gi_wp2
        rw [← HX.out]
        gi_loopg [26] E.length (fun g i wx => ∃ j : Nat, j + g = E.length ∧ i = .int .i64 j ∧ wx.heap[wo.heap.size + 1]? = some (Obj.cells #[.int .i64 ac, .int .i64 vl, .int .i64 tm, .int .i64 (closeR (E.take j) ac)] 49) ∧ Below (wo.heap.size + 1) X wx)
        case atStart => exact ⟨0, by omega, rfl, Hr1.out, Below.refl _ _⟩
        case round =>
          obtain ⟨wi, rfl⟩ : ∃ wi : World, wi = wr := ⟨_, rfl⟩
          obtain ⟨j, hjg, rfl, hrow, hbi⟩ := hrel
          have Hjg := Lib.hid hjg
          have Hrow := Lib.hid hrow
          have Hbi := Lib.hid hbi
          have Hwi := Lib.hid (show Below wo.heap.size wo wi from HbX.out.trans (hbi.mono (by omega)))
          have hsi := hbi.size
          have re := (hbi.block wo.heap.size (by omega)).trans Hr0.out
          have x2 := cell_of_row wi _ 2 _ _ _ re
          have q0 := cell_of_row wi _ 0 _ _ _ hrow
          have q1 := cell_of_row wi _ 1 _ _ _ hrow
          have q2 := cell_of_row wi _ 2 _ _ _ hrow
          have q3 := cell_of_row wi _ 3 _ _ _ hrow
          have qf := frozen_of_row wi _ 3 _ _ hrow
          clear c0 c1 c2 c3 c4 c5 c6 re
          cases gk with
          | zero =>
            have hjz : ¬ ((j : Int) < (E.length : Int)) := by omega
            have HF := Lib.hid (show closeR (E.take j) ac = closeR E ac by rw [List.take_of_length_le (by omega)])
            rw [HF.out] at q3
            have hpl : pre.length < E.length := by
              have h1 := congrArg List.length Hpre.out
              rw [valsE_len] at h1
              have := HOL.out k
              omega
            obtain ⟨fn, tmps, assign, body, hy, hRR⟩ := HY.out pre ⟨⟨tm, 1, ac, sb, nu, nm, vl⟩, hmem2, rfl⟩ wi (HJ.out _ _ _ none HJs.out (grown_none Hwi.out) (fun r e => by cases e)) hpl
            dsimp only [lifeVal] at hy hRR
            generalize closeR E ac = ct at *
            clear hjg hrow hbi
            gi_wp2
            refine hRR.mono ?_
            rintro e W3 (⟨rfl, hJ3, hk3⟩ | ⟨rfl, hJx3⟩)
            · have HJ3 := Lib.hid hJ3
              have Hk3 := Lib.hid hk3
              clear hJ3 hk3
              gi_wp2
              go_roundg g0
              case measure => omega
              case rel => exact ⟨k + 1, by have := Hkg.out; omega, by go_num, ⟨_, by rw [HO2.out, valsE_snoc, Hpre.out], HJ3.out⟩, (Hb.out.trans (KpL.of_below (by omega) (by omega) Hwi.out)).trans Hk3.out⟩
            · gi_wp2
              refine bodyPost_ret (results_none rfl _ _ _) rfl ?_
              exact ⟨⟨_, rfl⟩, .inr ⟨_, ⟨k + 1, by omega, by rw [HO2.out, valsE_snoc, Hpre.out]⟩, hJx3⟩⟩
          | succ g1 =>
            have hj1 : (j : Int) < (E.length : Int) := by omega
            have hj0 : (0 : Int) ≤ (j : Int) := Int.natCast_nonneg _
            have hjl : j < E.length := by omega
            obtain ⟨bb', off', e', hrow2⟩ := HR.out wi (Hb.out.1.trans (Hwi.out.mono (by omega))) j hjl
            cases e'
            obtain ⟨d0, d1, d2, d3, d4, d5, d6⟩ := ev_cells hrow2
            have HC := Lib.hid (HCT.out ac j hjl)
            clear hrow2 hjg hrow hbi
            generalize closeR (E.take j) ac = ct at *
            generalize E[j] = f at *
            obtain ⟨tm2, kd2, ac2, sb2, nu2, nm2, vl2⟩ := f
            dsimp only at d0 d1 d2 d3 d4 d5 d6 HC
            have hn1 : ¬ wo.heap.size = wi.heap.size := by omega
            have hn2 : ¬ wo.heap.size + 1 = wi.heap.size := by omega
            have hn3 : wo.heap.size < wi.heap.size := by omega
            have hn4 : wo.heap.size + 1 < wi.heap.size := by omega
            by_cases hk2 : kd2 = 2
            · subst hk2
              by_cases ha : ac2 = ac
              · subst ha
                have HE := Lib.hid (HC.out.trans (if_pos (isClose_iff.2 ⟨rfl, rfl⟩)))
                clear HC
                gi_wp2
                go_roundg g1
                case measure => omega
                case rel =>
                  refine ⟨j + 1, by have := Hjg.out; omega, by go_num, ?_, (Hbi.out.setCell (p := ⟨wo.heap.size + 1, 3, none⟩) (Nat.le_refl _) _).alloc (by simp; omega) _⟩
                  rw [HE.out]
                  exact (Below.heap_alloc _ _ _ (by simp; omega)).trans (row_set3 Hrow.out _)
              · have hne : (ac2 == ac) = false := beq_eq_false_iff_ne.2 ha
                have HE := Lib.hid (HC.out.trans (if_neg (fun h => ha (isClose_iff.1 h).2)))
                clear HC
                gi_wp2
                go_roundg g1
                case measure => omega
                case rel =>
                  refine ⟨j + 1, by have := Hjg.out; omega, by go_num, ?_, Hbi.out.alloc (by omega) _⟩
                  rw [HE.out]
                  exact (Below.heap_alloc wi _ _ (by omega)).trans Hrow.out
            · have hne : (kd2 == 2) = false := beq_eq_false_iff_ne.2 hk2
              have HE := Lib.hid (HC.out.trans (if_neg (fun h => hk2 (isClose_iff.1 h).1)))
              clear HC
              gi_wp2
              go_roundg g1
              case measure => omega
              case rel =>
                refine ⟨j + 1, by have := Hjg.out; omega, by go_num, ?_, Hbi.out.alloc (by omega) _⟩
                rw [HE.out]
                exact (Below.heap_alloc wi _ _ (by omega)).trans Hrow.out
      · have hne : (kd == 1) = false := beq_eq_false_iff_ne.2 hk1e
        have hne2 : (kd != 1) = true := by rw [bne, hne]; rfl
        have HO2 := Lib.hid (HO.out.trans (if_neg hk1e))
        obtain ⟨X, hX⟩ : ∃ X, X = wo.alloc (Obj.cells #[.int .i64 tm, .int .i64 kd, .int .i64 ac, .int .i64 sb, .string nu, .string nm, .int .i64 vl] 55) := ⟨_, rfl⟩
        have HX := Lib.hid hX
        have hbX : Below wo.heap.size wo X := by rw [hX]; go_grown
        have HbX := Lib.hid hbX
        clear hX hbX HO
        gi_wp2
        rw [← HX.out]
        go_roundg g0
        case measure => omega
        case rel => exact ⟨k + 1, by have := Hkg.out; omega, by go_num, ⟨pre, by rw [HO2.out]; exact Hpre.out, HJ.out _ _ _ none HJs.out (grown_none HbX.out) (fun r e => by cases e)⟩, Hb.out.trans (KpL.of_below (by omega) (by omega) HbX.out)⟩
theorem lives_stops (F : Fence) (n : Nat) (hF : F.fn 44) (hro : F.round = none) (hn : 1 ≤ n) (Bs n₀ : Nat) (v : Value) (E : List Ev) (w w0 : World) (hw0 : w0.heap.size = n₀) (hBs : Bs < w.heap.size) (hn₀ : n₀ ≤ w.heap.size)
    (hc : w.cell? ⟨Bs, 0, none⟩ = some v) (hp : EvsAt w0 v E) (hbw : Below n₀ w0 w) :
    SeqStopsK F n Try.prog 44 #[.pointer (some ⟨Bs, 0, none⟩)] (fun x : OpE E => #[lifeVal E x.1]) (KpL n₀ Bs) (fun ys => valsE ys = opens E) (fun pre => ∃ k, k ≤ E.length ∧ valsE pre = opens (E.take k)) E.length w := fun l J Jx W hW hJ _ hY h0 =>
  lives1_in F n hF hro hn l Bs n₀ v E J Jx W hJ (Nat.le_trans hn₀ hW.size) (Nat.lt_of_lt_of_le hBs hW.size) hY ((hW.cell (p := ⟨Bs, 0, none⟩) hBs).trans hc) ⟨w0, hw0, hp, hbw.trans (hW.mono hn₀)⟩ h0

theorem lives_in (F : Fence) (n : Nat) (hF : F.fn 30) (hro : F.round = none) (a : Option Addr) (len cap : Nat) (w : World) :
    CallsIn F n Try.prog 30 #[.slice a len cap] w fun e w' => e = .returned (.func (.func 44) #[] #[.pointer (some ⟨w.heap.size, 0, none⟩)]) ∧ w' = w.alloc (.cells #[.slice a len cap] 22) := by
  have hmf : ∀ (fn : Fn) (first cap : Array Value) (w : World), (Instr.makeFunc fn first cap).run Try.prog w = .ok (.func fn first cap) w := fun _ _ _ _ => rfl
  refine callsIn_of_wp Try.func30 rfl hF ?_ hro
  simp only [Try.ntmps30, List.size_toArray, List.length_cons, List.length_nil, Nat.reduceAdd, Nat.reduceSub, Array.replicate_succ, Array.replicate_zero, List.push_toArray, List.append_toArray, List.nil_append, List.cons_append]
  gi_wp2
  go_ret
  exact ⟨rfl, rfl⟩
end Go.Proofs.Ytmilpaibkemmdaa

namespace Go.Proofs.Ytmilpaibkemmdaa
open Go.RowKit Go.Shelf

attribute [local go_sem] Oper.semAt_some

theorem opens_split (l : List Ev) (k : Nat) : opens l = opens (l.take k) ++ opens (l.drop k) := by
  unfold opens
  rw [← List.filter_append, List.take_append_drop]
/-- A row speaks of cells alone. -/
theorem row_own {β : Type} (B : Nat) (o : β → Obj) (hc : ∀ s, (o s).isCells = true) : Own (fun s W => W.heap[B]? = some (o s)) := fun s X Y row hs hg hrow =>
  (hg.block B (Array.getElem?_eq_some_iff.1 hs).1 (fun e' => by
    obtain ⟨o', ho, hc'⟩ := hrow B e'.symm
    rw [hs] at ho
    cases ho
    rw [hc s] at hc'
    cases hc')).trans hs
theorem row_setk {w : World} {b : Nat} {cs : Array Value} {t : TypeId} (h : w.heap[b]? = some (Obj.cells cs t)) (k : Nat) (v : Value) : (w.setCell ⟨b, k, none⟩ v).heap[b]? = some (Obj.cells (cs.setIfInBounds k v) t) := by
  obtain ⟨hlt, hk⟩ := Array.getElem?_eq_some_iff.1 h
  show (w.heap.modify b _)[b]? = _
  rw [Array.getElem?_eq_getElem (by rw [Array.size_modify]; exact hlt), Array.getElem_modify_self, hk]
  rfl
theorem row_seto {w : World} {b b' k : Nat} {o : Obj} (h : w.heap[b]? = some o) (v : Value) (hne : b ≠ b') : (w.setCell ⟨b', k, none⟩ v).heap[b]? = some o := (Below.heap_setCell _ _ _ b hne).trans h
/-- What find answers. -/
def findV (l : List Ev) (n : Int) : Value := match openE l n with
  | some o => .tuple #[lifeVal l o, .bool true]
  | none => .tuple #[.agg #[.int .i64 0, .int .i64 0, .int .i64 0, .int .i64 0], .bool false]
theorem kpL_putObj {n₀ Bs s : Nat} (hn : n₀ ≤ s) (hB : Bs < s) : ∀ (W : World) (l : Nat) (o o' : Obj), s ≤ l → W.heap[l]? = some o → o.isCells = false → o.isWalk = false → KpL n₀ Bs W (W.putObj l o') := fun W l o o' hl ho hc _ => by
  have hlt := (Array.getElem?_eq_some_iff.1 ho).1
  refine ⟨(Below.refl n₀ W).grown (grownBy_putObj' W l o') (by omega) (fun k e => by cases e; omega), ?_⟩
  exact World.putObj_heap_other (by omega)

/-- A life and a truth stored into two old rows. -/
theorem life_stored {W : World} {b : Nat} {t t' : TypeId} {y0 y1 y2 y3 u : Value} (h2 : W.heap[b]? = some (Obj.cells #[y0, y1, y2, y3] t)) (h3 : W.heap[b + 1]? = some (Obj.cells #[u] t')) (v0 v1 v2 v3 v4 : Value) {W' : World}
    (e : W' = ((((W.setCell ⟨b, 0, none⟩ v0).setCell ⟨b, 1, none⟩ v1).setCell ⟨b, 2, none⟩ v2).setCell ⟨b, 3, none⟩ v3).setCell ⟨b + 1, 0, none⟩ v4) :
    W'.heap[b]? = some (Obj.cells #[v0, v1, v2, v3] t) ∧ W'.heap[b + 1]? = some (Obj.cells #[v4] t') ∧ KeepsOthers W W' ∧ ∀ (n₀ : Nat) (w : World), n₀ ≤ b → Below n₀ w W → Below n₀ w W' := by
  subst e
  refine ⟨row_seto (row_setk (row_setk (row_setk (row_setk h2 0 v0) 1 v1) 2 v2) 3 v3) v4 (by omega), row_setk (row_seto (row_seto (row_seto (row_seto h3 v0 (by omega)) v1 (by omega)) v2 (by omega)) v3 (by omega)) 0 v4, ?_, fun n₀ w hn hb => ?_⟩
  · exact ((((KeepsOthers.setCell _ _ _).trans (KeepsOthers.setCell _ _ _)).trans (KeepsOthers.setCell _ _ _)).trans (KeepsOthers.setCell _ _ _)).trans (KeepsOthers.setCell _ _ _)
  · exact ((((hb.setCell (p := ⟨b, 0, none⟩) hn v0).setCell (p := ⟨b, 1, none⟩) hn v1).setCell (p := ⟨b, 2, none⟩) hn v2).setCell (p := ⟨b, 3, none⟩) hn v3).setCell (p := ⟨b + 1, 0, none⟩) (by show n₀ ≤ b + 1; omega) v4

set_option maxRecDepth 100000 in
set_option maxHeartbeats 8000000 in
theorem find_in (F : Fence) (n : Nat) (h1f : F.fn 23) (h2f : F.fn 30) (h3f : F.fn 44) (hro : F.round = none) (hn : 3 ≤ n) (v : Value) (l : List Ev) (q : Int) (w : World) (h : EvsAt w v l) :
    CallsIn F n Try.prog 23 #[v, .int .i64 q] w fun e w' => e = .returned (findV l q) ∧ Below w.heap.size w w' := by
  have hh := h
  obtain ⟨av, cap, rfl, hcl, hcm⟩ := rec_shape h.1
  have hn1 : 1 ≤ n := by omega
  obtain ⟨W0, hW0⟩ : ∃ W0, W0 = (((w.alloc (.cells #[.int .i64 q] 3)).alloc (.cells #[.int .i64 0, .int .i64 0, .int .i64 0, .int .i64 0] 49)).alloc (.cells #[.bool false] 4)).alloc (.cells #[.slice av l.length cap] 22) := ⟨_, rfl⟩
  have hsz : W0.heap.size = w.heap.size + 4 := by rw [hW0]; simp
  have hB0 : Below w.heap.size w W0 := by rw [hW0]; exact ((((Below.refl _ w).alloc (Nat.le_refl _) _).alloc (by simp) _).alloc (by simp <;> omega) _).alloc (by simp <;> omega) _
  have a0 : W0.heap[w.heap.size]? = some (.cells #[.int .i64 q] 3) := by
    rw [hW0]
    exact (Below.heap_alloc _ _ _ (by simp <;> omega)).trans ((Below.heap_alloc _ _ _ (by simp <;> omega)).trans ((Below.heap_alloc _ _ _ (by simp)).trans (heap_alloc_new _ _)))
  have a1 : W0.heap[w.heap.size + 1]? = some (.cells #[.int .i64 0, .int .i64 0, .int .i64 0, .int .i64 0] 49) := by
    rw [hW0]
    refine (Below.heap_alloc _ _ _ (by simp <;> omega)).trans ((Below.heap_alloc _ _ _ (by simp)).trans ?_)
    have := heap_alloc_new (w.alloc (.cells #[.int .i64 q] 3)) (.cells #[.int .i64 0, .int .i64 0, .int .i64 0, .int .i64 0] 49)
    rwa [World.size_alloc] at this
  have a2 : W0.heap[w.heap.size + 1 + 1]? = some (.cells #[.bool false] 4) := by
    rw [hW0]
    refine (Below.heap_alloc _ _ _ (by simp)).trans ?_
    have := heap_alloc_new ((w.alloc (.cells #[.int .i64 q] 3)).alloc (.cells #[.int .i64 0, .int .i64 0, .int .i64 0, .int .i64 0] 49)) (.cells #[.bool false] 4)
    rwa [World.size_alloc, World.size_alloc] at this
  have a3 : W0.heap[w.heap.size + 1 + 1 + 1]? = some (.cells #[.slice av l.length cap] 22) := by
    rw [hW0]
    have := heap_alloc_new (((w.alloc (.cells #[.int .i64 q] 3)).alloc (.cells #[.int .i64 0, .int .i64 0, .int .i64 0, .int .i64 0] 49)).alloc (.cells #[.bool false] 4)) (.cells #[.slice av l.length cap] 22)
    rwa [World.size_alloc, World.size_alloc, World.size_alloc] at this
  have HW := Lib.hid hW0
  have A0 := Lib.hid a0
  have A1 := Lib.hid a1
  have A2 := Lib.hid a2
  have A3 := Lib.hid a3
  have HB0 := Lib.hid hB0
  have HH := Lib.hid hh
  have Hsz := Lib.hid hsz
  clear hW0 a0 a1 a2 a3 hB0 hsz h hh hcl hcm
  refine callsIn_of_wp_marks Try.func23 rfl h1f ?_ hro
  simp only [Try.ntmps23, List.size_toArray, List.length_cons, List.length_nil, Nat.reduceAdd, Nat.reduceSub, Array.replicate_succ, Array.replicate_zero, List.push_toArray, List.append_toArray, List.nil_append, List.cons_append]
  gi_wp2_with (gi_at_call 30; refine (lives_in F (n - 1) h2f hro _ _ _ _).mono ?_; rintro e w' ⟨rfl, rfl⟩)
  rw [show ((((w.alloc (.cells #[.int .i64 q] 3)).alloc (.cells #[.int .i64 0, .int .i64 0, .int .i64 0, .int .i64 0] 49)).alloc (.cells #[.bool false] 4)).alloc (.cells #[.slice av l.length cap] 22)) = W0 from HW.out.symm]
  refine wpIn_rangeFunc_ownH hro hn1 (gf := 44) (lb := #[.pointer (some ⟨w.heap.size + 1 + 1 + 1, 0, none⟩)]) rfl h3f (enters_of Try.func44 (by kernel_rfl) rfl)
    (lives_stops F (n - 1) h3f hro (by omega) (w.heap.size + 1 + 1 + 1) w.heap.size (.slice av l.length cap) l W0 w rfl (by have := Hsz.out; omega) (by have := Hsz.out; omega) (cell_of_row W0 _ 0 _ _ _ A3.out) HH.out HB0.out) (fun h g => h.trans g) (kpL_putObj (by have := Hsz.out; omega) (by have := Hsz.out; omega)) (Below.refl _ _) (fun _ => rfl)
    (fun pre W => ((∀ e ∈ valsE pre, e.ac ≠ q) ∧ W.heap[w.heap.size]? = some (.cells #[.int .i64 q] 3) ∧ W.heap[w.heap.size + 1]? = some (.cells #[.int .i64 0, .int .i64 0, .int .i64 0, .int .i64 0] 49) ∧ W.heap[w.heap.size + 1 + 1]? = some (.cells #[.bool false] 4) ∧ W.heap[w.heap.size + 1 + 1 + 1]? = some (.cells #[.slice av l.length cap] 22)) ∧ Below w.heap.size w W)
    (fun c pre W => (∃ pre' : List (OpE l), ∃ x : OpE l, (c = .ret ∧ pre = pre' ++ [x] ∧ x.1.ac = q ∧ ∀ e ∈ valsE pre', e.ac ≠ q) ∧ W.heap[w.heap.size + 1]? = some (.cells #[.int .i64 x.1.ac, .int .i64 x.1.vl, .int .i64 x.1.tm, .int .i64 (closeR l x.1.ac)] 49) ∧ W.heap[w.heap.size + 1 + 1]? = some (.cells #[.bool true] 4)) ∧ Below w.heap.size w W)
    (OwnFrom.and (OwnFrom.and (ownFrom_pure _ _) (OwnFrom.and (Own.from (row_own _ _ (fun _ => rfl)) _) (OwnFrom.and (Own.from (row_own _ _ (fun _ => rfl)) _) (OwnFrom.and (Own.from (row_own _ _ (fun _ => rfl)) _) (Own.from (row_own _ _ (fun _ => rfl)) _))))) (ownFrom_below (Nat.le_refl _) (by have := Hsz.out; omega)))
    (fun c => OwnFrom.and (fun s X Y row hs hg hr => by
      obtain ⟨p', x, h0, h1, h2⟩ := hs
      exact ⟨p', x, h0, row_own _ (fun _ => _) (fun _ => rfl) () X Y row h1 hg (fun r e => (hr r e).2), row_own _ (fun _ => _) (fun _ => rfl) () X Y row h2 hg (fun r e => (hr r e).2)⟩) (ownFrom_below (Nat.le_refl _) (by have := Hsz.out; omega)))
    ⟨⟨by simp [valsE], A0.out, A1.out, A2.out, A3.out⟩, HB0.out⟩
    (fun x a' W => ∃ Bx, w.heap.size + 1 + 1 < Bx ∧ W.heap[Bx]? = some (.cells #[.int .i64 x.1.ac, .int .i64 x.1.vl, .int .i64 x.1.tm, .int .i64 (closeR l x.1.ac)] 49) ∧ a' = { tmps := #[.slice av l.length cap, .int .i64 q, undef, .pointer (some ⟨w.heap.size, 0, none⟩), .pointer (some ⟨w.heap.size + 1, 0, none⟩), .pointer (some ⟨w.heap.size + 1 + 1, 0, none⟩), .pointer (some ⟨Bx, 0, none⟩), .slice av l.length cap, .func (.func 44) #[] #[.pointer (some ⟨w.heap.size + 1 + 1 + 1, 0, none⟩)], .agg #[.int .i64 x.1.ac, .int .i64 x.1.vl, .int .i64 x.1.tm, .int .i64 (closeR l x.1.ac)], undef, undef, undef, undef, undef, undef], defers := [] })
    (fun x a' _ X Y row hs hg hr => by
      obtain ⟨Bx, h1, h2, h3⟩ := hs
      exact ⟨Bx, h1, row_own Bx (fun _ => _) (fun _ => rfl) () X Y row h2 hg (fun r e => (hr r e).2), h3⟩)
    ?assign ?body ?done ?stop
  case assign =>
    rintro l' pre x W K ⟨⟨i0, i1, i2, i3, i4⟩, hB1⟩ hK
    have hs1 := (Array.getElem?_eq_some_iff.1 i4).1
    have I := Lib.hid i0
    have I1 := Lib.hid i1
    have I2 := Lib.hid i2
    have I3 := Lib.hid i3
    have I4 := Lib.hid i4
    have HB1 := Lib.hid hB1
    have HK := Lib.hid hK
    clear i0 i1 i2 i3 i4 hB1 hK
    simp only [lifeVal]
    gi_wp2
    refine HK.out _ _ ((KeepsOthers.alloc _ _).from _) (KpL.of_below (by omega) (by omega) ((Below.refl _ _).alloc (Nat.le_refl _) _)) ⟨⟨I.out, ?_, ?_, ?_, ?_⟩, HB1.out.alloc HB1.out.size _⟩ ⟨W.heap.size, by omega, heap_alloc_new _ _, rfl⟩
    · exact (Below.heap_alloc _ _ _ (by omega)).trans I1.out
    · exact (Below.heap_alloc _ _ _ (by omega)).trans I2.out
    · exact (Below.heap_alloc _ _ _ (by omega)).trans I3.out
    · exact (Below.heap_alloc _ _ _ (by omega)).trans I4.out
  case body =>
    rintro l' pre x a' W hl ⟨r, hr⟩ ⟨⟨i0, i1, i2, i3, i4⟩, hB1⟩ ⟨Bx, hBx, bX, rfl⟩ hlt
    have x0 := cell_of_row W _ 0 _ _ _ bX
    have x1 := cell_of_row W _ 1 _ _ _ bX
    have x2 := cell_of_row W _ 2 _ _ _ bX
    have x3 := cell_of_row W _ 3 _ _ _ bX
    have p0 := cell_of_row W _ 0 _ _ _ i1
    have z0 := cell_of_row W _ 0 _ _ _ i2
    have z1 := cell_of_row W _ 1 _ _ _ i2
    have z2 := cell_of_row W _ 2 _ _ _ i2
    have z3 := cell_of_row W _ 3 _ _ _ i2
    have f0 := frozen_of_row W _ 0 _ _ i2
    have f1 := frozen_of_row W _ 1 _ _ i2
    have f2 := frozen_of_row W _ 2 _ _ i2
    have f3 := frozen_of_row W _ 3 _ _ i2
    have y0 := cell_of_row W _ 0 _ _ _ i3
    have g0 := frozen_of_row W _ 0 _ _ i3
    have I := Lib.hid i0
    have I1 := Lib.hid i1
    have I2 := Lib.hid i2
    have I3 := Lib.hid i3
    have I4 := Lib.hid i4
    have HB1 := Lib.hid hB1
    clear i0 i1 i2 i3 i4 hB1 bX hr hl hlt
    by_cases hq : x.1.ac = q
    · have hqe : (x.1.ac == q) = true := beq_iff_eq.2 hq
      have Hq := Lib.hid hq
      clear hq
      gi_wp2
      obtain ⟨s1, s2, s3, s4⟩ := life_stored (b := w.heap.size + 1) I2.out I3.out (.int .i64 x.1.ac) (.int .i64 x.1.vl) (.int .i64 x.1.tm) (.int .i64 (closeR l x.1.ac)) (.bool true) rfl
      exact ⟨s3.from _, ⟨pre, x, ⟨rfl, rfl, Hq.out, I.out⟩, s1, s2⟩, s4 _ _ (by omega) HB1.out⟩
    · have hqe : (x.1.ac == q) = false := beq_eq_false_iff_ne.2 hq
      have Hq := Lib.hid hq
      clear hq
      gi_wp2
      refine ⟨KeepsFrom.refl _ _, KpL.refl _ _ _, ⟨fun e he => ?_, I1.out, I2.out, I3.out, I4.out⟩, HB1.out⟩
      rw [valsE_snoc, List.mem_append, List.mem_singleton] at he
      rcases he with he | rfl
      · exact I.out e he
      · exact Hq.out
  case done =>
    rintro D ys W hD hys ⟨⟨i0, i1, i2, i3, i4⟩, hB1⟩ hK
    have z0 := cell_of_row W _ 0 _ _ _ i2
    have z1 := cell_of_row W _ 1 _ _ _ i2
    have z2 := cell_of_row W _ 2 _ _ _ i2
    have z3 := cell_of_row W _ 3 _ _ _ i2
    have f0 := frozen_of_row W _ 0 _ _ i2
    have f1 := frozen_of_row W _ 1 _ _ i2
    have f2 := frozen_of_row W _ 2 _ _ i2
    have f3 := frozen_of_row W _ 3 _ _ i2
    have y0 := cell_of_row W _ 0 _ _ _ i3
    have g0 := frozen_of_row W _ 0 _ _ i3
    have I := Lib.hid i0
    have I2 := Lib.hid i2
    have I3 := Lib.hid i3
    have HB1 := Lib.hid hB1
    have HK := Lib.hid hK
    have HY := Lib.hid hys
    clear i0 i1 i2 i3 i4 hB1 hK hys
    gi_wp2
    obtain ⟨s1, s2, s3, s4⟩ := life_stored (b := w.heap.size + 1) I2.out I3.out (.int .i64 0) (.int .i64 0) (.int .i64 0) (.int .i64 0) (.bool false) rfl
    have hDs : w.heap.size + 1 + 1 + 1 + 1 ≤ D := by have := Hsz.out; omega
    have hK2 := s3.same D _ HK.out rfl
    refine ⟨by simp, .inl ⟨_, _, rfl, run_takeDeferred hK2, ?_⟩⟩
    have t1 := fun o => (World.putObj_heap_other (o := o) (show w.heap.size + 1 ≠ D by omega)).trans s1
    have t2 := fun o => (World.putObj_heap_other (o := o) (show w.heap.size + 1 + 1 ≠ D by omega)).trans s2
    have HF := Lib.hid (show findV l q = .tuple #[.agg #[.int .i64 0, .int .i64 0, .int .i64 0, .int .i64 0], .bool false] by
      unfold findV
      rw [opens_find q (valsE ys) l I.out HY.out.symm])
    refine ⟨_, ?_, congrArg Ending.returned HF.out.symm, (s4 _ _ (by omega) HB1.out).trans (belowK_b (w := w) (Nat.le_refl _) _ D _ _ (by omega) hK2 rfl rfl)⟩
    have r0 := cell_of_row _ _ 0 _ _ _ (t1 (.deferred none))
    have r1 := cell_of_row _ _ 1 _ _ _ (t1 (.deferred none))
    have r2 := cell_of_row _ _ 2 _ _ _ (t1 (.deferred none))
    have r3 := cell_of_row _ _ 3 _ _ _ (t1 (.deferred none))
    have r4 := cell_of_row _ _ 0 _ _ _ (t2 (.deferred none))
    simp [results, Try.f23, go_sem, r0, r1, r2, r3, r4]
  case stop =>
    rintro D c pre W hD ⟨k, hk, hpre⟩ ⟨⟨p', x, ⟨rfl, rfl, hxq, hne⟩, r1, r2⟩, hB1⟩ hK
    have HF := Lib.hid (show findV l q = .tuple #[lifeVal l x.1, .bool true] by
      rw [valsE_snoc] at hpre
      unfold findV
      rw [opens_find_some q (valsE p') (opens (l.drop k)) x.1 l hne hxq (by rw [opens_split l k, ← hpre, List.append_assoc]; rfl)])
    have HK := Lib.hid hK
    have R1 := Lib.hid r1
    have R2 := Lib.hid r2
    have HB1 := Lib.hid hB1
    clear hpre hne hxq r1 r2 hB1 hK
    gi_wp2
    have hDs : w.heap.size + 1 + 1 + 1 + 1 ≤ D := by have := Hsz.out; omega
    refine ⟨by simp, .inl ⟨_, _, rfl, run_takeDeferred HK.out, ?_⟩⟩
    have t1 := fun o => (World.putObj_heap_other (o := o) (show w.heap.size + 1 ≠ D by omega)).trans R1.out
    have t2 := fun o => (World.putObj_heap_other (o := o) (show w.heap.size + 1 + 1 ≠ D by omega)).trans R2.out
    refine ⟨_, ?_, congrArg Ending.returned HF.out.symm, HB1.out.trans (belowK_b (w := w) (Nat.le_refl _) _ D _ _ (by omega) HK.out rfl rfl)⟩
    have r0 := cell_of_row _ _ 0 _ _ _ (t1 (.deferred none))
    have r1 := cell_of_row _ _ 1 _ _ _ (t1 (.deferred none))
    have r2 := cell_of_row _ _ 2 _ _ _ (t1 (.deferred none))
    have r3 := cell_of_row _ _ 3 _ _ _ (t1 (.deferred none))
    have r4 := cell_of_row _ _ 0 _ _ _ (t2 (.deferred none))
    simp [results, lifeVal, Try.f23, go_sem, r0, r1, r2, r3, r4]

theorem find_calls (v : Value) (l : List Ev) (q : Int) (w : World) (h : EvsAt w v l) :
    Calls Try.prog 23 #[v, .int .i64 q] w fun e w' => e = .returned (findV l q) ∧ Below w.heap.size w w' :=
  callsIn_wide.1 (find_in Fence.wide 3 trivial trivial trivial rfl (Nat.le_refl _) v l q w h)
end Go.Proofs.Ytmilpaibkemmdaa
