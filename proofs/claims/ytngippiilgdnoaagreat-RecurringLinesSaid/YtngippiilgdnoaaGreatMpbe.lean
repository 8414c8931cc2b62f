/-
  The walk of recurring.count: a range over a function that yields the runs of days.
-/
import Derived.Test.YtngippiilgdnoaaGreatMpal
import Derived.RangeFuncBox
import Derived.RangeFuncFrom
import Derived.RangeFuncNested
import Derived.RangeFuncLeaves
import Derived.Shelf.Abstract
import Derived.WalkKit
import Derived.OwnWalkIn
import Derived.TacticsInMore
import Derived.LoopNIn
import Derived.LoopIn
import Derived.Sort.QuietIn
namespace Go.Proofs.YtngippiilgdnoaaGreat
open Go.RowKit Go.Shelf

attribute [local go_sem] Oper.semAt_some

set_option maxRecDepth 100000 in
set_option maxHeartbeats 4000000 in
theorem days1_in (F : Fence) (n : Nat) (hF : F.fn 159) (hro : F.round = none) (hn : 1 ≤ n) (l Bs n₀ : Nat) (v : Value) (C : List (Int × Int)) (J Jx : List (Int × Int) → World → Prop)
    (hlen : C.length ≤ 10000) (hI : InT C)
    (W : World) (hJ : AbidesFrom W.heap.size J) (hn₀ : n₀ ≤ W.heap.size)
    (hY : ∀ pre x W, J pre W → pre.length < C.length → YieldAt F (n - 1) Tryz.prog l #[.int .i64 x.1, .int .i64 x.2] W fun e W' =>
      (e = .returned (.bool true) ∧ J (pre ++ [x]) W' ∧ Below n₀ W W') ∨ (e = .returned (.bool false) ∧ Jx (pre ++ [x]) W'))
    (hBs : W.cell? ⟨Bs, 0, none⟩ = some v) (hc : ∃ w0 : World, w0.heap.size = n₀ ∧ PersAt w0 v C ∧ Below n₀ w0 W) (h0 : J [] W) :
    CallsIn F n Tryz.prog 159 #[.func (.yield l) #[] #[], .pointer (some ⟨Bs, 0, none⟩)] W fun e W' => (∃ v, e = .returned v) ∧
      ((∃ ys, ys = (runsF C).2 ∧ J ys W') ∨ (∃ pre : List (Int × Int), pre.length ≤ C.length ∧ Jx pre W')) := by
  obtain ⟨w0, hw0, hp, hbw⟩ := hc
  have hp' := hp
  obtain ⟨av, cap, rfl, -⟩ := hp
  refine callsIn_of_wp Tryz.func159 rfl hF ?_ hro
  simp only [Tryz.ntmps159, List.size_toArray, List.length_cons, List.length_nil, Nat.reduceAdd, Nat.reduceSub, Array.replicate_succ, Array.replicate_zero, List.push_toArray, List.append_toArray, List.nil_append, List.cons_append]
  gi_wp2
  gi_loopw [3, 10] (fun nx i wr => ∃ k : Nat, k ≤ C.length ∧ i = .int .i64 k ∧ nx = .int .i64 (runsF (C.take k)).1 ∧ J (runsF (C.take k)).2 wr ∧ Below n₀ W wr)
    (fun _ i _ => C.length - (intOf i).toNat)
  case atStart => exact ⟨0, Nat.zero_le _, rfl, rfl, h0, Below.refl _ _⟩
  case round =>
    obtain ⟨k, hk, rfl, rfl, hJs, hb⟩ := hrel
    by_cases hlt : k < C.length
    · have hpr := hp'.below (by rw [hw0]; exact hbw.trans hb)
      obtain ⟨av2, cap2, e2, -, -, hx⟩ := hpr
      cases e2
      obtain ⟨b, o, rfl, hB, hx⟩ := hx (by rintro rfl; cases hlt)
      obtain ⟨c0, c1⟩ := hx k hlt
      have hk0 : (0 : Int) ≤ (k : Int) := Int.natCast_nonneg _
      have hk1 : (k : Int) < (C.length : Int) := by omega
      have hq := hI C[k] (List.getElem_mem hlt)
      have HR := Lib.hid (runs_take C k hlt)
      have hbd := runsF_bd (C.take k) (fun q hq => hI q (List.mem_of_mem_take hq))
      clear hx
      generalize C[k] = p at *
      obtain ⟨f, t⟩ := p
      dsimp only at *
      obtain ⟨hr0, hr1, hr2, -⟩ := hbd
      rw [List.length_take, Nat.min_eq_left hk] at hr2
      generalize runsF (C.take k) = R at *
      obtain ⟨nx, L⟩ := R
      dsimp only at *
      have hd := day_bd hq
      obtain ⟨X, hX⟩ : ∃ X, X = wr.alloc (Obj.cells #[.int .i64 f, .int .i64 t] 25) := ⟨_, rfl⟩
      have HJX := Lib.hid (show J L X by rw [hX]; exact hJ _ _ _ none hJs (World.grownBy_alloc _ _ _) (fun r e => by cases e))
      have rX : X.heap[wr.heap.size]? = some (Obj.cells #[.int .i64 f, .int .i64 t] 25) := by rw [hX]; exact heap_alloc_new _ _
      have hbX : Below n₀ wr X := by rw [hX]; exact (Below.refl _ _).alloc (Nat.le_trans hn₀ hb.size) _
      have x0 : X.cell? ⟨wr.heap.size, 0, none⟩ = some (.int .i64 f) := cell_of_row X _ 0 _ _ _ rX
      have x1 : X.cell? ⟨wr.heap.size, 1, none⟩ = some (.int .i64 t) := cell_of_row X _ 1 _ _ _ rX
      have HX := Lib.hid hX
      obtain ⟨hq0, hq1, hq2⟩ := hq
      obtain ⟨hd0, hd1, hd2⟩ := hd
      have ht1 : 0 ≤ t - 1 := by omega
      have w1 : IntKind.i64.wrap (t - 1) = t - 1 := IntWalk.i64_in _ (by omega)
      have w2 : IntKind.i64.wrap ((t - 1) / 86400 + 1) = (t - 1) / 86400 + 1 := IntWalk.i64_in _ (by omega)
      clear hX rX
      obtain ⟨fr, hfr⟩ : ∃ fr, fr = max (f / 86400) nx := ⟨_, rfl⟩
      have HFR := Lib.hid hfr
      have hif : (if f / 86400 < nx then nx else f / 86400) = fr := by rw [hfr]; split <;> omega
      have hf0 : 0 ≤ fr := by omega
      clear hfr
      gi_wp2
      rw [← HX.out]
      refine wpIn_region_quiet_lit hro (by kernel_rfl) (by kernel_rfl) ?_
      repeat (gi_big_quiet_step (fail))
      refine wpQuietIn_nil ?_
      intro _ hw'
      obtain ⟨nq, hw''⟩ := hw'
      subst hw''
      obtain ⟨V, hV⟩ : ∃ V, V = X.drewN nq := ⟨_, rfl⟩
      have hbV : Below n₀ wr V := by rw [hV]; exact ⟨hbX.os, hbX.tape, hbX.output, hbX.size, hbX.block⟩
      have HJV : J L V := by rw [hV]; exact hJ _ _ _ none HJX.out ⟨rfl, rfl, rfl, Nat.le_refl _, fun _ _ _ => rfl⟩ (fun r e => by cases e)
      rw [← hV]
      clear hV x0 x1
      obtain ⟨te, hte⟩ : ∃ te, te = (t - 1) / 86400 + 1 := ⟨_, rfl⟩
      rw [← hte]
      have HR2 := Lib.hid (show runsF (C.take (k + 1)) = (te, if fr < te then L ++ [(fr, te)] else L) by rw [HR.out, hte, HFR.out]; rfl)
      clear hte w2 hif
      have hb3 := hb.trans hbV
      by_cases hlt2 : fr < te
      · have k1 : decide (fr < te) = true := decide_eq_true hlt2
        obtain ⟨fn, tmps, assign, body, hy, hRR⟩ := hY L (fr, te) V HJV (by omega)
        dsimp only at hy
        have HE := Lib.hid (show runsF (C.take (k + 1)) = (te, L ++ [(fr, te)]) by rw [HR2.out, if_pos hlt2])
        gi_wp2
        refine hRR.mono ?_
        rintro e W3 (⟨rfl, hJ3, hk3⟩ | ⟨rfl, hJx3⟩)
        · gi_wp2
          refine ⟨⟨k + 1, by omega, by go_num, by rw [HE.out], by rw [HE.out]; exact hJ3, hb3.trans hk3⟩, by simp [intOf]; omega⟩
        · gi_wp2
          refine bodyPost_ret (results_none rfl _ _ _) rfl ?_
          exact ⟨⟨_, rfl⟩, .inr ⟨L ++ [(fr, te)], by simp; omega, hJx3⟩⟩
      · have k1 : decide (fr < te) = false := decide_eq_false hlt2
        have HE := Lib.hid (show runsF (C.take (k + 1)) = (te, L) by rw [HR2.out, if_neg hlt2])
        gi_wp2
        refine ⟨fun _ h => (by cases h), ?_⟩
        gi_wp2
        exact ⟨⟨k + 1, by omega, by go_num, by rw [HE.out], by rw [HE.out]; exact HJV, hb3⟩, by simp [intOf]; omega⟩
    · gi_wp2
      go_end0
      rw [List.take_of_length_le (by omega)] at hJs
      exact ⟨⟨_, rfl⟩, .inl ⟨_, rfl, hJs⟩⟩

theorem days_stops (F : Fence) (n : Nat) (hF : F.fn 159) (hro : F.round = none) (hn : 1 ≤ n) (Bs n₀ : Nat) (v : Value) (C : List (Int × Int)) (w w0 : World) (hw0 : w0.heap.size = n₀) (hBs : Bs < w.heap.size) (hn₀ : n₀ ≤ w.heap.size)
    (hc : w.cell? ⟨Bs, 0, none⟩ = some v) (hp : PersAt w0 v C) (hbw : Below n₀ w0 w) (hlen : C.length ≤ 10000) (hI : InT C) :
    SeqStopsK F n Tryz.prog 159 #[.pointer (some ⟨Bs, 0, none⟩)] (fun x : Int × Int => #[Value.int .i64 x.1, Value.int .i64 x.2]) (Below n₀) (fun ys => ys = (runsF C).2) (fun pre => pre.length ≤ C.length) C.length w := fun l J Jx W hW hJ _ hY h0 =>
  days1_in F n hF hro hn l Bs n₀ v C J Jx hlen hI W hJ (Nat.le_trans hn₀ hW.size) hY ((hW.cell (p := ⟨Bs, 0, none⟩) hBs).trans hc) ⟨w0, hw0, hp, hbw.trans (hW.mono hn₀)⟩ h0

theorem days_in (F : Fence) (n : Nat) (hF : F.fn 124) (hro : F.round = none) (a : Option Addr) (len cap : Nat) (w : World) :
    CallsIn F n Tryz.prog 124 #[.slice a len cap] w fun e w' => e = .returned (.func (.func 159) #[] #[.pointer (some ⟨w.heap.size, 0, none⟩)]) ∧ w' = w.alloc (.cells #[.slice a len cap] 85) := by
  have hmf : ∀ (fn : Fn) (first cap : Array Value) (w : World), (Instr.makeFunc fn first cap).run Tryz.prog w = .ok (.func fn first cap) w := fun _ _ _ _ => rfl
  refine callsIn_of_wp Tryz.func124 rfl hF ?_ hro
  simp only [Tryz.ntmps124, List.size_toArray, List.length_cons, List.length_nil, Nat.reduceAdd, Nat.reduceSub, Array.replicate_succ, Array.replicate_zero, List.push_toArray, List.append_toArray, List.nil_append, List.cons_append]
  gi_wp2
  go_ret
  exact ⟨rfl, rfl⟩

/-- The sum of runs, as the machine adds it up. -/
def sumW (l : List (Int × Int)) : Int := l.foldl (fun n q => wrap64 (n + wrap64 (q.2 - q.1))) 0
theorem sumW_snoc (l : List (Int × Int)) (q : Int × Int) : sumW (l ++ [q]) = wrap64 (sumW l + wrap64 (q.2 - q.1)) := by unfold sumW; rw [List.foldl_append]; rfl
theorem sumW_eq (l : List (Int × Int)) (h : ∀ q ∈ l, 0 ≤ q.1 ∧ q.1 < q.2 ∧ q.2 ≤ 146097) (hl : l.length ≤ 10000) : sumW l = sumR l := by
  have key : ∀ k, k ≤ l.length → sumW (l.take k) = sumR (l.take k) ∧ 0 ≤ sumR (l.take k) ∧ sumR (l.take k) ≤ k * 146097 := by
    intro k
    induction k with
    | zero => intro _; rw [List.take_zero]; exact ⟨rfl, Int.le_refl _, by show (0 : Int) ≤ _; omega⟩
    | succ k ih =>
      intro hk
      obtain ⟨h1, h2, h3⟩ := ih (by omega)
      have hq := h l[k] (List.getElem_mem _)
      rw [List.take_succ_eq_append_getElem hk, sumW_snoc, sumR_snoc, h1]
      have e1 : wrap64 (l[k].2 - l[k].1) = l[k].2 - l[k].1 := by rw [← IntWalk.i64_left]; exact IntWalk.i64_in _ (by omega)
      have e2 : wrap64 (sumR (l.take k) + (l[k].2 - l[k].1)) = sumR (l.take k) + (l[k].2 - l[k].1) := by rw [← IntWalk.i64_left]; exact IntWalk.i64_in _ (by omega)
      rw [e1, e2]
      refine ⟨rfl, by omega, ?_⟩
      omega
  have h2 := (key l.length (Nat.le_refl _)).1
  rwa [List.take_length] at h2

set_option maxRecDepth 100000 in
set_option maxHeartbeats 4000000 in
theorem count_in (F : Fence) (n : Nat) (h1 : F.fn 75) (h2 : F.fn 124) (h3 : F.fn 159) (hro : F.round = none) (hn : 3 ≤ n) (v : Value) (C : List (Int × Int)) (w : World) (hp : PersAt w v C) (hlen : C.length ≤ 10000) (hI : InT C) :
    CallsIn F n Tryz.prog 75 #[v] w fun e w' => e = .returned (.int .i64 (sumW (runsF C).2)) ∧ Below w.heap.size w w' := by
  have hn1 : 1 ≤ n := by omega
  have hp' := hp
  obtain ⟨av, cap, rfl, -⟩ := hp
  refine callsIn_of_wp_marks Tryz.func75 rfl h1 ?_ hro
  simp only [Tryz.ntmps75, List.size_toArray, List.length_cons, List.length_nil, Nat.reduceAdd, Nat.reduceSub, Array.replicate_succ, Array.replicate_zero, List.push_toArray, List.append_toArray, List.nil_append, List.cons_append]
  gi_wp2_with (gi_at_call 124; refine (days_in F (n - 1) h2 hro _ _ _ _).mono ?_; rintro e w' ⟨rfl, rfl⟩)
  have bO := Boxed.new w 3 (.int .i64 0)
  have bN := Boxed.new (w.alloc (.cells #[.int .i64 0] 3)) 85 (.slice av C.length cap)
  rw [World.size_alloc] at bN
  have hB0 : Below w.heap.size w ((w.alloc (.cells #[.int .i64 0] 3)).alloc (.cells #[.slice av C.length cap] 85)) := ((Below.refl _ w).alloc (Nat.le_refl _) _).alloc (by simp) _
  refine wpIn_rangeFunc_ownG hro hn1 (gf := 159) (lb := #[.pointer (some ⟨w.heap.size + 1, 0, none⟩)]) rfl h3 (enters_of Tryz.func159 (by kernel_rfl) rfl)
    (days_stops F (n - 1) h3 hro (by omega) (w.heap.size + 1) w.heap.size (.slice av C.length cap) C _ w rfl (by simp) (by simp; omega) bN.cell hp' hB0 hlen hI) belowK_t (belowK_b (by simp; omega)) (Below.refl _ _) (fun _ => rfl)
    (fun pre W => (W.cell? ⟨w.heap.size, 0, none⟩ = some (.int .i64 (sumW pre)) ∧ W.frozen? ⟨w.heap.size, 0, none⟩ = false) ∧ Below w.heap.size w W)
    (fun _ _ _ => False)
    (OwnFrom.and (Own.from (fun s A B row hs hg hr => ⟨cell_kept hs.1 hg hr, (frozen_kept hs.1 hg hr).trans hs.2⟩) _) (ownFrom_below (Nat.le_refl _) (by simp; omega)))
    (fun _ _ _ _ _ hs _ _ => hs)
    ⟨⟨(bO.alloc _).cell, (bO.alloc _).frozen⟩, hB0⟩
    (fun x => { tmps := #[.slice av C.length cap, undef, .int .i64 0, .pointer (some ⟨w.heap.size, 0, none⟩), .int .i64 x.1, .int .i64 x.2, .slice av C.length cap, .func (.func 159) #[] #[.pointer (some ⟨w.heap.size + 1, 0, none⟩)], .int .i64 x.1, .int .i64 x.2, undef, undef, undef, undef, undef, undef], defers := [] }) ?assign ?body ?done ?stop
  case assign =>
    intro l x W K hK
    gi_wp2
    exact hK
  case body =>
    rintro l pre x W ⟨⟨hc, hf⟩, hB⟩ _
    gi_wp2
    exact ⟨(KeepsOthers.setCell _ _ _).from _, (Below.refl w.heap.size W).setCell (p := ⟨w.heap.size, 0, none⟩) (Nat.le_refl _) _, ⟨by rw [sumW_snoc]; exact World.cell?_setCell_same' _ _ _ (by rw [hc]; rfl), by rw [World.frozen?_setCell]; exact hf⟩, hB.setCell (p := ⟨w.heap.size, 0, none⟩) (Nat.le_refl _) _⟩
  case done =>
    rintro D ys W hD rfl ⟨⟨hc, hf⟩, hB⟩ hK
    gi_wp2
    refine ⟨by simp, .inl ⟨_, _, rfl, run_takeDeferred hK, ?_⟩⟩
    exact ⟨_, results_tmp rfl _ _ _, rfl, hB.trans (belowK_b (w := w) (Nat.le_refl _) W D _ _ (by simp at hD; omega) hK rfl rfl)⟩
  case stop =>
    rintro D c pre W _ _ h _
    exact h.elim

theorem count_calls (v : Value) (C : List (Int × Int)) (w : World) (hp : PersAt w v C) (hlen : C.length ≤ 10000) (hI : InT C) (hC : Can C) :
    Calls Tryz.prog 75 #[v] w fun e w' => e = .returned (.int .i64 (daysF C).1) ∧ Below w.heap.size w w' := by
  have h := callsIn_wide.1 (count_in Fence.wide 3 trivial trivial trivial rfl (Nat.le_refl _) v C w hp hlen hI)
  have hb := runsF_bd C hI
  obtain ⟨N, hN⟩ : ∃ N : Nat, (N : Int) = 146097 := ⟨146097, rfl⟩
  have hd := days_count C hC hI N hN
  rw [sumW_eq _ hb.2.2.2 (by omega), hd.1, ← hd.2] at h
  exact h
end Go.Proofs.YtngippiilgdnoaaGreat
