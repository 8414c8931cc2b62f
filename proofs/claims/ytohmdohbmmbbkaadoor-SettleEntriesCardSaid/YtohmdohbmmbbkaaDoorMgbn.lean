/-
  The walk of settle.gather: the number and the units of the usages under each agreement.
-/
import Derived.Test.YtohmdohbmmbbkaaDoorMgai
import Derived.Test.YtohmdohbmmbbkaaDoorMgar
import Derived.Test.YtohmdohbmmbbkaaDoorMgao
import Derived.Test.YtohmdohbmmbbkaaDoorMgbc
import Derived.Deep.LoopGhost
import Derived.Deep.RegionHeld3
import Derived.Deep.DeepCutAuto
import Derived.WalkMore
namespace Go.Proofs.YtohmdohbmmbbkaaDoor
open Go.RowKit

/-- Does an agreement with a partner fit a usage? -/
def fitA (pa : Int) (u : Us) (a : Ag) : Bool := fitsB pa u.kd u.ib u.st a
/-- Is a usage one of a partner's in a month? -/
def mineU (pa mf mt : Int) (u : Us) : Bool := decide (u.tr = pa) && containsB mf mt u.st
def stepT (so : List Ag) (pa mf mt : Int) (l : List Tt) (u : Us) : List Tt :=
  if mineU pa mf mt u = true then
    match so.findIdx? (fitA pa u) with
    | none => l
    | some i => l ++ [(i, (valT l i).1 + 1, (valT l i).2 + unitsU u)]
  else l
def gatherT (so : List Ag) (pa mf mt : Int) (us : List Us) : List Tt := us.foldl (stepT so pa mf mt) []
theorem gatherT_snoc (so : List Ag) (pa mf mt : Int) (us : List Us) (k : Nat) (h : k < us.length) : gatherT so pa mf mt (us.take (k + 1)) = stepT so pa mf mt (gatherT so pa mf mt (us.take k)) us[k] := by
  unfold gatherT
  rw [List.take_succ_eq_append_getElem h, List.foldl_append]
  rfl
theorem stepT_bd {so : List Ag} {pa mf mt : Int} {l : List Tt} {u : Us} {n : Nat} (h : ∀ i, 0 ≤ (valT l i).1 ∧ (valT l i).1 ≤ n ∧ 0 ≤ (valT l i).2 ∧ (valT l i).2 ≤ 1099511627776 * n) (hl : l.length ≤ n) :
    (∀ i, 0 ≤ (valT (stepT so pa mf mt l u) i).1 ∧ (valT (stepT so pa mf mt l u) i).1 ≤ (n + 1 : Nat) ∧ 0 ≤ (valT (stepT so pa mf mt l u) i).2 ∧ (valT (stepT so pa mf mt l u) i).2 ≤ 1099511627776 * (n + 1 : Nat)) ∧ (stepT so pa mf mt l u).length ≤ n + 1 := by
  have hu := unitsU_bd u
  unfold stepT
  by_cases hm : mineU pa mf mt u = true
  · rw [if_pos hm]
    cases hi : so.findIdx? (fitA pa u) with
    | none =>
      refine ⟨fun i => ?_, by simp only; omega⟩
      have := h i
      simp only
      omega
    | some i0 =>
      simp only
      refine ⟨fun i => ?_, by rw [List.length_append]; simp; omega⟩
      rw [valT_snoc]
      have h1 := h i
      have h0 := h i0
      by_cases e : i0 = i
      · simp only [e, if_true] at *
        omega
      · simp only [e, if_false]
        omega
  · rw [if_neg hm]
    refine ⟨fun i => ?_, by omega⟩
    have := h i
    omega
theorem gatherT_bd (so : List Ag) (pa mf mt : Int) (us : List Us) : ∀ k, k ≤ us.length → (∀ i, 0 ≤ (valT (gatherT so pa mf mt (us.take k)) i).1 ∧ (valT (gatherT so pa mf mt (us.take k)) i).1 ≤ (k : Int) ∧ 0 ≤ (valT (gatherT so pa mf mt (us.take k)) i).2 ∧ (valT (gatherT so pa mf mt (us.take k)) i).2 ≤ 1099511627776 * (k : Int)) ∧ (gatherT so pa mf mt (us.take k)).length ≤ k
  | 0, _ => ⟨fun i => (by show 0 ≤ (0 : Int) ∧ (0 : Int) ≤ ((0 : Nat) : Int) ∧ (0 : Int) ≤ 0 ∧ (0 : Int) ≤ 1099511627776 * ((0 : Nat) : Int); omega), Nat.le_refl _⟩
  | k + 1, hk => by
    obtain ⟨h1, h2⟩ := gatherT_bd so pa mf mt us k (by omega)
    rw [gatherT_snoc so pa mf mt us k (by omega)]
    exact stepT_bd h1 h2
theorem find_none_take {so : List Ag} {p : Ag → Bool} {j : Nat} (hj : j < so.length) (h : ∀ i, i < j → ∀ hi : i < so.length, p so[i] = false) (hp : p so[j] = false) : ∀ i, i < j + 1 → ∀ hi : i < so.length, p so[i] = false := fun i h1 hi => by
  by_cases e : i = j
  · subst e; exact hp
  · exact h i (by omega) hi
theorem findIdx_hit {so : List Ag} {p : Ag → Bool} {j : Nat} (hj : j < so.length) (h : ∀ i, i < j → ∀ hi : i < so.length, p so[i] = false) (hp : p so[j] = true) : so.findIdx? p = some j := by
  rw [List.findIdx?_eq_some_iff_getElem]
  exact ⟨hj, hp, fun i hi => by rw [h i hi (by omega)]; simp⟩
theorem findIdx_none {so : List Ag} {p : Ag → Bool} {j : Nat} (hj : so.length ≤ j) (h : ∀ i, i < j → ∀ hi : i < so.length, p so[i] = false) : so.findIdx? p = none := by
  rw [List.findIdx?_eq_none_iff]
  intro x hx
  obtain ⟨i, hi, rfl⟩ := List.mem_iff_getElem.1 hx
  exact h i (by omega) hi
/-- The map that gather returns. -/
def GatherTo (so : List Ag) (pa mf mt : Int) (us : List Us) (w : World) (e : Ending) (w' : World) : Prop :=
  ∃ b, e = .returned (.map (some b)) ∧ OwnT w' b (gatherT so pa mf mt us) ∧ Below w.heap.size w w'

/-- A look-up of totals in a region that is walked once. -/
theorem wpQuiet_look_tot {ops : Array Oper} {rest : List Oper} {o : Oper} {a : Act} {Q : Act → Prop} {X : World} (hg : o.guard = none) (m x : Operand) (hop : o.op = Op.lookup 64 m x false) (b : Nat) (j c u : Int) (hm : a.eval m = .map (some b)) (hx : a.eval x = .int .i64 j)
    (hrun : ∀ p : BelowOf X, (Instr.lookup 64 (.map (some b)) (.int .i64 j) false).run Tryd.prog p.w = .ok (.agg #[.int .i64 c, .int .i64 u]) p.w)
    (h : wpQuiet Tryd.prog ops (fun w' => ∃ p : BelowOf X, w' = p.w) Q rest (a.put o.dst (.agg #[.int .i64 c, .int .i64 u]))) : wpQuiet Tryd.prog ops (fun w' => ∃ p : BelowOf X, w' = p.w) Q (o :: rest) a :=
  BigFrame.wpQuiet_want (by simp [Region.wanted, hg]) fun K hK => ⟨.agg #[.int .i64 c, .int .i64 u], fun w hw => by
    obtain ⟨p, rfl⟩ := hw
    unfold Oper.quietAt
    simp [execOp, hop, hm, hx, hrun p, Result.andThen, Oper.quietUpon], hK _ h⟩

set_option maxRecDepth 100000 in
set_option maxHeartbeats 12800000 in
theorem gather_calls (vs vu : Value) (so : List Ag) (us : List Us) (pa mf mt : Int) (w : World) (hs : AgsAt w vs so) (hu : UssAt w vu us) (hl : us.length ≤ 40) :
    Calls Tryd.prog 25 #[vs, vu, .int .i64 pa, .agg #[.int .i64 mf, .int .i64 mt]] w (GatherTo so pa mf mt us w) := by
  obtain ⟨W, hW⟩ : ∃ W, W = w.alloc (Obj.cells #[Value.int .i64 mf, .int .i64 mt] 25) := ⟨_, rfl⟩
  have hw0 : Below w.heap.size w W := by rw [hW]; exact (Below.refl _ _).alloc (Nat.le_refl _) _
  have r0 : W.heap[w.heap.size]? = some (Obj.cells #[Value.int .i64 mf, .int .i64 mt] 25) := by rw [hW]; exact heap_alloc_new _ _
  have hzW : W.heap.size = w.heap.size + 1 := by rw [hW]; simp
  have HM := Lib.hid (show ∀ w', Below W.heap.size W w' → w'.cell? ⟨w.heap.size, 0, none⟩ = some (.int .i64 mf) ∧ w'.cell? ⟨w.heap.size, 1, none⟩ = some (.int .i64 mt) from fun w' hb => by
    have g0 := (hb.block _ (by omega)).trans r0
    exact ⟨cell_of_row w' _ 0 _ _ _ g0, cell_of_row w' _ 1 _ _ _ g0⟩)
  have Hs := Lib.hid (hs.below hw0)
  have Hu := Lib.hid (hu.below hw0)
  obtain ⟨sa, sc, rfl, hsl, hsm, -⟩ := hs
  obtain ⟨ua0, uc, rfl, hul, hum, -⟩ := hu
  have hsm := hsm.1
  have hum := hum.1
  unfold maxLen at hsm hum
  have HW := Lib.hid hW
  have Hw0 := Lib.hid hw0
  have HBd := Lib.hid (gatherT_bd so pa mf mt us)
  have HSn := Lib.hid (gatherT_snoc so pa mf mt us)
  obtain ⟨V, hV⟩ : ∃ V, V = W.alloc (.map #[] 0) := ⟨_, rfl⟩
  have HT0 := Lib.hid (show OwnT V W.heap.size [] by rw [hV]; exact OwnT.made W)
  have HbV := Lib.hid (show Below W.heap.size W V by rw [hV]; exact (Below.refl _ _).alloc (Nat.le_refl _) _)
  have HV := Lib.hid hV
  have hmm := @run_makeMap Tryd.prog
  have hfd0 : ∀ (c u : Value) (w : World), Sem.run Tryd.prog (Instr.field 67 (.agg #[c, u]) 0) w = .ok c w := fun _ _ _ => by kernel_rfl
  have hfd1 : ∀ (c u : Value) (w : World), Sem.run Tryd.prog (Instr.field 67 (.agg #[c, u]) 1) w = .ok u w := fun _ _ _ => by kernel_rfl
  have HzW := Lib.hid hzW
  clear hW hw0 r0 hV
  go_enter Tryd.func25, Tryd.ntmps25
  go_wp2_with fail
  rw [← HW.out]
  go_step3
  go_wp2_with fail
  rw [← HV.out]
  rw [hzW] at HT0
  go_step3
  go_wp2_with fail
  go_loopg [17] us.length (fun g i wx => ∃ k : Nat, k + g = us.length ∧ i = .int .i64 k ∧ OwnT wx (w.heap.size + 1) (gatherT so pa mf mt (us.take k)) ∧ Below W.heap.size W wx)
  case atStart => exact ⟨0, by omega, rfl, HT0.out, HbV.out⟩
  case round =>
    obtain ⟨k, hkg, rfl, hT, hbr⟩ := hrel
    have HT := Lib.hid hT
    have Hbr := Lib.hid hbr
    clear hT
    cases gk with
    | zero =>
      have hkz : ¬ ((k : Int) < (us.length : Int)) := by omega
      have HG := Lib.hid (show GatherTo so pa mf mt us w (.returned (.map (some (w.heap.size + 1)))) wr from ⟨_, rfl, by have h := HT.out; rw [List.take_of_length_le (by omega)] at h; exact h, Hw0.out.trans (hbr.mono Hw0.out.size)⟩)
      clear hkg hbr
      go_wp2
      try rw [Exit.noGoto_ret]
      go_ret
      exact HG.out
    | succ gout =>
      have hlt : k < us.length := by omega
      have hk1 : (k : Int) < (us.length : Int) := by omega
      have hk0 : (0 : Int) ≤ (k : Int) := Int.natCast_nonneg _
      obtain ⟨ua2, uc2, e2, -, -, hx⟩ := Hu.out
      cases e2
      obtain ⟨bu, ou, rfl, hBu, hx⟩ := hx (by rintro rfl; cases hlt)
      have c := fun j (hj : j < 12) => (hbr.cell (p := ⟨bu, _, none⟩) hBu).trans (hx k hlt j hj)
      have HSk := Lib.hid (HSn.out k hlt)
      have HBk := Lib.hid (HBd.out k (by omega))
      clear hx
      generalize us[k] = u at *
      unfold Us.row at c
      obtain ⟨id, kd, ac, sb, ua, ub, st, un, tr, ib, so0, se⟩ := u
      dsimp only at c
      have c0 := c 0 (by omega)
      have c1 := c 1 (by omega)
      have c2 := c 2 (by omega)
      have c3 := c 3 (by omega)
      have c4 := c 4 (by omega)
      have c5 := c 5 (by omega)
      have c6 := c 6 (by omega)
      have c7 := c 7 (by omega)
      have c8 := c 8 (by omega)
      have c9 := c 9 (by omega)
      have c10 := c 10 (by omega)
      have c11 := c 11 (by omega)
      have c0 : wr.cell? ⟨bu, ou + k * 12, none⟩ = some (.int .i64 id) := c0
      obtain ⟨m0, m1⟩ := HM.out wr hbr
      clear c
      obtain ⟨X, hX⟩ : ∃ X, X = wr.alloc (Obj.cells #[Value.int .i64 id, .int .i64 kd, .int .i64 ac, .int .i64 sb, .string ua, .string ub, .int .i64 st, .int .i64 un, .int .i64 tr, .bool ib, .int .i64 so0, .int .i64 se] 47) := ⟨_, rfl⟩
      have hbX : Below wr.heap.size wr X := by rw [hX]; exact (Below.refl _ _).alloc (Nat.le_refl _) _
      have rX : X.heap[wr.heap.size]? = some (Obj.cells #[Value.int .i64 id, .int .i64 kd, .int .i64 ac, .int .i64 sb, .string ua, .string ub, .int .i64 st, .int .i64 un, .int .i64 tr, .bool ib, .int .i64 so0, .int .i64 se] 47) := by rw [hX]; exact heap_alloc_new _ _
      have hzX : wr.heap.size < X.heap.size := by rw [hX]; simp
      have hwX := hbr.trans (hbX.mono hbr.size)
      have HX := Lib.hid hX
      have HrX := Lib.hid rX
      have HwX := Lib.hid hwX
      have HbX := Lib.hid hbX
      have HTX := Lib.hid (HT.out.below hbX)
      have x8 := cell_of_row X _ 8 _ _ _ rX
      have x6 := cell_of_row X _ 6 _ _ _ rX
      obtain ⟨n0, n1⟩ := HM.out X hwX
      have HMi := Lib.hid (show mineU pa mf mt ⟨id, kd, ac, sb, ua, ub, st, un, tr, ib, so0, se⟩ = (decide (tr = pa) && containsB mf mt st) from rfl)
      obtain ⟨cm, hcm⟩ : ∃ cm, cm = containsB mf mt st := ⟨_, rfl⟩
      rw [← hcm] at HMi
      have HCm := Lib.hid (show ∀ w', Calls Tryd.prog 38 #[.agg #[.int .i64 mf, .int .i64 mt], .int .i64 st] w' fun e w'' => e = .returned (.bool cm) ∧ Below w'.heap.size w' w'' from fun w' => hcm ▸ contains_calls mf mt st w')
      have HNo := Lib.hid (fun h : mineU pa mf mt ⟨id, kd, ac, sb, ua, ub, st, un, tr, ib, so0, se⟩ = false => HSk.out.trans (show stepT so pa mf mt (gatherT so pa mf mt (us.take k)) ⟨id, kd, ac, sb, ua, ub, st, un, tr, ib, so0, se⟩ = gatherT so pa mf mt (us.take k) by unfold stepT; rw [if_neg (by rw [h]; decide)]))
      have HYes := Lib.hid (fun (h : mineU pa mf mt ⟨id, kd, ac, sb, ua, ub, st, un, tr, ib, so0, se⟩ = true) => HSk.out.trans (show stepT so pa mf mt (gatherT so pa mf mt (us.take k)) ⟨id, kd, ac, sb, ua, ub, st, un, tr, ib, so0, se⟩ = _ by unfold stepT; rw [if_pos h]))
      clear hX rX hwX hbX hcm hzW HT
      go_upto_region 5 with (fail)
      rw [← HX.out]
      clear c0 c1 c2 c3 c4 c5 c6 c7 c8 c9 c10 c11 m0 m1
      by_cases htr : tr = pa
      · have htb : (tr != pa) = false := bne_eq_false_iff_eq.2 htr
        go_wp2_with fail
        refine (HCm.out X).mono ?_
        rintro e w1 ⟨rfl, hb1⟩
        obtain ⟨wo, rfl⟩ : ∃ wo : World, wo = wr := ⟨_, rfl⟩
        have HwY := Lib.hid (HwX.out.trans (hb1.mono HwX.out.size))
        have HTY := Lib.hid (HTX.out.below hb1)
        have HrY := Lib.hid ((hb1.block _ hzX).trans HrX.out)
        have hzY : wo.heap.size < w1.heap.size := Nat.lt_of_lt_of_le hzX hb1.size
        clear n0 n1 x8 x6 hb1
        cases cm with
        | false =>
          have HE := Lib.hid (HNo.out (by rw [HMi.out]; simp))
          clear htr
          go_wp2
          go_roundg gout
          case measure => omega
          case rel => exact ⟨k + 1, by omega, by first | rfl | simp, by rw [HE.out]; exact HTY.out, HwY.out⟩
        | true =>
          have HM1 := Lib.hid (HYes.out (by rw [HMi.out, decide_eq_true htr]; rfl))
          clear htr
          go_wp2_with fail
          go_loopg [34] so.length (fun g2 i wy => ∃ j : Nat, j + g2 = so.length ∧ i = .int .i64 j ∧ RowKit.Hid (∀ i, i < j → ∀ hi : i < so.length, fitA pa ⟨id, kd, ac, sb, ua, ub, st, un, tr, ib, so0, se⟩ so[i] = false) ∧ Below w1.heap.size w1 wy) 
          case atStart => exact ⟨0, by omega, rfl, Lib.hid (fun i h => absurd h (by omega)), Below.refl _ _⟩
          case round =>
            obtain ⟨j, hjg, rfl, HJ, hbj⟩ := hrel
            have HwJ := Lib.hid (HwY.out.trans (hbj.mono HwY.out.size))
            have HTJ := Lib.hid (HTY.out.below hbj)
            have HrJ := Lib.hid ((hbj.block _ hzY).trans HrY.out)
            have Hbj := Lib.hid hbj
            cases gk with
            | zero =>
              have hjz : ¬ ((j : Int) < (so.length : Int)) := by omega
              have HE := Lib.hid (HM1.out.trans (by rw [findIdx_none (p := fitA pa ⟨id, kd, ac, sb, ua, ub, st, un, tr, ib, so0, se⟩) (show so.length ≤ j by omega) HJ.out]))
              clear hjg hbj
              go_wp2
              go_roundg gout
              case measure => omega
              case rel => exact ⟨k + 1, by omega, by first | rfl | simp, by rw [HE.out]; exact HTJ.out, HwJ.out⟩
            | succ gin =>
              have hjl : j < so.length := by omega
              have hj1 : (j : Int) < (so.length : Int) := by omega
              have hj0 : (0 : Int) ≤ (j : Int) := Int.natCast_nonneg _
              obtain ⟨sa2, sc2, e2, -, -, hx⟩ := Hs.out
              cases e2
              obtain ⟨bs, os, rfl, hBs, hx⟩ := hx (by rintro rfl; cases hjl)
              obtain ⟨d0, d1, d2, d3, d4, ⟨sv, d5, hsv, -⟩, d6⟩ := hx j hjl
              have d0 := (HwJ.out.cell (p := ⟨bs, _, none⟩) hBs).trans d0
              have d1 := (HwJ.out.cell (p := ⟨bs, _, none⟩) hBs).trans d1
              have d2 := (HwJ.out.cell (p := ⟨bs, _, none⟩) hBs).trans d2
              have d3 := (HwJ.out.cell (p := ⟨bs, _, none⟩) hBs).trans d3
              have d4 := (HwJ.out.cell (p := ⟨bs, _, none⟩) hBs).trans d4
              have d5 := (HwJ.out.cell (p := ⟨bs, _, none⟩) hBs).trans d5
              have d6 := (HwJ.out.cell (p := ⟨bs, _, none⟩) hBs).trans d6
              obtain ⟨xa, xc, rfl, -, -⟩ := hsv
              have HNx := Lib.hid (fun h => find_none_take (p := fitA pa ⟨id, kd, ac, sb, ua, ub, st, un, tr, ib, so0, se⟩) hjl HJ.out h)
              have HHit := Lib.hid (fun h => findIdx_hit (p := fitA pa ⟨id, kd, ac, sb, ua, ub, st, un, tr, ib, so0, se⟩) hjl HJ.out h)
              clear hx hbj
              generalize so[j] = ag at *
              obtain ⟨xp, xk, xi, xf, xt, xst, xcp⟩ := ag
              dsimp only at d0 d1 d2 d3 d4 d5 d6
              have HF := Lib.hid (show fitA pa ⟨id, kd, ac, sb, ua, ub, st, un, tr, ib, so0, se⟩ ⟨xp, xk, xi, xf, xt, xst, xcp⟩ = (decide (xp = pa) && decide (xk = kd) && decide (xi = ib) && containsB xf xt st) from rfl)
              obtain ⟨Z, hZ⟩ : ∃ Z, Z = wr.alloc (Obj.cells #[Value.int .i64 xp, .int .i64 xk, .bool xi, .int .i64 xf, .int .i64 xt, .slice xa xst.length xc, .int .i64 xcp] 53) := ⟨_, rfl⟩
              have hbZ : Below wr.heap.size wr Z := by rw [hZ]; exact (Below.refl _ _).alloc (Nat.le_refl _) _
              have rZ : Z.heap[wr.heap.size]? = some (Obj.cells #[Value.int .i64 xp, .int .i64 xk, .bool xi, .int .i64 xf, .int .i64 xt, .slice xa xst.length xc, .int .i64 xcp] 53) := by rw [hZ]; exact heap_alloc_new _ _
              have rX := (hbZ.block _ (Nat.lt_of_lt_of_le hzY Hbj.out.size)).trans HrJ.out
              have z0 := cell_of_row Z _ 0 _ _ _ rZ
              have z1 := cell_of_row Z _ 1 _ _ _ rZ
              have z2 := cell_of_row Z _ 2 _ _ _ rZ
              have z3 := cell_of_row Z _ 3 _ _ _ rZ
              have z4 := cell_of_row Z _ 4 _ _ _ rZ
              have x1 := cell_of_row Z _ 1 _ _ _ rX
              have x6 := cell_of_row Z _ 6 _ _ _ rX
              have x9 := cell_of_row Z _ 9 _ _ _ rX
              have HwZ := Lib.hid (HwJ.out.trans (hbZ.mono HwJ.out.size))
              have HTZ := Lib.hid (HTJ.out.below hbZ)
              have HbZ := Lib.hid (Hbj.out.trans (hbZ.mono Hbj.out.size))
              have hzZ : wo.heap.size < Z.heap.size := Nat.lt_of_lt_of_le hzY HbZ.out.size
              have HrZ := Lib.hid rX
              have HZ := Lib.hid hZ
              obtain ⟨cn, hcn⟩ : ∃ cn, cn = containsB xf xt st := ⟨_, rfl⟩
              rw [← hcn] at HF
              have HCn := Lib.hid (show ∀ w', Calls Tryd.prog 38 #[.agg #[.int .i64 xf, .int .i64 xt], .int .i64 st] w' fun e w'' => e = .returned (.bool cn) ∧ Below w'.heap.size w' w'' from fun w' => hcn ▸ contains_calls xf xt st w')
              clear hZ rZ rX hbZ hcn
              go_upto_region 9 with (fail)
              rw [← HZ.out]
              clear d0 d1 d2 d3 d4 d5 d6
              by_cases h1 : xp = pa
              · have h1b : (xp == pa) = true := beq_iff_eq.2 h1
                by_cases h2 : xk = kd
                · have h2b : (xk == kd) = true := beq_iff_eq.2 h2
                  by_cases h3 : xi = ib
                  · have h3b : (xi == ib) = true := beq_iff_eq.2 h3
                    go_wp2_with fail
                    refine (HCn.out Z).mono ?_
                    rintro e w2 ⟨rfl, hb2⟩
                    have HwQ := Lib.hid (HwZ.out.trans (hb2.mono HwZ.out.size))
                    have HTQ := Lib.hid (HTZ.out.below hb2)
                    have HbQ := Lib.hid (HbZ.out.trans (hb2.mono HbZ.out.size))
                    have HrQ := Lib.hid ((hb2.block _ hzZ).trans HrZ.out)
                    have hzQ : wo.heap.size < w2.heap.size := Nat.lt_of_lt_of_le hzZ hb2.size
                    clear z0 z1 z2 z3 z4 x1 x6 x9 hb2
                    cases cn with
                    | false =>
                      have HE := Lib.hid (HNx.out (by rw [HF.out]; simp))
                      clear h1 h2 h3 h1b h2b h3b
                      go_wp2
                      go_roundg gin
                      case measure => omega
                      case rel => exact ⟨j + 1, by omega, by first | rfl | simp, Lib.hid HE.out, HbQ.out⟩
                    | true =>
                      have HE := Lib.hid (HM1.out.trans (by rw [HHit.out (by rw [HF.out, decide_eq_true h1, decide_eq_true h2, decide_eq_true h3]; rfl)]))
                      clear h1 h2 h3 h1b h2b h3b
                      have hbk := HBk.out
                      generalize gatherT so pa mf mt (us.take k) = lt at *
                      obtain ⟨hbv, hbl⟩ := hbk
                      obtain ⟨v1, v2, v3, v4⟩ := hbv j
                      have HLk := Lib.hid (fun p : BelowOf w2 => look_tot (HTQ.out.below p.h) j (by omega))
                      obtain ⟨vt, hvt⟩ : ∃ vt, vt = valT lt j := ⟨_, rfl⟩
                      have HVt := Lib.hid hvt
                      rw [← hvt] at v1 v2 v3 v4 HLk
                      clear hvt
                      obtain ⟨vc, vv⟩ := vt
                      dsimp only at HE v1 v2 v3 v4
                      have hub := unitsU_bd ⟨id, kd, ac, sb, ua, ub, st, un, tr, ib, so0, se⟩
                      have HUn := Lib.hid (fun w' => sunits_calls ⟨id, kd, ac, sb, ua, ub, st, un, tr, ib, so0, se⟩ w')
                      unfold Us.row at HUn
                      generalize unitsU ⟨id, kd, ac, sb, ua, ub, st, un, tr, ib, so0, se⟩ = uv at *
                      have hw1 : IntKind.i64.wrap (vc + 1) = vc + 1 := IntWalk.i64_in _ (by omega)
                      have hw2 : IntKind.i64.wrap (vv + uv) = vv + uv := IntWalk.i64_in _ (by omega)
                      dsimp only at HUn
                      dsimp only at HLk
                      have q0 := cell_of_row w2 _ 0 _ _ _ HrQ.out
                      have fx0 := fun p : BelowOf w2 => BelowOf.cell hzQ q0 p
                      have q1 := cell_of_row w2 _ 1 _ _ _ HrQ.out
                      have fx1 := fun p : BelowOf w2 => BelowOf.cell hzQ q1 p
                      have q2 := cell_of_row w2 _ 2 _ _ _ HrQ.out
                      have fx2 := fun p : BelowOf w2 => BelowOf.cell hzQ q2 p
                      have q3 := cell_of_row w2 _ 3 _ _ _ HrQ.out
                      have fx3 := fun p : BelowOf w2 => BelowOf.cell hzQ q3 p
                      have q4 := cell_of_row w2 _ 4 _ _ _ HrQ.out
                      have fx4 := fun p : BelowOf w2 => BelowOf.cell hzQ q4 p
                      have q5 := cell_of_row w2 _ 5 _ _ _ HrQ.out
                      have fx5 := fun p : BelowOf w2 => BelowOf.cell hzQ q5 p
                      have q6 := cell_of_row w2 _ 6 _ _ _ HrQ.out
                      have fx6 := fun p : BelowOf w2 => BelowOf.cell hzQ q6 p
                      have q7 := cell_of_row w2 _ 7 _ _ _ HrQ.out
                      have fx7 := fun p : BelowOf w2 => BelowOf.cell hzQ q7 p
                      have q8 := cell_of_row w2 _ 8 _ _ _ HrQ.out
                      have fx8 := fun p : BelowOf w2 => BelowOf.cell hzQ q8 p
                      have q9 := cell_of_row w2 _ 9 _ _ _ HrQ.out
                      have fx9 := fun p : BelowOf w2 => BelowOf.cell hzQ q9 p
                      have q10 := cell_of_row w2 _ 10 _ _ _ HrQ.out
                      have fx10 := fun p : BelowOf w2 => BelowOf.cell hzQ q10 p
                      have q11 := cell_of_row w2 _ 11 _ _ _ HrQ.out
                      have fx11 := fun p : BelowOf w2 => BelowOf.cell hzQ q11 p
                      clear q0 q1 q2 q3 q4 q5 q6 q7 q8 q9 q10 q11
                      clear hub hbv v1 v2 v3 v4
                      go_upto_region 10 with (fail)
                      refine wp_region_quiet_tail 15 (Below.refl w2.heap.size w2) (by kernel_rfl) (by kernel_rfl) ?_
                      simp only [List.take_succ_cons, List.take_zero, List.drop_succ_cons, List.drop_zero]
                      repeat (go_big_quiet_step (fail))
                      refine wpQuiet_look_tot rfl (.tmp 66) (.tmp 67) rfl (w.heap.size + 1) (j : Int) vc vv rfl rfl HLk.out ?_
                      simp only [Act.put, List.setIfInBounds_toArray, List.set_cons_zero, List.set_cons_succ]
                      repeat (go_big_quiet_step (fail))
                      refine wpQuiet_look_tot rfl (.tmp 71) (.tmp 72) rfl (w.heap.size + 1) (j : Int) vc vv rfl rfl HLk.out ?_
                      simp only [Act.put, List.setIfInBounds_toArray, List.set_cons_zero, List.set_cons_succ]
                      repeat (go_big_quiet_step (first | (go_at_call 48; refine calls_below_of (HUn.out _) (fun e w' h => h))))
                      refine wpQuiet_nil ?_
                      intro wq hw'
                      have hYq : Below w2.heap.size w2 wq := by obtain ⟨pq, rfl⟩ := hw'; exact pq.h
                      have HwR := Lib.hid (HwQ.out.trans (hYq.mono HwQ.out.size))
                      have HTR := Lib.hid (HTQ.out.below hYq)
                      clear hw' hYq fx0 fx1 fx2 fx3 fx4 fx5 fx6 fx7 fx8 fx9 fx10 fx11
                      refine wpList_mapUpdate_tot _ rfl (.tmp 64) (.tmp 65) (.tmp 78) rfl (w.heap.size + 1) lt rfl HTR.out (by unfold maxLen; omega) j (vc + 1) (vv + uv) rfl rfl (by omega) ?_
                      intro w5 hT5 hgr
                      have HT5 := Lib.hid hT5
                      have Hb5 := Lib.hid (show Below W.heap.size W w5 from HwR.out.grown hgr HwR.out.size (fun g hg => by cases hg; rw [HzW.out]; exact Nat.le_refl _))
                      clear hT5 hgr
                      go_wp2
                      go_roundg gout
                      case measure => omega
                      case rel => exact ⟨k + 1, by omega, by first | rfl | simp, by rw [HE.out, ← HVt.out]; exact HT5.out, Hb5.out⟩
                  · have h3b : (xi == ib) = false := beq_eq_false_iff_ne.2 h3
                    have HE := Lib.hid (HNx.out (by rw [HF.out, decide_eq_false h3]; simp))
                    clear h1 h2 h3
                    go_wp2
                    go_roundg gin
                    case measure => omega
                    case rel => exact ⟨j + 1, by omega, by first | rfl | simp, Lib.hid HE.out, HbZ.out⟩
                · have h2b : (xk == kd) = false := beq_eq_false_iff_ne.2 h2
                  have HE := Lib.hid (HNx.out (by rw [HF.out, decide_eq_false h2]; simp))
                  clear h1 h2
                  go_wp2
                  go_roundg gin
                  case measure => omega
                  case rel => exact ⟨j + 1, by omega, by first | rfl | simp, Lib.hid HE.out, HbZ.out⟩
              · have h1b : (xp == pa) = false := beq_eq_false_iff_ne.2 h1
                have HE := Lib.hid (HNx.out (by rw [HF.out, decide_eq_false h1]; simp))
                clear h1
                go_wp2
                go_roundg gin
                case measure => omega
                case rel => exact ⟨j + 1, by omega, by first | rfl | simp, Lib.hid HE.out, HbZ.out⟩
      · have htb : (tr != pa) = true := bne_iff_ne.2 htr
        have HE := Lib.hid (HNo.out (by rw [HMi.out, decide_eq_false htr]; rfl))
        clear htr
        go_wp2
        go_roundg gout
        case measure => omega
        case rel => exact ⟨k + 1, by omega, by first | rfl | simp, by rw [HE.out]; exact HTX.out, HwX.out⟩
end Go.Proofs.YtohmdohbmmbbkaaDoor
