/-
  The walks of the reference of cycles: does a cycle meet a life; the cycle of an instant; the cycles that a period touches.
-/
import Derived.Test.YtmilpaibkemmdaaMgbj
import Derived.Test.YtmilpaibkemmdaaMgaf
namespace Go.Proofs.Ytmilpaibkemmdaa
open Go.RowKit

theorem meetV_shape (f t f2 t2 : Int) : ∃ a b : Int, meetV f t f2 t2 = .agg #[.int .i64 a, .int .i64 b] := by
  unfold meetV
  split
  · exact ⟨_, _, rfl⟩
  · exact ⟨_, _, rfl⟩
def lvPhi (w W : World) (v0 : Value) (tm ac ct c0 c1 m0 m1 : Int) (mb : Bool) : Nat → Value → World → Prop
  | 0, v, _ => v = .pointer (some ⟨w.heap.size, 0, none⟩)
  | 1, v, _ => v = .int .i64 tm
  | 2, v, _ => v = v0
  | 3, v, _ => v = .pointer (some ⟨w.heap.size, 2, none⟩)
  | 4, v, _ => v = .int .i64 ac
  | 5, v, _ => v = .int .i64 ct
  | 6, v, _ => v = .agg #[.int .i64 tm, .int .i64 ct]
  | 7, v, _ => v = .agg #[.int .i64 c0, .int .i64 c1]
  | 8, v, _ => v = .tuple #[.agg #[.int .i64 m0, .int .i64 m1], .bool mb]
  | 9, v, _ => v = .tuple #[.agg #[.int .i64 m0, .int .i64 m1], .bool mb]
  | 10, v, _ => v = .agg #[.int .i64 m0, .int .i64 m1]
  | 11, v, _ => v = .bool mb
  | 12, v, w' => ∃ g cs, v = .pointer (some ⟨g, 0, none⟩) ∧ W.heap.size ≤ g ∧ w'.heap[g]? = some (Obj.cells cs 26) ∧ cs.size = 2
  | _, _, _ => True
theorem lvPhi_stays {w W : World} {v0 : Value} {tm ac ct c0 c1 m0 m1 : Int} {mb : Bool} {w1 w2 : World} (hb : ∀ (g : Nat) (cs : Array Value), w1.heap[g]? = some (Obj.cells cs 26) → cs.size = 2 → ∃ cs' : Array Value, w2.heap[g]? = some (Obj.cells cs' 26) ∧ cs'.size = 2) : ∀ j y, lvPhi w W v0 tm ac ct c0 c1 m0 m1 mb j y w1 → lvPhi w W v0 tm ac ct c0 c1 m0 m1 mb j y w2
  | 0, _, h => h
  | 1, _, h => h
  | 2, _, h => h
  | 3, _, h => h
  | 4, _, h => h
  | 5, _, h => h
  | 6, _, h => h
  | 7, _, h => h
  | 8, _, h => h
  | 9, _, h => h
  | 10, _, h => h
  | 11, _, h => h
  | 12, _, ⟨g, cs, h1, h2, h3, h4⟩ => by
    obtain ⟨cs', h5, h6⟩ := hb g cs h3 h4
    exact ⟨g, cs', h1, h2, h5, h6⟩
  | _ + 13, _, _ => trivial
theorem keep_below {w1 w2 : World} (hb : Below w1.heap.size w1 w2) {t : TypeId} {n : Nat} : ∀ (g : Nat) (cs : Array Value), w1.heap[g]? = some (Obj.cells cs t) → cs.size = n → ∃ cs' : Array Value, w2.heap[g]? = some (Obj.cells cs' t) ∧ cs'.size = n :=
  fun _ cs h1 h2 => ⟨cs, (hb.block _ (Array.getElem?_eq_some_iff.1 h1).1).trans h1, h2⟩
theorem keep_setRow {w1 : World} {t : TypeId} {n q : Nat} {old new : Array Value} (hq : w1.heap[q]? = some (Obj.cells old t)) (hn : new.size = n) : ∀ (g : Nat) (cs : Array Value), w1.heap[g]? = some (Obj.cells cs t) → cs.size = n → ∃ cs' : Array Value, (w1.setRow q new).heap[g]? = some (Obj.cells cs' t) ∧ cs'.size = n := fun g cs h1 h2 => by
  by_cases h : g = q
  · subst h
    exact ⟨new, setRow_heap w1 g old new _ _ hq, hn⟩
  · exact ⟨cs, (setRow_other _ _ _ _ h).trans h1, h2⟩

set_option maxRecDepth 100000 in
set_option maxHeartbeats 6400000 in
theorem rlives_calls (v : Value) (l : List Ev) (ev : Ev) (c0 c1 : Int) (w : World) (h : EvsAt w v l) :
    Calls Try.prog 29 #[v, evVal ev, .agg #[.int .i64 c0, .int .i64 c1]] w fun e w' => e = .returned (.bool (meetB ev.tm (closeT l ev.ac) c0 c1)) ∧ Below w.heap.size w w' := by
  have hh := h
  obtain ⟨av, cap, rfl, -, -⟩ := rec_shape h.1
  obtain ⟨tm, kd, ac, sb, nu, nm, vl⟩ := ev
  unfold evVal
  dsimp only
  obtain ⟨ct, hct⟩ : ∃ ct, ct = closeT l ac := ⟨_, rfl⟩
  rw [← hct]
  have Hct := Lib.hid hct
  obtain ⟨m0, m1, hmv⟩ := meetV_shape tm ct c0 c1
  obtain ⟨mb, hmb⟩ : ∃ mb, mb = meetB tm ct c0 c1 := ⟨_, rfl⟩
  rw [← hmb]
  obtain ⟨r0, r1, hw0, hz⟩ := two_rows w (Obj.cells #[.int .i64 tm, .int .i64 kd, .int .i64 ac, .int .i64 sb, .string nu, .string nm, .int .i64 vl] 55) (Obj.cells #[.int .i64 c0, .int .i64 c1] 26)
  obtain ⟨W, hW⟩ : ∃ W, W = (w.alloc (Obj.cells #[.int .i64 tm, .int .i64 kd, .int .i64 ac, .int .i64 sb, .string nu, .string nm, .int .i64 vl] 55)).alloc (Obj.cells #[.int .i64 c0, .int .i64 c1] 26) := ⟨_, rfl⟩
  rw [← hW] at r0 r1 hw0 hz
  have HC := Lib.hid (show ∀ Y, Below W.heap.size W Y → Y.cell? ⟨w.heap.size, 0, none⟩ = some (.int .i64 tm) ∧ Y.cell? ⟨w.heap.size, 2, none⟩ = some (.int .i64 ac) ∧ Y.cell? ⟨w.heap.size + 1, 0, none⟩ = some (.int .i64 c0) ∧ Y.cell? ⟨w.heap.size + 1, 1, none⟩ = some (.int .i64 c1) from fun Y hb => by
    have q := (hb.block _ (by omega)).trans r0
    have p := (hb.block _ hz).trans r1
    exact ⟨cell_of_row Y _ 0 _ _ _ q, cell_of_row Y _ 2 _ _ _ q, cell_of_row Y _ 0 _ _ _ p, cell_of_row Y _ 1 _ _ _ p⟩)
  have HCl := Lib.hid (show ∀ Y, Below W.heap.size W Y → Calls Try.prog 43 #[.slice av l.length cap, .int .i64 ac] Y fun e w' => e = .returned (.int .i64 ct) ∧ Y = w' from fun Y hb => by
    rw [hct]; exact closing_calls _ l ac Y (hh.below (hw0.trans (hb.mono hw0.size))))
  have HIn := Lib.hid (show ∀ Y, Calls Try.prog 42 #[.agg #[.int .i64 tm, .int .i64 ct], .agg #[.int .i64 c0, .int .i64 c1]] Y fun e w' => e = .returned (.tuple #[.agg #[.int .i64 m0, .int .i64 m1], .bool mb]) ∧ Below Y.heap.size Y w' from fun Y => by
    have h := rintersect_calls tm ct c0 c1 Y
    rwa [hmv, ← hmb] at h)
  have HW := Lib.hid hW
  have Hw0 := Lib.hid hw0
  clear hW r0 r1 hw0 hz h hh hct hmv hmb
  go_enter Try.func29, Try.ntmps29
  go_upto_region 1 with (fail)
  rw [← HW.out]
  refine wp_region_free2 (fun w' => Below W.heap.size W w') (lvPhi w W (.slice av l.length cap) tm ac ct c0 c1 m0 m1 mb) (by kernel_rfl) (by decide) (by kernel_rfl) (Below.refl _ _).drew ?_
  generalize hfr : (fun v : Nat → Value => _) = fr
  simp only [List.map_cons, List.map_nil, putsL, List.setIfInBounds_toArray, List.set_cons_succ, List.set_cons_zero, Nat.zero_add, Nat.reduceAdd] at hfr
  simp only [FreeOps]
  refine ⟨?_, ?_, ?_, ?_, ?_, ?_, ?_, ?_, ?_, ?_, ?_, ?_, ?_, ?_, ?_⟩
  · intro v w2 hC hd K hK
    rw [← hfr] at hK ⊢
    go_simp
    exact hK _ _ hC (lvPhi_stays (keep_below (Below.refl _ _))) rfl
  · intro v w2 hC hd K hK
    obtain ⟨f0, -⟩ := hd
    have e0 : v 0 = _ := f0
    obtain ⟨c0x, c2x, d0x, d1x⟩ := HC.out w2 hC
    rw [← hfr] at hK ⊢
    simp only [e0] at hK ⊢
    go_simp
    exact hK _ _ hC (lvPhi_stays (keep_below (Below.refl _ _))) rfl
  · intro v w2 hC hd K hK
    rw [← hfr] at hK ⊢
    go_simp
    exact hK _ _ hC (lvPhi_stays (keep_below (Below.refl _ _))) rfl
  · intro v w2 hC hd K hK
    rw [← hfr] at hK ⊢
    go_simp
    exact hK _ _ hC (lvPhi_stays (keep_below (Below.refl _ _))) rfl
  · intro v w2 hC hd K hK
    obtain ⟨f3, -⟩ := hd
    have e3 : v 3 = _ := f3
    obtain ⟨c0x, c2x, d0x, d1x⟩ := HC.out w2 hC
    rw [← hfr] at hK ⊢
    simp only [e3] at hK ⊢
    go_simp
    exact hK _ _ hC (lvPhi_stays (keep_below (Below.refl _ _))) rfl
  · intro v w2 hC hd K hK
    obtain ⟨f2, f4, -⟩ := hd
    have e2 : v 2 = _ := f2
    have e4 : v 4 = _ := f4
    rw [← hfr] at hK ⊢
    simp only [e2, e4] at hK ⊢
    go_simp
    refine (HCl.out w2 hC).mono ?_
    rintro e w3 ⟨rfl, rfl⟩
    exact hK _ _ hC (lvPhi_stays (keep_below (Below.refl _ _))) rfl
  · intro v w2 hC hd K hK
    obtain ⟨f1, f5, -⟩ := hd
    have e1 : v 1 = _ := f1
    have e5 : v 5 = _ := f5
    rw [← hfr] at hK ⊢
    simp only [e1, e5] at hK ⊢
    go_simp
    exact hK _ _ hC (lvPhi_stays (keep_below (Below.refl _ _))) rfl
  · intro v w2 hC hd K hK
    obtain ⟨c0x, c2x, d0x, d1x⟩ := HC.out w2 hC
    rw [← hfr] at hK ⊢
    go_simp
    exact hK _ _ hC (lvPhi_stays (keep_below (Below.refl _ _))) rfl
  · intro v w2 hC hd K hK
    obtain ⟨f6, f7, -⟩ := hd
    have e6 : v 6 = _ := f6
    have e7 : v 7 = _ := f7
    rw [← hfr] at hK ⊢
    simp only [e6, e7] at hK ⊢
    go_simp
    refine (HIn.out w2).mono ?_
    rintro e w3 ⟨rfl, hb3⟩
    exact hK _ _ (hC.trans (hb3.mono hC.size)) (lvPhi_stays (keep_below hb3)) rfl
  · intro v w2 hC hd K hK
    obtain ⟨f8, -⟩ := hd
    have e8 : v 8 = _ := f8
    rw [← hfr] at hK ⊢
    simp only [e8] at hK ⊢
    go_simp
    exact hK _ _ hC (lvPhi_stays (keep_below (Below.refl _ _))) rfl
  · intro v w2 hC hd K hK
    obtain ⟨f9, -⟩ := hd
    have e9 : v 9 = _ := f9
    rw [← hfr] at hK ⊢
    simp only [e9] at hK ⊢
    go_simp
    exact hK _ _ hC (lvPhi_stays (keep_below (Below.refl _ _))) rfl
  · intro v w2 hC hd K hK
    obtain ⟨f9, -⟩ := hd
    have e9 : v 9 = _ := f9
    rw [← hfr] at hK ⊢
    simp only [e9] at hK ⊢
    go_simp
    exact hK _ _ hC (lvPhi_stays (keep_below (Below.refl _ _))) rfl
  · intro v w2 hC hd K hK
    rw [← hfr] at hK ⊢
    go_simp
    exact hK _ _ (hC.alloc hC.size _) (lvPhi_stays (keep_below ((Below.refl _ _).alloc (Nat.le_refl _) _))) ⟨_, _, rfl, hC.size, heap_alloc_new _ _, rfl⟩
  · intro v w2 hC hd K hK
    obtain ⟨⟨g, cs, f12, hg, hrow, hcs⟩, f10, -⟩ := hd
    have e10 : v 10 = _ := f10
    refine wp_store_row _ _ _ rfl g #[.int .i64 m0, .int .i64 m1] (by rw [← hfr]; exact f12) (by rw [← hfr]; exact e10) 26 cs hrow (by kernel_rfl) hcs (by simp [Value.oneCell']) ?_
    exact hK _ _ (below_setRow1 hC hg _) (lvPhi_stays (keep_setRow hrow rfl)) trivial
  · intro v w2 hC hall
    have e11 : v 11 = _ := hall.1.1.2
    rw [← hfr]
    simp only [e11]
    go_simp
    generalize v 0 = y0, v 1 = y1, v 2 = y2, v 3 = y3, v 4 = y4, v 5 = y5, v 6 = y6, v 7 = y7, v 8 = y8, v 9 = y9, v 10 = y10, v 12 = y12
    clear e11 hall hfr v
    go_wp2
    go_ret
    exact ⟨rfl, Hw0.out.trans (hC.mono Hw0.out.size)⟩

/-- A cycle and an error. -/
def OfTo (r : (Int × Int) × Int) (w : World) (e : Ending) (w' : World) : Prop := e = .returned (.tuple #[.agg #[.int .i64 r.1.1, .int .i64 r.1.2], .int .i64 r.2]) ∧ Below w.heap.size w w'
set_option maxRecDepth 100000 in
set_option maxHeartbeats 6400000 in
theorem rof_calls (v : Value) (l : List Ev) (n t m : Int) (w : World) (h : EvsAt w v l) (hok : CycOk l) (hm : ∀ o, openE l n = some o → 0 ≤ t → t < 12622780800 → IsMo o.vl t m) :
    Calls Try.prog 11 #[v, .int .i64 n, .int .i64 t] w (OfTo (ofV l n t m) w) := by
  have hh := h
  have HI := Lib.hid (instant_calls t ·)
  have HO := Lib.hid (fun Y (hY : Below w.heap.size w Y) => opened_calls v l n Y (hh.below hY))
  have HL := Lib.hid (fun o c0 c1 Y (hY : Below w.heap.size w Y) => rlives_calls v l o c0 c1 Y (hh.below hY))
  obtain ⟨av, cap, rfl, -, -⟩ := rec_shape h.1
  obtain ⟨A, hA⟩ : ∃ A, A = w.alloc (Obj.cells #[.int .i64 0, .int .i64 0] 26) := ⟨_, rfl⟩
  have hbA : Below w.heap.size w A := by rw [hA]; go_grown
  have rA : A.heap[w.heap.size]? = some (Obj.cells #[.int .i64 0, .int .i64 0] 26) := by rw [hA]; exact heap_alloc_new _ _
  have HA := Lib.hid hA
  have HbA := Lib.hid hbA
  have HrA := Lib.hid rA
  have hzA : w.heap.size < A.heap.size := by rw [hA]; simp
  have a0 := cell_of_row A _ 0 _ _ _ rA
  have a1 := cell_of_row A _ 1 _ _ _ rA
  have af0 := frozen_of_row A _ 0 _ _ rA
  have af1 := frozen_of_row A _ 1 _ _ rA
  clear hA hbA rA h hh
  cases hi : (decide (0 ≤ t) && decide (t < 12622780800)) with
  | false =>
    rw [hi] at HI
    have HV := Lib.hid (show ofV l n t m = ((0, 0), 15) by
      unfold ofV
      rw [if_pos (fun hc => by rw [decide_eq_true hc.1, decide_eq_true hc.2] at hi; cases hi)])
    rw [HV.out]
    clear hi
    go_enter Try.func11, Try.ntmps11
    go_upto_region 1 with (fail)
    rw [← HA.out]
    go_wp2_with (go_at_call 26; refine (HI.out _).mono ?_; rintro e w1 ⟨rfl, rfl⟩)
    refine bodyPost_ret (v := .tuple #[.agg #[.int .i64 0, .int .i64 0], .int .i64 15]) (by simp [results, Try.results11, go_sem, a0, a1]) rfl ⟨rfl, ?_⟩
    exact (HbA.out.setCell (Nat.le_refl _) _).setCell (Nat.le_refl _) _
  | true =>
    rw [hi] at HI
    rw [Bool.and_eq_true, decide_eq_true_eq, decide_eq_true_eq] at hi
    obtain ⟨t0, t1⟩ := hi
    have HO1 := Lib.hid (HO.out A HbA.out)
    cases ho : openE l n with
    | none =>
      have HV := Lib.hid (show ofV l n t m = ((0, 0), 11) by unfold ofV; rw [if_neg (not_not_intro ⟨t0, t1⟩), ho])
      rw [HV.out]
      have HO2 := Lib.hid (show Calls Try.prog 27 #[.slice av l.length cap, .int .i64 n] A fun e w' => e = .returned (.tuple #[.agg #[.int .i64 0, .int .i64 0, .int .i64 0, .int .i64 0, .string ⟨#[]⟩, .string ⟨#[]⟩, .int .i64 0], .bool false]) ∧ Below A.heap.size A w' from by
        have h := HO1.out
        rw [ho] at h
        exact h)
      clear ho HO1
      go_enter Try.func11, Try.ntmps11
      go_upto_region 1 with (fail)
      rw [← HA.out]
      go_wp2_with (go_at_call 26; refine (HI.out _).mono ?_; rintro e w1 ⟨rfl, rfl⟩)
      refine HO2.out.mono ?_
      rintro e w1 ⟨rfl, hb1⟩
      obtain ⟨X, hX⟩ : ∃ X, X = w1.alloc (Obj.cells #[.int .i64 0, .int .i64 0, .int .i64 0, .int .i64 0, .string ⟨#[]⟩, .string ⟨#[]⟩, .int .i64 0] 55) := ⟨_, rfl⟩
      have hbX : Below w1.heap.size w1 X := by rw [hX]; go_grown
      have rX := (hbX.block _ (by have := hb1.size; omega)).trans ((hb1.block _ hzA).trans HrA.out)
      have x0 := cell_of_row X _ 0 _ _ _ rX
      have x1 := cell_of_row X _ 1 _ _ _ rX
      have xf0 := frozen_of_row X _ 0 _ _ rX
      have xf1 := frozen_of_row X _ 1 _ _ rX
      have HwX := Lib.hid (HbA.out.trans ((hb1.trans (hbX.mono hb1.size)).mono HbA.out.size))
      have HX := Lib.hid hX
      clear hX hbX rX a0 a1 af0 af1 hb1
      go_upto_region 4 with (fail)
      rw [← HX.out]
      go_wp2
      refine bodyPost_ret (v := .tuple #[.agg #[.int .i64 0, .int .i64 0], .int .i64 11]) (by simp [results, Try.results11, go_sem, x0, x1]) rfl ⟨rfl, ?_⟩
      exact (HwX.out.setCell (Nat.le_refl _) _).setCell (Nat.le_refl _) _
    | some o =>
      obtain ⟨hmem, hk1, hac⟩ := openE_some ho
      obtain ⟨o0, o1, ov1, ov2⟩ := open_bd hok hmem hk1
      have hmo := hm o ho t0 t1
      have hcb1 := beg_bd (m := m) ov1 ov2
      have hcb2 := beg_bd (m := m + 1) ov1 ov2
      have HV := Lib.hid (show ofV l n t m = if (cyc o.vl m).2 ≤ o.tm then ((0, 0), 11) else if meetsL o.tm (closeT l n) (cyc o.vl m) = true then (cyc o.vl m, 0) else ((0, 0), 17) by unfold ofV; rw [if_neg (not_not_intro ⟨t0, t1⟩), ho])
      rw [HV.out]
      have HO2 := Lib.hid (show Calls Try.prog 27 #[.slice av l.length cap, .int .i64 n] A fun e w' => e = .returned (.tuple #[evVal o, .bool true]) ∧ Below A.heap.size A w' from by
        have h := HO1.out
        rw [ho] at h
        exact h)
      have HCy := Lib.hid (fun Y => rcycle_calls o.vl t m Y ov1 ov2 t0 t1 hmo)
      have HMe := Lib.hid (show meetB o.tm (closeT l o.ac) (cyc o.vl m).1 (cyc o.vl m).2 = meetsL o.tm (closeT l n) (cyc o.vl m) by
        rw [hac]
        exact meetB_meets o0 (closeT_bd hok n).2 hcb1.1 hcb2.2)
      have HLv := Lib.hid (fun Y hY => HL.out o (cyc o.vl m).1 (cyc o.vl m).2 Y hY)
      rw [HMe.out] at HLv
      generalize meetsL o.tm (closeT l n) (cyc o.vl m) = mb at *
      generalize cyc o.vl m = c at *
      obtain ⟨c0, c1⟩ := c
      dsimp only at HCy HLv ⊢
      obtain ⟨rv, hrv⟩ : ∃ rv : (Int × Int) × Int, rv = if c1 ≤ o.tm then ((0, 0), 11) else if mb = true then ((c0, c1), 0) else ((0, 0), 17) := ⟨_, rfl⟩
      rw [← hrv]
      have Hrv := Lib.hid hrv
      clear hrv
      unfold evVal at HO2 HLv
      clear ho HO1 HV HMe hmo hok hm hmem hk1 hac HL HO
      go_enter Try.func11, Try.ntmps11
      go_upto_region 1 with (fail)
      rw [← HA.out]
      go_wp2_with (go_at_call 26; refine (HI.out _).mono ?_; rintro e w1 ⟨rfl, rfl⟩)
      refine HO2.out.mono ?_
      rintro e w1 ⟨rfl, hb1⟩
      obtain ⟨X, hX⟩ : ∃ X, X = w1.alloc (Obj.cells #[.int .i64 o.tm, .int .i64 o.kd, .int .i64 o.ac, .int .i64 o.sb, .string o.nu, .string o.nm, .int .i64 o.vl] 55) := ⟨_, rfl⟩
      have hbX : Below w1.heap.size w1 X := by rw [hX]; go_grown
      have rX0 := (hbX.block _ (by have := hb1.size; omega)).trans ((hb1.block _ hzA).trans HrA.out)
      have rX1 : X.heap[w1.heap.size]? = some (Obj.cells #[.int .i64 o.tm, .int .i64 o.kd, .int .i64 o.ac, .int .i64 o.sb, .string o.nu, .string o.nm, .int .i64 o.vl] 55) := by rw [hX]; exact heap_alloc_new _ _
      have hlt1 : w1.heap.size < X.heap.size := by rw [hX]; simp
      have hlt0 : w.heap.size < w1.heap.size := by have := hb1.size; omega
      have x6 := cell_of_row X _ 6 _ _ _ rX1
      have HwX := Lib.hid (HbA.out.trans ((hb1.trans (hbX.mono hb1.size)).mono HbA.out.size))
      have HX := Lib.hid hX
      have RX0 := Lib.hid rX0
      have RX1 := Lib.hid rX1
      clear hX hbX rX0 rX1 a0 a1 af0 af1 hb1
      go_upto_region 4 with (fail)
      rw [← HX.out]
      go_wp2_with fail
      refine (HCy.out X).mono ?_
      rintro e w2 ⟨rfl, hb2⟩
      obtain ⟨Y, hY⟩ : ∃ Y, Y = w2.alloc (Obj.cells #[.int .i64 c0, .int .i64 c1] 26) := ⟨_, rfl⟩
      have hbY : Below w2.heap.size w2 Y := by rw [hY]; go_grown
      have hb2s := hb2.size
      have rY0 := (hbY.block _ (by omega)).trans ((hb2.block _ (by omega)).trans RX0.out)
      have rY1 := (hbY.block _ (by omega)).trans ((hb2.block _ hlt1).trans RX1.out)
      have rY2 : Y.heap[w2.heap.size]? = some (Obj.cells #[.int .i64 c0, .int .i64 c1] 26) := by rw [hY]; exact heap_alloc_new _ _
      have hlt2 : w2.heap.size < Y.heap.size := by rw [hY]; simp
      have y0 := cell_of_row Y _ 0 _ _ _ rY1
      have y1 := cell_of_row Y _ 1 _ _ _ rY1
      have y2 := cell_of_row Y _ 2 _ _ _ rY1
      have y3 := cell_of_row Y _ 3 _ _ _ rY1
      have y4 := cell_of_row Y _ 4 _ _ _ rY1
      have y5 := cell_of_row Y _ 5 _ _ _ rY1
      have y6 := cell_of_row Y _ 6 _ _ _ rY1
      have z0 := cell_of_row Y _ 0 _ _ _ rY2
      have z1 := cell_of_row Y _ 1 _ _ _ rY2
      have r0 := cell_of_row Y _ 0 _ _ _ rY0
      have r1 := cell_of_row Y _ 1 _ _ _ rY0
      have rf0 := frozen_of_row Y _ 0 _ _ rY0
      have rf1 := frozen_of_row Y _ 1 _ _ rY0
      have HwY := Lib.hid (HwX.out.trans ((hb2.trans (hbY.mono hb2.size)).mono HwX.out.size))
      have HY := Lib.hid hY
      have RY0 := Lib.hid rY0
      have RY2 := Lib.hid rY2
      have hltw : w.heap.size < Y.heap.size := by omega
      clear hY hbY rY0 rY1 rY2 hb2 x6
      go_upto_region 7 with (fail)
      rw [← HY.out]
      by_cases hc : c1 ≤ o.tm
      · have HRv := Lib.hid (Hrv.out.trans (if_pos hc))
        go_wp2
        refine bodyPost_ret (v := .tuple #[.agg #[.int .i64 0, .int .i64 0], .int .i64 11]) (by simp [results, Try.results11, go_sem, r0, r1]) rfl ⟨by rw [HRv.out], ?_⟩
        exact (HwY.out.setCell (Nat.le_refl _) _).setCell (Nat.le_refl _) _
      · have HRv := Lib.hid (Hrv.out.trans (if_neg hc))
        go_wp2_with fail
        refine (HLv.out Y HwY.out).mono ?_
        rintro e w3 ⟨rfl, hb3⟩
        have q0 := (hb3.block _ hltw).trans RY0.out
        have q2 := (hb3.block _ hlt2).trans RY2.out
        have s0 := cell_of_row w3 _ 0 _ _ _ q0
        have s1 := cell_of_row w3 _ 1 _ _ _ q0
        have sf0 := frozen_of_row w3 _ 0 _ _ q0
        have sf1 := frozen_of_row w3 _ 1 _ _ q0
        have u0 := cell_of_row w3 _ 0 _ _ _ q2
        have u1 := cell_of_row w3 _ 1 _ _ _ q2
        have Hw3 := Lib.hid (HwY.out.trans (hb3.mono HwY.out.size))
        have hne : ¬ w2.heap.size = w.heap.size := by omega
        have hne2 : ¬ w.heap.size = w2.heap.size := by omega
        clear hb3 q0 q2 r0 r1 rf0 rf1 y0 y1 y2 y3 y4 y5 y6 z0 z1
        cases mb with
        | true =>
          go_wp2
          refine bodyPost_ret (v := .tuple #[.agg #[.int .i64 c0, .int .i64 c1], .int .i64 0]) (by simp [results, Try.results11, go_sem, s0, s1]) rfl ⟨by rw [HRv.out]; rfl, ?_⟩
          exact (Hw3.out.setCell (Nat.le_refl _) _).setCell (Nat.le_refl _) _
        | false =>
          go_wp2
          refine bodyPost_ret (v := .tuple #[.agg #[.int .i64 0, .int .i64 0], .int .i64 17]) (by simp [results, Try.results11, go_sem, s0, s1]) rfl ⟨by rw [HRv.out]; rfl, ?_⟩
          exact (Hw3.out.setCell (Nat.le_refl _) _).setCell (Nat.le_refl _) _
end Go.Proofs.Ytmilpaibkemmdaa
