/-
  The walks of slices.IndexFunc and slices.DeleteFunc at periods.
  The walk of slices.DeleteFunc at periods.
  The walks of the cycles of a life.
  The walk of cycle.Of.
  The walk of cycle.List.
-/
import Derived.Test.YtmilpaibkemmdaaMgbm
import Derived.Test.YtmilpaibkemmdaaMgau
import Derived.Test.YtmilpaibkemmdaaMgaj
import Derived.Lib.SliceRun
namespace Go.Proofs.Ytmilpaibkemmdaa
open Go.RowKit

theorem any_snoc_false {α : Type} {p : α → Bool} {l : List α} {k : Nat} (hk : k < l.length) (h : (l.take k).any p = false) (h2 : p l[k] = false) : (l.take (k + 1)).any p = false := by
  rw [List.take_succ_eq_append_getElem hk, List.any_append, h]
  simp [h2]
set_option maxRecDepth 100000 in
set_option maxHeartbeats 1600000 in
theorem indexP_calls (v : Value) (l : List (Int × Int)) (w : World) (h : RecAt perCells 2 w v l) (p : Int × Int → Bool) (g : Nat) (lb : Array Value) (eg : ∀ args w, (callFunc g args).run Try.prog w = .ok (.enter g args) w)
    (hp : ∀ (W : World) (x : Int × Int), Below w.heap.size w W → x ∈ l → Calls Try.prog g (#[.agg #[.int .i64 x.1, .int .i64 x.2]] ++ lb) W fun e w' => e = .returned (.bool (p x)) ∧ Below W.heap.size W w') :
    Calls Try.prog 63 #[v, .func (.func g) #[] lb] w fun e w' => e = .returned (.int .i64 (ixOf p l)) ∧ Below w.heap.size w w' := by
  have hh := h
  obtain ⟨av, cap, rfl, hlc, hm, -⟩ := h
  have hm := hm.1
  unfold maxLen at hm
  have Hp := Lib.hid hp
  clear hp
  go_enter Try.func63, Try.ntmps63
  go_wp2_with fail
  go_loopw [5, 8] (fun _ i wr => ∃ k : Nat, k ≤ l.length ∧ i = .int .i64 k ∧ (l.take k).any p = false ∧ Below w.heap.size w wr) (fun _ i _ => l.length - (intOf i).toNat)
  case atStart => exact ⟨0, Nat.zero_le _, rfl, rfl, Below.refl _ _⟩
  case round =>
    obtain ⟨k, hk, rfl, hn, hb⟩ := hrel
    have Hn := Lib.hid hn
    clear hn
    by_cases hlt : k < l.length
    · obtain ⟨av2, cap2, e2, -, -, hx⟩ := hh.below hb
      cases e2
      obtain ⟨b, o, rfl, hB, hx⟩ := hx (by rintro rfl; cases hlt)
      have c0 : wr.cell? ⟨b, o + k * 2, none⟩ = some (.int .i64 (l[k]).1) := hx k hlt 0 (by decide)
      have c1 : wr.cell? ⟨b, o + k * 2 + 1, none⟩ = some (.int .i64 (l[k]).2) := hx k hlt 1 (by decide)
      have hk0 : (0 : Int) ≤ (k : Int) := Int.natCast_nonneg _
      have hk1 : (k : Int) < (l.length : Int) := by omega
      have HF := Lib.hid (fun h2 => any_snoc_false (p := p) hlt Hn.out h2)
      have HT := Lib.hid (fun h2 => ixOf_hit (p := p) hlt Hn.out h2)
      have hcall := Hp.out wr l[k] hb (List.getElem_mem hlt)
      clear hx
      generalize l[k] = y at *
      obtain ⟨y0, y1⟩ := y
      dsimp only at c0 c1 hcall
      cases hE : p (y0, y1) with
      | true =>
        rw [hE] at hcall
        have Hcall := Lib.hid hcall
        clear hcall
        have Hb := Lib.hid hb
        go_wp2_with fail
        refine Hcall.out.mono ?_
        rintro e w' ⟨rfl, hb'⟩
        have Hb' := Lib.hid hb'
        clear hb'
        have HI := Lib.hid (HT.out hE)
        go_wp2
        go_ret
        exact ⟨ret_int HI.out.symm, Hb.out.trans (Hb'.out.mono Hb.out.size)⟩
      | false =>
        rw [hE] at hcall
        have Hcall := Lib.hid hcall
        clear hcall
        have Hb := Lib.hid hb
        go_wp2_with fail
        refine Hcall.out.mono ?_
        rintro e w' ⟨rfl, hb'⟩
        have Hb' := Lib.hid hb'
        clear hb'
        go_wp2
        exact ⟨⟨k + 1, by omega, by go_num, HF.out hE, Hb.out.trans (Hb'.out.mono Hb.out.size)⟩, by simp [intOf]; omega⟩
    · have HE := Lib.hid (ixOf_end (p := p) (by omega) Hn.out)
      go_wp2
      go_ret
      exact ⟨ret_int HE.out.symm, hb⟩

theorem clear_pers (w : World) (ty : TypeId) (b o n c : Nat) (hn : 0 < n) (hc : ∀ j, j < n * 2 → (w.cell? ⟨b, o + j, none⟩).isSome = true) (hf : ∀ j, j < n * 2 → w.frozen? ⟨b, o + j, none⟩ = false) :
    (Builtin.clear_ #[39] ty #[.slice (some ⟨b, o, none⟩) n c]).run Try.prog w = .ok (.tuple #[]) (w.setCells b o (Builtin.zeroCells #[.int .i64 0, .int .i64 0] n).toList) := by
  have hl : (Builtin.zeroCells #[Value.int .i64 0, .int .i64 0] n).toList.length = n * 2 := by simp [Builtin.zeroCells]
  have h1 : ∀ v ∈ (Builtin.zeroCells #[Value.int .i64 0, .int .i64 0] n).toList, v.oneCell' = true := by
    intro v hv
    simp only [Builtin.zeroCells, Array.toList_map, List.mem_map] at hv
    obtain ⟨i, -, rfl⟩ := hv
    have : i % 2 = 0 ∨ i % 2 = 1 := by omega
    rcases this with h | h <;> simp [h, Value.oneCell']
  have hst := run_storeCells_cells (P := Try.prog) b o (Builtin.zeroCells #[Value.int .i64 0, .int .i64 0] n).toList 0 w (by rw [hl]; simpa using hc) (by rw [hl]; simpa using hf) h1
  simp only [Nat.add_zero] at hst
  obtain ⟨m, rfl⟩ : ∃ m, n = m + 1 := ⟨n - 1, by omega⟩
  simp [Builtin.clear_, run_underlying Try.underlying39, Value.cells, hst]
/-- The first records of an owned row. -/
theorem rec_front {α : Type} {c : α → List Value} {sz : Nat} (hc : ∀ a, (c a).length = sz) {w : World} {base : Nat} {e : TypeId} {g cap n : Nat} {xs : List Value} (h : w.ownsRow base e sz (.slice (some ⟨g, 0, none⟩) n cap) n xs)
    (K : List α) (hK : K.length ≤ n) (hx : ∀ t, t < K.length * sz → xs[t]? = (K.flatMap c)[t]?) : RecAt c sz w (.slice (some ⟨g, 0, none⟩) K.length cap) K := by
  rcases h.2 with ⟨h0, -⟩ | ⟨g', cap', cur, hv, -, hg, hn, hm, -, -⟩
  · cases h0
  cases hv
  refine ⟨_, cap, rfl, by omega, ⟨hm, fun h => by cases h⟩, fun _ => ⟨g, 0, rfl, (Array.getElem?_eq_some_iff.1 hg).1, fun i hi j hj => ?_⟩⟩
  have h1 : (i + 1) * sz ≤ K.length * sz := Nat.mul_le_mul_right _ hi
  have h2 : K.length * sz ≤ n * sz := Nat.mul_le_mul_right _ hK
  rw [Nat.succ_mul] at h1
  rw [Nat.zero_add, h.cellAt _ (by omega), hx _ (by omega), flat_get c sz hc K i j hi hj]

/-- A row of which some were struck out. -/
def DelInv (keep : Int × Int → Bool) (L R : List (Int × Int)) (i j : Nat) : Prop := i < j ∧ R.length = L.length ∧ R.take i = (L.take j).filter keep ∧ R.drop j = L.drop j
theorem DelInv.at {keep : Int × Int → Bool} {L R : List (Int × Int)} {i j : Nat} (h : DelInv keep L R i j) (hj : j < L.length) : R[j]? = some L[j] := by
  have h1 := congrArg (fun z => z[0]?) h.2.2.2
  simpa [List.getElem?_drop, List.getElem?_eq_getElem hj] using h1
theorem DelInv.keep {keep : Int × Int → Bool} {L R : List (Int × Int)} {i j : Nat} (h : DelInv keep L R i j) (hj : j < L.length) (hk : keep L[j] = true) : DelInv keep L (R.set i L[j]) (i + 1) (j + 1) := by
  obtain ⟨h1, h2, h3, h4⟩ := h
  have hi : i < R.length := by omega
  refine ⟨by omega, by rw [List.length_set]; exact h2, ?_, ?_⟩
  · rw [filter_take _ _ _ hj, if_pos hk, ← h3, List.take_succ_eq_append_getElem (by rw [List.length_set]; exact hi), List.getElem_set_self, List.take_set_of_le (Nat.le_refl _)]
  · rw [List.drop_set_of_lt (by omega), ← List.tail_drop, h4, List.tail_drop]
theorem DelInv.skip {keep : Int × Int → Bool} {L R : List (Int × Int)} {i j : Nat} (h : DelInv keep L R i j) (hj : j < L.length) (hk : keep L[j] = false) : DelInv keep L R i (j + 1) := by
  obtain ⟨h1, h2, h3, h4⟩ := h
  refine ⟨by omega, h2, ?_, ?_⟩
  · rw [filter_take _ _ _ hj, hk, if_neg (by decide), h3]
  · rw [← List.tail_drop, h4, List.tail_drop]
theorem DelInv.start {p : Int × Int → Bool} {L : List (Int × Int)} {k : Nat} (hk : k < L.length) (h1 : p L[k] = true) (h2 : (L.take k).any p = false) : DelInv (fun x => !p x) L L k (k + 1) := by
  refine ⟨by omega, rfl, ?_, rfl⟩
  rw [filter_take _ _ _ hk, if_neg (by simp [h1]), List.filter_eq_self.2]
  intro x hx
  have := List.any_eq_false.1 h2 x hx
  simpa using this
end Go.Proofs.Ytmilpaibkemmdaa

namespace Go.Proofs.Ytmilpaibkemmdaa
open Go.RowKit

/-- A slice that lies in a row of a type. -/
def RowT (t : TypeId) (base : Nat) (w : World) (v : Value) : Prop := ∀ g, v.ownBlock = some g → base ≤ g ∧ ∃ cs fr, w.heap[g]? = some (Obj.cells cs t fr)
theorem RowT.own {t : TypeId} {base sz n : Nat} {w : World} {v : Value} {xs : List Value} (h : w.ownsRow base t sz v n xs) : RowT t base w v := fun g hg => by
  rcases h.2 with ⟨rfl, -⟩ | ⟨g', cap, cur, rfl, hb, hc, -⟩
  · cases hg
  · cases hg
    exact ⟨hb, cur, _, hc⟩
theorem RowT.cut {t : TypeId} {base : Nat} {w : World} {a : Option Addr} {n n' c c' : Nat} (h : RowT t base w (.slice a n c)) : RowT t base w (.slice a n' c') := by
  cases a with
  | none => intro g hg; cases hg
  | some ad => intro g hg; exact h g hg
theorem RowT.down {t : TypeId} {base b' : Nat} {w : World} {v : Value} (h : RowT t base w v) (hb : b' ≤ base) : RowT t b' w v := fun g hg => ⟨Nat.le_trans hb (h g hg).1, (h g hg).2⟩
/-- Periods in memory, of which some were struck out. -/
def DelTo (base : Nat) (w : World) (K : List (Int × Int)) (e : Ending) (w' : World) : Prop := ∃ v, e = .returned v ∧ RecAt perCells 2 w' v K ∧ RowT 26 base w' v ∧ Below base w w'
set_option maxRecDepth 100000 in
set_option maxHeartbeats 6400000 in
theorem deleteP_calls (v : Value) (L : List (Int × Int)) (base : Nat) (w : World) (hown : w.ownsRow base 26 2 v L.length (L.flatMap perCells)) (hbase : base ≤ w.heap.size) (p : Int × Int → Bool) (g : Nat) (lb : Array Value) (eg : ∀ args w, (callFunc g args).run Try.prog w = .ok (.enter g args) w)
    (hp : ∀ (W : World) (x : Int × Int), Below base w W → x ∈ L → Calls Try.prog g (#[.agg #[.int .i64 x.1, .int .i64 x.2]] ++ lb) W fun e w' => e = .returned (.bool (p x)) ∧ Below W.heap.size W w') :
    Calls Try.prog 45 #[v, .func (.func g) #[] lb] w (DelTo base w (L.filter fun x => !p x)) := by
  have HI := Lib.hid (indexP_calls v L w (RecAt.own (fun _ => rfl) hown) p g lb eg (fun W x hb hx => hp W x (hb.mono hbase) hx))
  have Hp := Lib.hid hp
  obtain ⟨av, cap, rfl, hlc, hcm⟩ := own_shape hown
  have Hown := Lib.hid hown
  have hcm2 := hcm
  unfold maxLen at hcm2
  clear hp
  rcases ixOf_cases p L with ⟨e1, hall⟩ | ⟨k0, hk0, e1, hp0, hn0⟩
  · have HF := Lib.hid (show L.filter (fun x => !p x) = L from List.filter_eq_self.2 fun x hx => by
      have := List.any_eq_false.1 hall x hx
      simpa using this)
    rw [HF.out]
    rw [e1] at HI
    clear e1 hall hown
    go_enter Try.func45, Try.ntmps45
    go_wp2_with fail
    refine HI.out.mono ?_
    rintro e w1 ⟨rfl, hb1⟩
    have Hb1 := Lib.hid hb1
    clear hb1
    go_wp2
    go_ret
    exact ⟨_, rfl, RecAt.own (fun _ => rfl) (ownsRow_below Hown.out Hb1.out), RowT.own (ownsRow_below Hown.out Hb1.out), Hb1.out.mono hbase⟩
  · rw [e1] at HI
    have hne : L ≠ [] := by rintro rfl; cases hk0
    have hne1 : ((k0 : Int) == -1) = false := beq_eq_false_iff_ne.2 (by omega)
    rcases hown.2 with ⟨-, h0⟩ | ⟨g0, cap', cur, hv, hgb, -, -, -, -, -⟩
    · exact absurd (List.length_eq_zero_iff.1 h0) hne
    cases hv
    have HS := Lib.hid (DelInv.start hk0 hp0 hn0)
    obtain ⟨kp, hkp⟩ : ∃ kp : Int × Int → Bool, kp = fun x => !p x := ⟨_, rfl⟩
    rw [← hkp] at HS ⊢
    have HKp := Lib.hid hkp
    clear e1 hp0 hn0 hown hkp hcm
    go_enter Try.func45, Try.ntmps45
    go_wp2_with fail
    refine HI.out.mono ?_
    rintro e w1 ⟨rfl, hb1⟩
    have Hb1 := Lib.hid (hb1.mono hbase)
    have Hown1 := Lib.hid (ownsRow_below Hown.out hb1)
    clear hb1 HI
    go_wp2_with fail
    go_loopg [5, 6] L.length (fun gg s5 s6 wr => ∃ (i j : Nat) (R : List (Int × Int)), s5 = .int .i64 i ∧ s6 = .int .i64 j ∧ j ≤ L.length ∧ L.length - j ≤ gg ∧ DelInv kp L R i j ∧ wr.ownsRow base 26 2 (.slice (some ⟨g0, 0, none⟩) L.length cap) L.length (R.flatMap perCells) ∧ Below base w wr)
    case atStart => exact ⟨k0, k0 + 1, L, rfl, by go_num, by omega, by omega, HS.out, Hown1.out, Hb1.out⟩
    case round =>
      obtain ⟨wo, rfl⟩ : ∃ wo : World, wo = wr := ⟨_, rfl⟩
      obtain ⟨i, j, R, rfl, rfl, hjd, hgg, hinv, hown, hb⟩ := hrel
      have Hinv := Lib.hid hinv
      have Hown2 := Lib.hid hown
      have Hb := Lib.hid hb
      have hij := hinv.1
      have hRl := Lib.hid hinv.2.1
      have hi0 : (0 : Int) ≤ (i : Int) := Int.natCast_nonneg _
      have hj0 : (0 : Int) ≤ (j : Int) := Int.natCast_nonneg _
      have hbo := hb.size
      clear hown hb hinv
      by_cases hlt : j < L.length
      · have hltz : (j : Int) < (L.length : Int) := by omega
        have hiz : (i : Int) < (L.length : Int) := by omega
        have hjR : j < R.length := by rw [hRl.out]; exact hlt
        have g00 : (R.flatMap perCells)[j * 2]? = (perCells R[j])[0]? := by
          have h := flat_get perCells 2 (fun _ => rfl) R j 0 hjR (by decide)
          rwa [Nat.add_zero] at h
        have c0 := (Hown2.out.cellAt (j * 2) (by omega)).trans g00
        have c1 := (Hown2.out.cellAt (j * 2 + 1) (by omega)).trans (flat_get perCells 2 (fun _ => rfl) R j 1 hjR (by decide))
        have ea : R[j] = L[j] := by
          have := Hinv.out.at hlt
          rw [List.getElem?_eq_getElem hjR] at this
          exact Option.some.inj this
        rw [ea] at c0 c1
        clear ea g00
        have hcall := fun W hb => Hp.out W L[j] hb (List.getElem_mem hlt)
        have HK := Lib.hid (Hinv.out.keep hlt)
        have HSk := Lib.hid (Hinv.out.skip hlt)
        have hkx : kp L[j] = !p L[j] := by rw [HKp.out]
        generalize L[j] = x at *
        obtain ⟨x0, x1⟩ := x
        replace c0 : wo.cell? ⟨g0, j * 2, none⟩ = some (.int .i64 x0) := c0
        replace c1 : wo.cell? ⟨g0, j * 2 + 1, none⟩ = some (.int .i64 x1) := c1
        dsimp only at hcall
        have hwX : Below base w (wo.alloc (Obj.cells #[.int .i64 x0, .int .i64 x1] 26)) := Hb.out.alloc (by omega) _
        have Hcall := Lib.hid (hcall _ hwX)
        obtain ⟨X, hX⟩ : ∃ X, X = wo.alloc (Obj.cells #[.int .i64 x0, .int .i64 x1] 26) := ⟨_, rfl⟩
        rw [← hX] at Hcall hwX
        have rX : X.heap[wo.heap.size]? = some (Obj.cells #[.int .i64 x0, .int .i64 x1] 26) := by rw [hX]; exact heap_alloc_new _ _
        have HX := Lib.hid hX
        have HownX := Lib.hid (show X.ownsRow base 26 2 (.slice (some ⟨g0, 0, none⟩) L.length cap) L.length (R.flatMap perCells) by rw [hX]; exact Hown2.out.alloc _)
        have hXs : wo.heap.size < X.heap.size := by rw [hX]; simp
        have xc0 := cell_of_row X _ 0 _ _ _ rX
        have xc1 := cell_of_row X _ 1 _ _ _ rX
        have HrX := Lib.hid rX
        have HwX := Lib.hid hwX
        clear hX rX hcall hwX
        cases hq : p (x0, x1) with
        | false =>
          rw [hq] at Hcall hkx
          have HN := Lib.hid (HK.out hkx)
          clear HK HSk hkx hq
          go_upto_region 2 with (fail)
          rw [← HX.out]
          go_wp2_with fail
          refine Hcall.out.mono ?_
          rintro e w2 ⟨rfl, hb2⟩
          have HB2 := Lib.hid (HwX.out.trans (hb2.mono (by have := HwX.out.size; omega)))
          have Own2 := Lib.hid (ownsRow_below HownX.out hb2)
          have re := (hb2.block wo.heap.size hXs).trans HrX.out
          have y0 := cell_of_row w2 _ 0 _ _ _ re
          have y1 := cell_of_row w2 _ 1 _ _ _ re
          have hiR : i < R.length := by rw [hRl.out]; omega
          have g0i : (R.flatMap perCells)[i * 2]? = (perCells R[i])[0]? := by
            have h := flat_get perCells 2 (fun _ => rfl) R i 0 hiR (by decide)
            rwa [Nat.add_zero] at h
          have d0 : w2.cell? ⟨g0, i * 2, none⟩ = some (.int .i64 (R[i]).1) := (Own2.out.cellAt (i * 2) (by omega)).trans g0i
          have d1 : w2.cell? ⟨g0, i * 2 + 1, none⟩ = some (.int .i64 (R[i]).2) := (Own2.out.cellAt (i * 2 + 1) (by omega)).trans (flat_get perCells 2 (fun _ => rfl) R i 1 hiR (by decide))
          have f0 := Own2.out.frozenAt (i * 2)
          have f1 := Own2.out.frozenAt (i * 2 + 1)
          obtain ⟨so, sg⟩ := own_setCells (perCells (x0, x1)) _ (i * 2) _ Own2.out
          rw [flat_setR (c := perCells) (sz := 2) (fun _ => rfl) R i (x0, x1) hiR] at so
          have SO := Lib.hid so
          have SG := Lib.hid ((HB2.out.grown sg (by have := HB2.out.size; omega) (fun k e => by cases e; exact hgb)))
          clear hb2 re g0i so sg c0 c1 xc0 xc1
          generalize R[i] = ri at d0 d1
          go_wp2
          go_roundg (L.length - (j + 1))
          case measure => omega
          case rel => exact ⟨i + 1, j + 1, R.set i (x0, x1), by go_num, by go_num, by omega, Nat.le_refl _, HN.out, SO.out, SG.out⟩
        | true =>
          rw [hq] at Hcall hkx
          have HN := Lib.hid (HSk.out hkx)
          clear HK HSk hkx hq
          go_upto_region 2 with (fail)
          rw [← HX.out]
          go_wp2_with fail
          refine Hcall.out.mono ?_
          rintro e w2 ⟨rfl, hb2⟩
          have HB2 := Lib.hid (HwX.out.trans (hb2.mono (by have := HwX.out.size; omega)))
          have Own2 := Lib.hid (ownsRow_below HownX.out hb2)
          clear hb2 c0 c1 xc0 xc1
          go_wp2
          go_roundg (L.length - (j + 1))
          case measure => omega
          case rel => exact ⟨i, j + 1, R, rfl, by go_num, by omega, Nat.le_refl _, HN.out, Own2.out, HB2.out⟩
      · obtain rfl : j = L.length := by omega
        have hltz : ¬ (L.length : Int) < (L.length : Int) := by omega
        have hci : ¬ cap = i := by omega
        have hcl := clear_pers wo 0 g0 (i * 2) (L.length - i) (cap - i) (by omega) (fun t ht => by rw [Hown2.out.cellAt _ (by omega), List.getElem?_eq_getElem (by rw [Hown2.out.1]; omega)]; rfl) (fun t _ => Hown2.out.frozenAt _)
        obtain ⟨so, sg⟩ := own_setCells (Builtin.zeroCells #[Value.int .i64 0, .int .i64 0] (L.length - i)).toList _ (i * 2) _ Hown2.out
        have hKl : (L.filter kp).length = i := by
          have h := congrArg List.length Hinv.out.2.2.1
          rw [List.take_of_length_le (Nat.le_refl _), List.length_take, hRl.out] at h
          omega
        have hK2 : L.filter kp = R.take i := by
          have h := Hinv.out.2.2.1
          rw [List.take_of_length_le (Nat.le_refl _)] at h
          exact h.symm
        have hzl : (Builtin.zeroCells #[Value.int .i64 0, .int .i64 0] (L.length - i)).toList.length = (L.length - i) * 2 := by simp [Builtin.zeroCells]
        have hr := rec_front (c := perCells) (fun _ => rfl) so (L.filter kp) (by omega) (fun t ht => by
          rw [hKl] at ht
          rw [setsL_get _ _ _ _ (by rw [hzl, flat_length perCells 2 (fun _ => rfl), hRl.out]; omega), if_neg (by omega), hK2]
          have e2 : R.flatMap perCells = (R.take i).flatMap perCells ++ (R.drop i).flatMap perCells := by rw [← List.flatMap_append, List.take_append_drop]
          rw [e2, List.getElem?_append_left (by rw [flat_length perCells 2 (fun _ => rfl), List.length_take, hRl.out]; omega)])
        rw [hKl] at hr
        have HRr := Lib.hid hr
        have HRt := Lib.hid ((RowT.own so).cut (n' := i) (c' := cap))
        have SG := Lib.hid ((Hb.out.grown sg (by omega) (fun k e => by cases e; exact hgb)))
        clear hr so sg hKl hK2 hzl
        go_wp2
        go_ret
        exact ⟨_, rfl, HRr.out, HRt.out, SG.out⟩
end Go.Proofs.Ytmilpaibkemmdaa

namespace Go.Proofs.Ytmilpaibkemmdaa
open Go.RowKit

/-- A life in memory, plainly. -/
def lfVal (a n f t : Int) : Value := .agg #[.int .i64 a, .int .i64 n, .int .i64 f, .int .i64 t]
set_option maxRecDepth 100000 in
set_option maxHeartbeats 3200000 in
theorem meets_calls (a n f t c0 c1 : Int) (w : World) : Calls Try.prog 25 #[lfVal a n f t, .agg #[.int .i64 c0, .int .i64 c1]] w fun e w' => e = .returned (.bool (meetsL f t (c0, c1))) ∧ Below w.heap.size w w' := by
  have HB := Lib.hid (show ∀ o p, Below w.heap.size w ((w.alloc o).alloc p) from fun o p => ((Below.refl _ _).alloc (Nat.le_refl _) o).alloc (by simp) p)
  obtain ⟨mx, hmx⟩ : ∃ mx, mx = max f c0 := ⟨_, rfl⟩
  obtain ⟨mn, hmn⟩ : ∃ mn, mn = min t c1 := ⟨_, rfl⟩
  have HM := Lib.hid (show meetsL f t (c0, c1) = decide (mx < mn) by rw [hmx, hmn]; rfl)
  have i1 : (if f < c0 then c0 else f) = mx := by rw [hmx]; split <;> omega
  have i2 : (if c1 < t then c1 else t) = mn := by rw [hmn]; split <;> omega
  have HM1 := Lib.hid hmx
  have HM2 := Lib.hid hmn
  unfold lfVal
  clear hmx hmn
  go_enter Try.func25, Try.ntmps25
  go_wp2
  go_ret
  exact ⟨by rw [HM.out]; simp, HB.out _ _⟩
set_option maxRecDepth 100000 in
set_option maxHeartbeats 3200000 in
theorem cycles1_calls (a n f t c0 c1 : Int) (bx : Nat) (w : World) (h : w.heap[bx]? = some (Obj.cells #[.int .i64 a, .int .i64 n, .int .i64 f, .int .i64 t] 49)) :
    Calls Try.prog 47 #[.agg #[.int .i64 c0, .int .i64 c1], .pointer (some ⟨bx, 0, none⟩)] w fun e w' => e = .returned (.bool (!meetsL f t (c0, c1))) ∧ Below w.heap.size w w' := by
  have hlt := (Array.getElem?_eq_some_iff.1 h).1
  obtain ⟨W, hW⟩ : ∃ W, W = w.alloc (Obj.cells #[.int .i64 c0, .int .i64 c1] 26) := ⟨_, rfl⟩
  have hb : Below w.heap.size w W := by rw [hW]; go_grown
  have r0 := (hb.block bx hlt).trans h
  have x0 := cell_of_row W _ 0 _ _ _ r0
  have x1 := cell_of_row W _ 1 _ _ _ r0
  have x2 := cell_of_row W _ 2 _ _ _ r0
  have x3 := cell_of_row W _ 3 _ _ _ r0
  have r1 : W.heap[w.heap.size]? = some (Obj.cells #[.int .i64 c0, .int .i64 c1] 26) := by rw [hW]; exact heap_alloc_new _ _
  have y0 := cell_of_row W _ 0 _ _ _ r1
  have y1 := cell_of_row W _ 1 _ _ _ r1
  have HM := Lib.hid (meets_calls a n f t c0 c1 W)
  unfold lfVal at HM
  have HW := Lib.hid hW
  have Hb := Lib.hid hb
  clear hW hb r0 r1 h
  go_enter Try.func47, Try.ntmps47
  go_upto_region 1 with (fail)
  rw [← HW.out]
  go_wp2_with fail
  refine HM.out.mono ?_
  rintro e w' ⟨rfl, hb'⟩
  go_wp2
  go_ret
  exact ⟨rfl, Hb.out.trans (hb'.mono Hb.out.size)⟩
set_option maxRecDepth 100000 in
set_option maxHeartbeats 3200000 in
theorem lcycles_calls (ac a tm ct f t lo hi : Int) (w : World) (ha : 1 ≤ a) (hb : a ≤ 28) (hv : validB f t = true) (hlo : IsMo a f lo) (hhi : IsMo a (t - 1) hi) :
    Calls Try.prog 31 #[lfVal ac a tm ct, .agg #[.int .i64 f, .int .i64 t]] w (DelTo w.heap.size w ((cycL a lo hi).filter (meetsL tm ct))) := by
  obtain ⟨r0, r1, hw0, hz⟩ := two_rows w (Obj.cells #[.int .i64 ac, .int .i64 a, .int .i64 tm, .int .i64 ct] 49) (Obj.cells #[.int .i64 f, .int .i64 t] 26)
  obtain ⟨W, hW⟩ : ∃ W, W = (w.alloc (Obj.cells #[.int .i64 ac, .int .i64 a, .int .i64 tm, .int .i64 ct] 49)).alloc (Obj.cells #[.int .i64 f, .int .i64 t] 26) := ⟨_, rfl⟩
  rw [← hW] at r0 r1 hw0 hz
  have x1 := cell_of_row W _ 1 _ _ _ r0
  have y0 := cell_of_row W _ 0 _ _ _ r1
  have y1 := cell_of_row W _ 1 _ _ _ r1
  have HCy := Lib.hid (cycles_own a f t lo hi W ha hb hv hlo hhi)
  have HW := Lib.hid hW
  have Hw0 := Lib.hid hw0
  have Hr0 := Lib.hid r0
  have hws : W.heap.size = w.heap.size + 2 := by rw [hW]; simp
  have Hws := Lib.hid hws
  have hmf : ∀ (fn : Fn) (first cap : Array Value) (w : World), (Instr.makeFunc fn first cap).run Try.prog w = .ok (.func fn first cap) w := fun _ _ _ _ => rfl
  have HL : RowKit.Hid ((cycL a lo hi).filter (meetsL tm ct) = (cycL a lo hi).filter (fun x => !(fun c => !meetsL tm ct c) x)) := Lib.hid (by simp)
  rw [HL.out]
  unfold lfVal
  clear hW r0 r1 hw0 hws hlo hhi hv
  generalize cycL a lo hi = C at *
  go_enter Try.func31, Try.ntmps31
  go_upto_region 1 with (fail)
  rw [← HW.out]
  go_wp2_with fail
  refine HCy.out.mono ?_
  rintro e w1 ⟨v, rfl, hown, hb1⟩
  have Hb1 := Lib.hid hb1
  obtain ⟨av, cap, rfl, -, -⟩ := own_shape hown
  have HD := Lib.hid (deleteP_calls _ C W.heap.size w1 hown hb1.size (fun c => !meetsL tm ct c) 47 #[.pointer (some ⟨w.heap.size, 0, none⟩)] (enters_of Try.func47 (by kernel_rfl) rfl)
    (fun X c hX _ => cycles1_calls ac a tm ct c.1 c.2 w.heap.size X ((hX.block _ (by have := Hws.out; omega)).trans ((hb1.block _ (by have := Hws.out; omega)).trans Hr0.out))))
  clear hown hb1
  go_wp2_with fail
  refine HD.out.mono ?_
  rintro e w2 ⟨v2, rfl, hr2, ht2, hb2⟩
  have HR2 := Lib.hid hr2
  have HT2 := Lib.hid (ht2.down Hw0.out.size)
  have HB2 := Lib.hid hb2
  clear hr2 ht2 hb2
  go_wp2
  go_ret
  exact ⟨_, rfl, HR2.out, HT2.out, Hw0.out.trans ((Hb1.out.trans HB2.out).mono Hw0.out.size)⟩
end Go.Proofs.Ytmilpaibkemmdaa

namespace Go.Proofs.Ytmilpaibkemmdaa
open Go.RowKit

/-- A life that find found. -/
theorem findV_some {l : List Ev} (hok : CycOk l) {n : Int} {o : Ev} (h : openE l n = some o) : findV l n = .tuple #[.agg #[.int .i64 o.ac, .int .i64 o.vl, .int .i64 o.tm, .int .i64 (closeT l n)], .bool true] := by
  unfold findV
  rw [h]
  show Value.tuple #[lifeVal l o, .bool true] = _
  unfold lifeVal
  rw [closeR_eq hok, (openE_some h).2.2]
theorem findV_none {l : List Ev} {n : Int} (h : openE l n = none) : findV l n = .tuple #[.agg #[.int .i64 0, .int .i64 0, .int .i64 0, .int .i64 0], .bool false] := by
  unfold findV
  rw [h]
set_option maxRecDepth 100000 in
set_option maxHeartbeats 6400000 in
theorem of_calls (v : Value) (l : List Ev) (n t m : Int) (w : World) (h : EvsAt w v l) (hok : CycOk l) (hm : ∀ o, openE l n = some o → 0 ≤ t → t < 12622780800 → IsMo o.vl t m) :
    Calls Try.prog 10 #[v, .int .i64 n, .int .i64 t] w (OfTo (ofV l n t m) w) := by
  have hh := h
  have HF := Lib.hid (fun Y (hY : Below w.heap.size w Y) => find_calls v l n Y (hh.below hY))
  obtain ⟨av, cap, rfl, -, -⟩ := rec_shape h.1
  obtain ⟨A, hA⟩ : ∃ A, A = w.alloc (Obj.cells #[.int .i64 0, .int .i64 0] 26) := ⟨_, rfl⟩
  have hbA : Below w.heap.size w A := by rw [hA]; go_grown
  have rA : A.heap[w.heap.size]? = some (Obj.cells #[.int .i64 0, .int .i64 0] 26) := by rw [hA]; exact heap_alloc_new _ _
  have HA := Lib.hid hA
  have HbA := Lib.hid hbA
  have HrA := Lib.hid rA
  have hzA : w.heap.size < A.heap.size := by rw [hA]; simp
  have a0 := cell_of_row A _ 0 _ _ _ rA
  have a1 := cell_of_row A _ 1 _ _ _ rA
  have af0 := frozen_of_row A _ 0 _ _ rA
  have af1 := frozen_of_row A _ 1 _ _ rA
  clear hA hbA rA h hh
  by_cases t0 : t < 0
  · have HV := Lib.hid (show ofV l n t m = ((0, 0), 15) by unfold ofV; rw [if_pos (by omega)])
    rw [HV.out]
    go_enter Try.func10, Try.ntmps10
    go_upto_region 1 with (fail)
    rw [← HA.out]
    go_wp2
    refine bodyPost_ret (v := .tuple #[.agg #[.int .i64 0, .int .i64 0], .int .i64 15]) (by simp [results, Try.results10, go_sem, a0, a1]) rfl ⟨rfl, ?_⟩
    exact (HbA.out.setCell (Nat.le_refl _) _).setCell (Nat.le_refl _) _
  by_cases t1 : 12622780800 ≤ t
  · have HV := Lib.hid (show ofV l n t m = ((0, 0), 15) by unfold ofV; rw [if_pos (by omega)])
    rw [HV.out]
    go_enter Try.func10, Try.ntmps10
    go_upto_region 1 with (fail)
    rw [← HA.out]
    go_wp2
    refine bodyPost_ret (v := .tuple #[.agg #[.int .i64 0, .int .i64 0], .int .i64 15]) (by simp [results, Try.results10, go_sem, a0, a1]) rfl ⟨rfl, ?_⟩
    exact (HbA.out.setCell (Nat.le_refl _) _).setCell (Nat.le_refl _) _
  have u0 : 0 ≤ t := by omega
  have u1 : t < 12622780800 := by omega
  have HF1 := Lib.hid (HF.out A HbA.out)
  cases ho : openE l n with
  | none =>
    have HV := Lib.hid (show ofV l n t m = ((0, 0), 11) by unfold ofV; rw [if_neg (not_not_intro ⟨u0, u1⟩), ho])
    rw [HV.out]
    rw [findV_none ho] at HF1
    clear ho HF
    go_enter Try.func10, Try.ntmps10
    go_upto_region 1 with (fail)
    rw [← HA.out]
    go_wp2_with fail
    refine HF1.out.mono ?_
    rintro e w1 ⟨rfl, hb1⟩
    obtain ⟨X, hX⟩ : ∃ X, X = w1.alloc (Obj.cells #[.int .i64 0, .int .i64 0, .int .i64 0, .int .i64 0] 49) := ⟨_, rfl⟩
    have hbX : Below w1.heap.size w1 X := by rw [hX]; go_grown
    have rX := (hbX.block _ (by have := hb1.size; omega)).trans ((hb1.block _ hzA).trans HrA.out)
    have x0 := cell_of_row X _ 0 _ _ _ rX
    have x1 := cell_of_row X _ 1 _ _ _ rX
    have xf0 := frozen_of_row X _ 0 _ _ rX
    have xf1 := frozen_of_row X _ 1 _ _ rX
    have HwX := Lib.hid (HbA.out.trans ((hb1.trans (hbX.mono hb1.size)).mono HbA.out.size))
    have HX := Lib.hid hX
    clear hX hbX rX a0 a1 af0 af1 hb1
    go_upto_region 4 with (fail)
    rw [← HX.out]
    go_wp2
    refine bodyPost_ret (v := .tuple #[.agg #[.int .i64 0, .int .i64 0], .int .i64 11]) (by simp [results, Try.results10, go_sem, x0, x1]) rfl ⟨rfl, ?_⟩
    exact (HwX.out.setCell (Nat.le_refl _) _).setCell (Nat.le_refl _) _
  | some o =>
    obtain ⟨hmem, hk1, hac⟩ := openE_some ho
    obtain ⟨o0, o1, ov1, ov2⟩ := open_bd hok hmem hk1
    have hmo := hm o ho u0 u1
    have HV := Lib.hid (show ofV l n t m = if (cyc o.vl m).2 ≤ o.tm then ((0, 0), 11) else if meetsL o.tm (closeT l n) (cyc o.vl m) = true then (cyc o.vl m, 0) else ((0, 0), 17) by unfold ofV; rw [if_neg (not_not_intro ⟨u0, u1⟩), ho])
    rw [HV.out]
    rw [findV_some hok ho] at HF1
    have HCy := Lib.hid (fun Y => calc_calls o.vl t m Y ov1 ov2 u0 u1 hmo)
    have HMe := Lib.hid (fun Y => meets_calls o.ac o.vl o.tm (closeT l n) (cyc o.vl m).1 (cyc o.vl m).2 Y)
    unfold lfVal at HMe
    generalize cyc o.vl m = c at *
    obtain ⟨c0, c1⟩ := c
    dsimp only at HCy HMe ⊢
    generalize meetsL o.tm (closeT l n) (c0, c1) = mb at *
    generalize closeT l n = ct at *
    obtain ⟨rv, hrv⟩ : ∃ rv : (Int × Int) × Int, rv = if c1 ≤ o.tm then ((0, 0), 11) else if mb = true then ((c0, c1), 0) else ((0, 0), 17) := ⟨_, rfl⟩
    rw [← hrv]
    have Hrv := Lib.hid hrv
    clear hrv
    clear ho HV hmo hok hm hmem hk1 hac HF
    go_enter Try.func10, Try.ntmps10
    go_upto_region 1 with (fail)
    rw [← HA.out]
    go_wp2_with fail
    refine HF1.out.mono ?_
    rintro e w1 ⟨rfl, hb1⟩
    obtain ⟨X, hX⟩ : ∃ X, X = w1.alloc (Obj.cells #[.int .i64 o.ac, .int .i64 o.vl, .int .i64 o.tm, .int .i64 ct] 49) := ⟨_, rfl⟩
    have hbX : Below w1.heap.size w1 X := by rw [hX]; go_grown
    have rX0 := (hbX.block _ (by have := hb1.size; omega)).trans ((hb1.block _ hzA).trans HrA.out)
    have rX1 : X.heap[w1.heap.size]? = some (Obj.cells #[.int .i64 o.ac, .int .i64 o.vl, .int .i64 o.tm, .int .i64 ct] 49) := by rw [hX]; exact heap_alloc_new _ _
    have hlt1 : w1.heap.size < X.heap.size := by rw [hX]; simp
    have hlt0 : w.heap.size < w1.heap.size := by have := hb1.size; omega
    have x1 := cell_of_row X _ 1 _ _ _ rX1
    have HwX := Lib.hid (HbA.out.trans ((hb1.trans (hbX.mono hb1.size)).mono HbA.out.size))
    have HX := Lib.hid hX
    have RX0 := Lib.hid rX0
    have RX1 := Lib.hid rX1
    clear hX hbX rX0 rX1 a0 a1 af0 af1 hb1
    go_upto_region 4 with (fail)
    rw [← HX.out]
    go_wp2_with fail
    refine (HCy.out X).mono ?_
    rintro e w2 ⟨rfl, hb2⟩
    obtain ⟨Y, hY⟩ : ∃ Y, Y = w2.alloc (Obj.cells #[.int .i64 c0, .int .i64 c1] 26) := ⟨_, rfl⟩
    have hbY : Below w2.heap.size w2 Y := by rw [hY]; go_grown
    have rY0 := (hbY.block _ (by have := hb2.size; omega)).trans ((hb2.block _ (by omega)).trans RX0.out)
    have rY1 := (hbY.block _ (by have := hb2.size; omega)).trans ((hb2.block _ hlt1).trans RX1.out)
    have rY2 : Y.heap[w2.heap.size]? = some (Obj.cells #[.int .i64 c0, .int .i64 c1] 26) := by rw [hY]; exact heap_alloc_new _ _
    have hltY : w2.heap.size < Y.heap.size := by rw [hY]; simp
    have hlt2 : w1.heap.size < w2.heap.size := by have := hb2.size; omega
    have y0 := cell_of_row Y _ 0 _ _ _ rY0
    have y1 := cell_of_row Y _ 1 _ _ _ rY0
    have yf0 := frozen_of_row Y _ 0 _ _ rY0
    have yf1 := frozen_of_row Y _ 1 _ _ rY0
    have z0 := cell_of_row Y _ 0 _ _ _ rY1
    have z1 := cell_of_row Y _ 1 _ _ _ rY1
    have z2 := cell_of_row Y _ 2 _ _ _ rY1
    have z3 := cell_of_row Y _ 3 _ _ _ rY1
    have p0 := cell_of_row Y _ 0 _ _ _ rY2
    have p1 := cell_of_row Y _ 1 _ _ _ rY2
    have HwY := Lib.hid (HwX.out.trans ((hb2.trans (hbY.mono hb2.size)).mono HwX.out.size))
    have HY := Lib.hid hY
    have RY0 := Lib.hid rY0
    have RY2 := Lib.hid rY2
    clear hY hbY rY0 rY1 rY2 x1 hb2
    go_upto_region 7 with (fail)
    rw [← HY.out]
    by_cases hc : c1 ≤ o.tm
    · have HR := Lib.hid (Hrv.out.trans (if_pos hc))
      clear Hrv
      go_wp2
      refine bodyPost_ret (v := .tuple #[.agg #[.int .i64 0, .int .i64 0], .int .i64 11]) (by simp [results, Try.results10, go_sem, y0, y1]) rfl ⟨by rw [HR.out], ?_⟩
      exact (HwY.out.setCell (Nat.le_refl _) _).setCell (Nat.le_refl _) _
    · have Hrv2 := Lib.hid (Hrv.out.trans (if_neg hc))
      clear Hrv
      go_wp2_with fail
      refine (HMe.out Y).mono ?_
      rintro e w3 ⟨rfl, hb3⟩
      have r0 := (hb3.block _ (by omega)).trans RY0.out
      have r2 := (hb3.block _ hltY).trans RY2.out
      have q0 := cell_of_row w3 _ 0 _ _ _ r0
      have q1 := cell_of_row w3 _ 1 _ _ _ r0
      have qf0 := frozen_of_row w3 _ 0 _ _ r0
      have qf1 := frozen_of_row w3 _ 1 _ _ r0
      have s0 := cell_of_row w3 _ 0 _ _ _ r2
      have s1 := cell_of_row w3 _ 1 _ _ _ r2
      have Hw3 := Lib.hid (HwY.out.trans (hb3.mono HwY.out.size))
      clear r0 r2 y0 y1 yf0 yf1 z0 z1 z2 z3 p0 p1 hb3
      cases mb with
      | true =>
        have HR := Lib.hid (Hrv2.out.trans (if_pos rfl))
        clear Hrv2
        go_wp2
        refine bodyPost_ret (v := .tuple #[.agg #[.int .i64 c0, .int .i64 c1], .int .i64 0]) (by simp [results, Try.results10, go_sem, q0, q1]) rfl ⟨by rw [HR.out], ?_⟩
        exact (Hw3.out.setCell (Nat.le_refl _) _).setCell (Nat.le_refl _) _
      | false =>
        have HR := Lib.hid (Hrv2.out.trans (if_neg (by decide)))
        clear Hrv2
        go_wp2
        refine bodyPost_ret (v := .tuple #[.agg #[.int .i64 0, .int .i64 0], .int .i64 17]) (by simp [results, Try.results10, go_sem, q0, q1]) rfl ⟨by rw [HR.out], ?_⟩
        exact (Hw3.out.setCell (Nat.le_refl _) _).setCell (Nat.le_refl _) _
end Go.Proofs.Ytmilpaibkemmdaa

namespace Go.Proofs.Ytmilpaibkemmdaa
open Go.RowKit

set_option maxRecDepth 100000 in
set_option maxHeartbeats 6400000 in
theorem list_calls (v : Value) (l : List Ev) (n f t lo hi : Int) (w : World) (h : EvsAt w v l) (hok : CycOk l) (hm : ∀ o, openE l n = some o → validB f t = true → IsMo o.vl f lo ∧ IsMo o.vl (t - 1) hi) :
    Calls Try.prog 18 #[v, .int .i64 n, .agg #[.int .i64 f, .int .i64 t]] w (PersTo w (listV l n (validB f t) lo hi)) := by
  have hh := h
  have HF := Lib.hid (fun Y (hY : Below w.heap.size w Y) => find_calls v l n Y (hh.below hY))
  obtain ⟨av, cap, rfl, -, -⟩ := rec_shape h.1
  obtain ⟨A, hA⟩ : ∃ A, A = w.alloc (Obj.cells #[.int .i64 f, .int .i64 t] 26) := ⟨_, rfl⟩
  have hbA : Below w.heap.size w A := by rw [hA]; go_grown
  have rA : A.heap[w.heap.size]? = some (Obj.cells #[.int .i64 f, .int .i64 t] 26) := by rw [hA]; exact heap_alloc_new _ _
  have HA := Lib.hid hA
  have HbA := Lib.hid hbA
  have HrA := Lib.hid rA
  have hzA : w.heap.size < A.heap.size := by rw [hA]; simp
  have a0 := cell_of_row A _ 0 _ _ _ rA
  have a1 := cell_of_row A _ 1 _ _ _ rA
  have HF1 := Lib.hid (HF.out A hbA)
  clear hA hbA rA h hh HF
  cases ho : openE l n with
  | none =>
    have HV := Lib.hid (show listV l n (validB f t) lo hi = [] by unfold listV; rw [ho])
    rw [HV.out]
    rw [findV_none ho] at HF1
    clear ho hm
    go_enter Try.func18, Try.ntmps18
    go_upto_region 1 with (fail)
    rw [← HA.out]
    go_wp2_with fail
    refine HF1.out.mono ?_
    rintro e w1 ⟨rfl, hb1⟩
    obtain ⟨X, hX⟩ : ∃ X, X = w1.alloc (Obj.cells #[.int .i64 0, .int .i64 0, .int .i64 0, .int .i64 0] 49) := ⟨_, rfl⟩
    have hbX : Below w1.heap.size w1 X := by rw [hX]; go_grown
    have rX := (hbX.block _ (by have := hb1.size; omega)).trans ((hb1.block _ hzA).trans HrA.out)
    have x0 := cell_of_row X _ 0 _ _ _ rX
    have x1 := cell_of_row X _ 1 _ _ _ rX
    have HwX := Lib.hid (HbA.out.trans ((hb1.trans (hbX.mono hb1.size)).mono HbA.out.size))
    have HX := Lib.hid hX
    clear hX hbX rX a0 a1 hb1
    go_upto_region 2 with (fail)
    rw [← HX.out]
    go_wp2
    go_ret
    exact ⟨_, rfl, SliceAt.nil _, HwX.out⟩
  | some o =>
    obtain ⟨hmem, hk1, hac⟩ := openE_some ho
    obtain ⟨o0, o1, ov1, ov2⟩ := open_bd hok hmem hk1
    have hmo := hm o ho
    have HV := Lib.hid (show listV l n (validB f t) lo hi = if validB f t = true then (cycL o.vl lo hi).filter (meetsL o.tm (closeT l n)) else [] by unfold listV; rw [ho])
    rw [HV.out]
    rw [findV_some hok ho] at HF1
    have HC := Lib.hid (fun Y h => lcycles_calls o.ac o.vl o.tm (closeT l n) f t lo hi Y ov1 ov2 h (hmo h).1 (hmo h).2)
    unfold lfVal at HC
    generalize closeT l n = ct at *
    clear ho HV hmo hok hm hmem hk1 hac
    by_cases h0 : f < 0
    · rw [show validB f t = false from by rw [Bool.eq_false_iff]; intro h; have := (validB_iff _ _).1 h; omega, if_neg (by decide)]
      clear HC
      go_enter Try.func18, Try.ntmps18
      go_upto_region 1 with (fail)
      rw [← HA.out]
      go_wp2_with fail
      refine HF1.out.mono ?_
      rintro e w1 ⟨rfl, hb1⟩
      obtain ⟨X, hX⟩ : ∃ X, X = w1.alloc (Obj.cells #[.int .i64 o.ac, .int .i64 o.vl, .int .i64 o.tm, .int .i64 ct] 49) := ⟨_, rfl⟩
      have hbX : Below w1.heap.size w1 X := by rw [hX]; go_grown
      have rX := (hbX.block _ (by have := hb1.size; omega)).trans ((hb1.block _ hzA).trans HrA.out)
      have x0 := cell_of_row X _ 0 _ _ _ rX
      have x1 := cell_of_row X _ 1 _ _ _ rX
      have HwX := Lib.hid (HbA.out.trans ((hb1.trans (hbX.mono hb1.size)).mono HbA.out.size))
      have HX := Lib.hid hX
      clear hX hbX rX a0 a1 hb1
      go_upto_region 2 with (fail)
      rw [← HX.out]
      go_wp2
      go_ret
      exact ⟨_, rfl, SliceAt.nil _, HwX.out⟩
    by_cases h1 : t ≤ f
    · rw [show validB f t = false from by rw [Bool.eq_false_iff]; intro h; have := (validB_iff _ _).1 h; omega, if_neg (by decide)]
      clear HC
      go_enter Try.func18, Try.ntmps18
      go_upto_region 1 with (fail)
      rw [← HA.out]
      go_wp2_with fail
      refine HF1.out.mono ?_
      rintro e w1 ⟨rfl, hb1⟩
      obtain ⟨X, hX⟩ : ∃ X, X = w1.alloc (Obj.cells #[.int .i64 o.ac, .int .i64 o.vl, .int .i64 o.tm, .int .i64 ct] 49) := ⟨_, rfl⟩
      have hbX : Below w1.heap.size w1 X := by rw [hX]; go_grown
      have rX := (hbX.block _ (by have := hb1.size; omega)).trans ((hb1.block _ hzA).trans HrA.out)
      have x0 := cell_of_row X _ 0 _ _ _ rX
      have x1 := cell_of_row X _ 1 _ _ _ rX
      have HwX := Lib.hid (HbA.out.trans ((hb1.trans (hbX.mono hb1.size)).mono HbA.out.size))
      have HX := Lib.hid hX
      clear hX hbX rX a0 a1 hb1
      go_upto_region 2 with (fail)
      rw [← HX.out]
      go_wp2
      go_ret
      exact ⟨_, rfl, SliceAt.nil _, HwX.out⟩
    by_cases h2 : 12622780800 < t
    · rw [show validB f t = false from by rw [Bool.eq_false_iff]; intro h; have := (validB_iff _ _).1 h; omega, if_neg (by decide)]
      clear HC
      go_enter Try.func18, Try.ntmps18
      go_upto_region 1 with (fail)
      rw [← HA.out]
      go_wp2_with fail
      refine HF1.out.mono ?_
      rintro e w1 ⟨rfl, hb1⟩
      obtain ⟨X, hX⟩ : ∃ X, X = w1.alloc (Obj.cells #[.int .i64 o.ac, .int .i64 o.vl, .int .i64 o.tm, .int .i64 ct] 49) := ⟨_, rfl⟩
      have hbX : Below w1.heap.size w1 X := by rw [hX]; go_grown
      have rX := (hbX.block _ (by have := hb1.size; omega)).trans ((hb1.block _ hzA).trans HrA.out)
      have x0 := cell_of_row X _ 0 _ _ _ rX
      have x1 := cell_of_row X _ 1 _ _ _ rX
      have HwX := Lib.hid (HbA.out.trans ((hb1.trans (hbX.mono hb1.size)).mono HbA.out.size))
      have HX := Lib.hid hX
      clear hX hbX rX a0 a1 hb1
      go_upto_region 2 with (fail)
      rw [← HX.out]
      go_wp2
      go_ret
      exact ⟨_, rfl, SliceAt.nil _, HwX.out⟩
    have hv : validB f t = true := by rw [validB_iff]; omega
    rw [hv, if_pos rfl]
    have HC2 := Lib.hid (fun Y => HC.out Y hv)
    clear hv HC
    generalize (cycL o.vl lo hi).filter (meetsL o.tm ct) = C at *
    go_enter Try.func18, Try.ntmps18
    go_upto_region 1 with (fail)
    rw [← HA.out]
    go_wp2_with fail
    refine HF1.out.mono ?_
    rintro e w1 ⟨rfl, hb1⟩
    obtain ⟨X, hX⟩ : ∃ X, X = w1.alloc (Obj.cells #[.int .i64 o.ac, .int .i64 o.vl, .int .i64 o.tm, .int .i64 ct] 49) := ⟨_, rfl⟩
    have hbX : Below w1.heap.size w1 X := by rw [hX]; go_grown
    have rX := (hbX.block _ (by have := hb1.size; omega)).trans ((hb1.block _ hzA).trans HrA.out)
    have x0 := cell_of_row X _ 0 _ _ _ rX
    have x1 := cell_of_row X _ 1 _ _ _ rX
    have rY : X.heap[w1.heap.size]? = some (Obj.cells #[.int .i64 o.ac, .int .i64 o.vl, .int .i64 o.tm, .int .i64 ct] 49) := by rw [hX]; exact heap_alloc_new _ _
    have y0 := cell_of_row X _ 0 _ _ _ rY
    have y1 := cell_of_row X _ 1 _ _ _ rY
    have y2 := cell_of_row X _ 2 _ _ _ rY
    have y3 := cell_of_row X _ 3 _ _ _ rY
    have HwX := Lib.hid (HbA.out.trans ((hb1.trans (hbX.mono hb1.size)).mono HbA.out.size))
    have HX := Lib.hid hX
    clear hX hbX rX rY a0 a1 hb1
    go_upto_region 2 with (fail)
    rw [← HX.out]
    go_wp2_with fail
    refine (HC2.out X).mono ?_
    rintro e w2 ⟨vc, rfl, hr, -, hb2⟩
    have HR := Lib.hid hr
    have Hb2 := Lib.hid (HwX.out.trans (hb2.mono HwX.out.size))
    clear hr hb2
    go_wp2
    go_ret
    exact ⟨_, rfl, pers_of_rec HR.out, Hb2.out⟩
end Go.Proofs.Ytmilpaibkemmdaa
