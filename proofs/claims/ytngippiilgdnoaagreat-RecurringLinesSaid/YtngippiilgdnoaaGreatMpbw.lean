/-
  The walk of slices.Compact at subscriptions with a product.
  The walk of recurring.all.
-/
import Derived.Test.YtngippiilgdnoaaGreatMpbv
import Derived.Test.YtngippiilgdnoaaGreatMpbf
import Derived.Test.YtngippiilgdnoaaGreatMpag
import Derived.Laws.StructEq
import Derived.Test.YtngippiilgdnoaaGreatMpbb
namespace Go.Proofs.YtngippiilgdnoaaGreat
open Go.RowKit

theorem had_dec (a b : Int) (s t : ByteArray) : (decide (a = b) && sameS s t) = decide (((a, s) : Had) = (b, t)) := by
  rw [Bool.eq_iff_iff, Bool.and_eq_true, decide_eq_true_eq, decide_eq_true_eq, sameS_iff, Prod.mk.injEq]
theorem had_eqlIn (a b : Int) (s t : ByteArray) (w : World) : (Op.equalIn 10000 95 (.agg #[.int .i64 a, .string s]) (.agg #[.int .i64 b, .string t])).run Tryz.prog w = .ok (decide (((a, s) : Had) = (b, t))) w := by
  have u3 := Tryz.underlying3
  have a3 := Tryz.isAgg3
  have z3 := Tryz.sizeOf3
  have u9 := Tryz.underlying9
  have a9 := Tryz.isAgg9
  have z9 := Tryz.sizeOf9
  have hS : Tryz.prog.underlying 95 = some (.struct (Tryz.prog.fieldsOf 95)) := by kernel_rfl
  have hp : Tryz.prog.stoodInHeld 95 = false := by kernel_rfl
  rw [show (10000 : Nat) = 9999 + 1 from rfl, run_equalIn_agg w 9999 95 _ _ hS hp]
  simp only [Program.fieldsOf, Tryz.underlying95]
  rw [← had_dec]
  go_simp
  by_cases h1 : a = b <;> cases h2 : sameS s t <;> simp [h1, sameS] at * <;> simp [h2]
theorem had_eql (x y : Had) (w : World) : (binOp .eql 95 (.agg #[.int .i64 x.1, .string x.2]) (.agg #[.int .i64 y.1, .string y.2])).run Tryz.prog w = .ok (.bool (decide (x = y))) w := by
  rw [run_eql_struct, had_eqlIn]; rfl
theorem had_neq (x y : Had) (w : World) : (binOp .neq 95 (.agg #[.int .i64 x.1, .string x.2]) (.agg #[.int .i64 y.1, .string y.2])).run Tryz.prog w = .ok (.bool (!decide (x = y))) w := by
  rw [run_neq_struct, had_eqlIn]; rfl
theorem had_cells {w : World} {base g cap : Nat} {R : List Had} {n : Nat} (h : w.ownsRow base 95 2 (.slice (some ⟨g, 0, none⟩) n cap) n (R.flatMap hadCells)) (hn : R.length = n) (j : Nat) (hj : j < R.length) :
    w.cell? ⟨g, j * 2, none⟩ = some (.int .i64 (R[j]).1) ∧ w.cell? ⟨g, j * 2 + 1, none⟩ = some (.string (R[j]).2) := by
  have h0 := flat_get hadCells 2 (fun _ => rfl) R j 0 hj (by decide)
  have h1 := flat_get hadCells 2 (fun _ => rfl) R j 1 hj (by decide)
  rw [Nat.add_zero] at h0
  exact ⟨(h.cellAt (j * 2) (by omega)).trans h0, (h.cellAt (j * 2 + 1) (by omega)).trans h1⟩
theorem clear_hads (w : World) (ty : TypeId) (b o n c : Nat) (hn : 0 < n) (hc : ∀ j, j < n * 2 → (w.cell? ⟨b, o + j, none⟩).isSome = true) (hf : ∀ j, j < n * 2 → w.frozen? ⟨b, o + j, none⟩ = false) :
    (Builtin.clear_ #[92] ty #[.slice (some ⟨b, o, none⟩) n c]).run Tryz.prog w = .ok (.tuple #[]) (w.setCells b o (Builtin.zeroCells #[.int .i64 0, .string ⟨#[]⟩] n).toList) := by
  have hl : (Builtin.zeroCells #[Value.int .i64 0, .string ⟨#[]⟩] n).toList.length = n * 2 := by simp [Builtin.zeroCells]
  have h1 : ∀ v ∈ (Builtin.zeroCells #[Value.int .i64 0, .string ⟨#[]⟩] n).toList, v.oneCell' = true := by
    intro v hv
    simp only [Builtin.zeroCells, Array.toList_map, List.mem_map] at hv
    obtain ⟨i, -, rfl⟩ := hv
    have : i % 2 = 0 ∨ i % 2 = 1 := by omega
    rcases this with h | h <;> simp [h, Value.oneCell']
  have hst := run_storeCells_cells (P := Tryz.prog) b o (Builtin.zeroCells #[Value.int .i64 0, .string ⟨#[]⟩] n).toList 0 w (by rw [hl]; simpa using hc) (by rw [hl]; simpa using hf) h1
  simp only [Nat.add_zero] at hst
  obtain ⟨m, rfl⟩ : ∃ m, n = m + 1 := ⟨n - 1, by omega⟩
  simp [Builtin.clear_, run_underlying Tryz.underlying92, Value.cells, hst]
theorem cmpC_short {L : List Had} (h : L.length < 2) : cmpC L L.length = L := by
  match L, h with
  | [], _ => rfl
  | [x], _ => rfl
theorem cmpC_one {L : List Had} (h : 0 < L.length) : cmpC L 1 = L.take 1 := by
  rw [cmpC_ne h (fun q => by omega), List.take_succ_eq_append_getElem h]; rfl

/-- What compacting a row in place has done, up to an index. -/
structure CmpInv (L R : List Had) (i j : Nat) : Prop where
  lt : i < j
  len : R.length = L.length
  pre : R.take i = cmpC L j
  suf : R.drop (j - 1) = L.drop (j - 1)
theorem CmpInv.at {L R : List Had} {i j k : Nat} (h : CmpInv L R i j) (hk : j - 1 ≤ k) (hj : k < L.length) : ∃ hr : k < R.length, R[k] = L[k] := by
  have hr : k < R.length := by rw [h.len]; exact hj
  refine ⟨hr, ?_⟩
  have h1 := congrArg (fun z => z[k - (j - 1)]?) h.suf
  simp only [List.getElem?_drop] at h1
  rw [show j - 1 + (k - (j - 1)) = k by omega, List.getElem?_eq_getElem hr, List.getElem?_eq_getElem hj] at h1
  exact Option.some.inj h1
theorem CmpInv.keep {L R : List Had} {i j : Nat} (h : CmpInv L R i j) (h0 : 0 < j) (hj : j < L.length) (hne : L[j] ≠ L[j - 1]'(by omega)) : CmpInv L (R.set i L[j]) (i + 1) (j + 1) := by
  have h1 := h.lt
  have h2 := h.len
  have hi : i < R.length := by omega
  refine ⟨by omega, by rw [List.length_set]; exact h2, ?_, ?_⟩
  · rw [cmpC_ne hj (fun q => hne (by
      have e := q.2
      rw [List.getElem?_eq_getElem (by omega)] at e
      exact (Option.some.inj e).symm)), ← h.pre, List.take_succ_eq_append_getElem (by rw [List.length_set]; exact hi), List.getElem_set_self, List.take_set_of_le (Nat.le_refl _)]
  · rw [Nat.add_sub_cancel, List.drop_set_of_lt h1]
    have e := congrArg List.tail h.suf
    rw [List.tail_drop, List.tail_drop, show j - 1 + 1 = j by omega] at e
    exact e
theorem CmpInv.skip {L R : List Had} {i j : Nat} (h : CmpInv L R i j) (h0 : 0 < j) (hj : j < L.length) (he : L[j] = L[j - 1]'(by omega)) : CmpInv L R i (j + 1) := by
  refine ⟨by have := h.lt; omega, h.len, ?_, ?_⟩
  · rw [cmpC_eq hj h0 (by rw [List.getElem?_eq_getElem (by omega), he])]; exact h.pre
  · rw [Nat.add_sub_cancel]
    have e := congrArg List.tail h.suf
    rw [List.tail_drop, List.tail_drop, show j - 1 + 1 = j by omega] at e
    exact e
theorem CmpInv.start {L : List Had} {k : Nat} (hk : k < L.length) (h0 : 0 < k) (h1 : cmpC L k = L.take k) (he : L[k] = L[k - 1]'(by omega)) : CmpInv L L k (k + 1) :=
  ⟨by omega, rfl, by rw [cmpC_eq hk h0 (by rw [List.getElem?_eq_getElem (by omega), he])]; exact h1.symm, rfl⟩
/-- Without what repeats what stands before it. -/
def CmpTo (base : Nat) (w : World) (K : List Had) (e : Ending) (w' : World) : Prop := ∃ v, e = .returned v ∧ RecAt hadCells 2 w' v K ∧ Below base w w'

set_option maxRecDepth 100000 in
set_option maxHeartbeats 12800000 in
theorem compactH_calls (v : Value) (L : List Had) (base : Nat) (w : World) (hown : w.ownsRow base 95 2 v L.length (L.flatMap hadCells)) (hbase : base ≤ w.heap.size) :
    Calls Tryz.prog 87 #[v] w (CmpTo base w (cmpC L L.length)) := by
  obtain ⟨av, cap, rfl, hlc, hcm⟩ := own_shape hown
  have Hown := Lib.hid hown
  have hcm2 := hcm
  unfold maxLen at hcm2
  by_cases h2 : L.length < 2
  · have HC := Lib.hid (cmpC_short h2)
    rw [HC.out]
    have h2z : (L.length : Int) < 2 := by omega
    clear hown h2
    go_enter Tryz.func87, Tryz.ntmps87
    go_wp2
    go_ret
    exact ⟨_, rfl, RecAt.own (fun _ => rfl) Hown.out, Below.refl _ _⟩
  · have h2z : ¬ (L.length : Int) < 2 := by omega
    rcases hown.2 with ⟨-, h0⟩ | ⟨g0, cap', cur, hv, hgb, -, -, -, -, -⟩
    · omega
    cases hv
    have HC1 := Lib.hid (cmpC_one (L := L) (by omega))
    clear hown
    go_enter Tryz.func87, Tryz.ntmps87
    go_wp2_with fail
    go_loopg [3] L.length (fun gg s3 wr => ∃ k : Nat, s3 = .int .i64 k ∧ 1 ≤ k ∧ k ≤ L.length ∧ L.length - k ≤ gg ∧ cmpC L k = L.take k ∧ Below w.heap.size w wr)
    case atStart => exact ⟨1, by go_num, Nat.le_refl _, by omega, by omega, HC1.out, Below.refl _ _⟩
    case round =>
      obtain ⟨wo, rfl⟩ : ∃ wo : World, wo = wr := ⟨_, rfl⟩
      obtain ⟨k, rfl, hk1, hkl, hgg, hck, hb⟩ := hrel
      have Hck := Lib.hid hck
      have Hb := Lib.hid hb
      have Own1 := Lib.hid (ownsRow_below Hown.out hb)
      have hbo := hb.size
      have hk0 : (0 : Int) ≤ (k : Int) := Int.natCast_nonneg _
      by_cases hlt : k < L.length
      · have hltz : (k : Int) < (L.length : Int) := by omega
        obtain ⟨p, hp⟩ : ∃ p, p = k - 1 := ⟨_, rfl⟩
        have hpl : p < L.length := by omega
        have hp0 : (0 : Int) ≤ (p : Int) := Int.natCast_nonneg _
        have hpz : (p : Int) < (L.length : Int) := by omega
        have hsub : IntKind.i64.wrap ((k : Int) - 1) = (p : Int) := by rw [show (k : Int) - 1 = p by omega]; exact IntWalk.i64_in _ (by omega)
        obtain ⟨c0, c1⟩ := had_cells Own1.out rfl k hlt
        obtain ⟨d0, d1⟩ := had_cells Own1.out rfl p hpl
        have hgW := (ownsRow_block Own1.out g0 rfl).2
        have HS := Lib.hid (show L[k] = L[p] → CmpInv L L k (k + 1) from fun h => CmpInv.start hlt hk1 Hck.out (by subst hp; exact h))
        have HN := Lib.hid (show L[k] ≠ L[p] → cmpC L (k + 1) = L.take (k + 1) from fun h => by
          rw [cmpC_ne hlt (fun q => h (by
            have e := q.2
            rw [List.getElem?_eq_getElem (by omega)] at e
            subst hp
            exact (Option.some.inj e).symm)), Hck.out, List.take_succ_eq_append_getElem hlt])
        have HAt := Lib.hid (show L[k] = L[k] from rfl)
        clear hck hb
        generalize L[k] = x at *
        generalize L[p] = y at *
        have hq := had_eql x y
        obtain ⟨bf, hbf⟩ : ∃ bf, bf = decide (x = y) := ⟨_, rfl⟩
        rw [← hbf] at hq
        have Hbf := Lib.hid hbf
        clear hbf
        obtain ⟨x0, x1⟩ := x
        obtain ⟨y0, y1⟩ := y
        dsimp only at c0 c1 d0 d1 hq
        have f0 := fun q : BelowOf wo => BelowOf.cell (a := ⟨g0, _, none⟩) hgW c0 q
        have f1 := fun q : BelowOf wo => BelowOf.cell (a := ⟨g0, _, none⟩) hgW c1 q
        have f2 := fun q : BelowOf wo => BelowOf.cell (a := ⟨g0, _, none⟩) hgW d0 q
        have f3 := fun q : BelowOf wo => BelowOf.cell (a := ⟨g0, _, none⟩) hgW d1 q
        have hrr := Below.refl wo.heap.size wo
        clear c0 c1 d0 d1 hp
        go_upto_region 6 with (fail)
        refine wp_region_quiet_below hrr (by kernel_rfl) (by kernel_rfl) ?_
        repeat (go_big_quiet_step (fail))
        refine wpQuiet_nil ?_
        intro wa hw'
        have hYa : Below wo.heap.size wo wa := by obtain ⟨pq, rfl⟩ := hw'; exact pq.h
        have Hba := Lib.hid (Hb.out.trans (hYa.mono Hb.out.size))
        clear hw' f0 f1 f2 f3 hrr hYa hq
        cases bf with
        | false =>
          have HN1 := Lib.hid (HN.out (of_decide_eq_false Hbf.out.symm))
          clear HN HS
          go_wp2
          go_roundg (L.length - (k + 1))
          case measure => omega
          case rel => exact ⟨k + 1, by go_num, by omega, by omega, Nat.le_refl _, HN1.out, Hba.out⟩
        | true =>
          have HI := Lib.hid (HS.out (of_decide_eq_true Hbf.out.symm))
          have hck2 : ¬ cap = k := by omega
          have Own2 := Lib.hid (ownsRow_below Hown.out Hba.out)
          have Hb3 := Lib.hid (Hba.out.mono hbase)
          clear HN HS Hck hsub hpl hp0 hpz
          go_wp2_with fail
          go_loopg [3, 5] L.length (fun gg s3 s5 wr => ∃ (i q : Nat) (R : List Had), s3 = .int .i64 i ∧ s5 = .int .i64 q ∧ 1 ≤ q ∧ k + q ≤ L.length ∧ L.length - (k + q) ≤ gg ∧ CmpInv L R i (k + q) ∧ wr.ownsRow base 95 2 (.slice (some ⟨g0, 0, none⟩) L.length cap) L.length (R.flatMap hadCells) ∧ Below base w wr)
          case atStart => exact ⟨k, 1, L, rfl, by go_num, Nat.le_refl _, by omega, by omega, HI.out, Own2.out, Hb3.out⟩
          case round =>
            obtain ⟨wq, rfl⟩ : ∃ wq : World, wq = wr := ⟨_, rfl⟩
            obtain ⟨i, q, R, rfl, rfl, hq1, hql, hgg2, hinv, hown3, hb3⟩ := hrel
            have Hinv := Lib.hid hinv
            have Own3 := Lib.hid hown3
            have HB3 := Lib.hid hb3
            have hij := hinv.lt
            have hRl := Lib.hid hinv.len
            have hbq := hb3.size
            have hi0 : (0 : Int) ≤ (i : Int) := Int.natCast_nonneg _
            have hq0 : (0 : Int) ≤ (q : Int) := Int.natCast_nonneg _
            by_cases hlt2 : k + q < L.length
            · have hltz2 : (q : Int) < (L.length : Int) - (k : Int) := by omega
              have hltz3 : q < L.length - k := by omega
              have hltz4 : (q : Int) < ((L.length - k : Nat) : Int) := by omega
              obtain ⟨p, hp⟩ : ∃ p, p = q - 1 := ⟨_, rfl⟩
              have hp0 : (0 : Int) ≤ (p : Int) := Int.natCast_nonneg _
              have hpz4 : (p : Int) < ((L.length - k : Nat) : Int) := by omega
              have hsub : IntKind.i64.wrap ((q : Int) - 1) = (p : Int) := by rw [show (q : Int) - 1 = p by omega]; exact IntWalk.i64_in _ (by omega)
              obtain ⟨hr1, ex⟩ := hinv.at (k := k + q) (by omega) hlt2
              obtain ⟨hr2, ey⟩ := hinv.at (k := k + p) (by omega) (by omega)
              have c0 := had_cells Own3.out hRl.out (k + q) hr1
              have d0 := had_cells Own3.out hRl.out (k + p) hr2
              rw [ex, Nat.add_mul] at c0
              rw [ey, Nat.add_mul] at d0
              obtain ⟨c0, c1⟩ := c0
              obtain ⟨d0, d1⟩ := d0
              have hgW := (ownsRow_block Own3.out g0 rfl).2
              have HKp := Lib.hid (show L[k + q] ≠ L[k + p] → CmpInv L (R.set i L[k + q]) (i + 1) (k + q + 1) from fun h => hinv.keep (by omega) hlt2 (by
                have : k + q - 1 = k + p := by omega
                simp only [this]; exact h))
              have HSk := Lib.hid (show L[k + q] = L[k + p] → CmpInv L R i (k + q + 1) from fun h => hinv.skip (by omega) hlt2 (by
                have : k + q - 1 = k + p := by omega
                simp only [this]; exact h))
              clear hinv hown3 hb3 ex ey hr1 hr2
              generalize L[k + q] = x at *
              generalize L[k + p] = y at *
              have hnq := had_neq x y
              obtain ⟨bf, hbf⟩ : ∃ bf, bf = decide (x = y) := ⟨_, rfl⟩
              rw [← hbf] at hnq
              have Hbf := Lib.hid hbf
              clear hbf
              obtain ⟨x0, x1⟩ := x
              obtain ⟨y0, y1⟩ := y
              dsimp only at c0 c1 d0 d1 hnq
              have f0 := fun q : BelowOf wq => BelowOf.cell (a := ⟨g0, _, none⟩) hgW c0 q
              have f1 := fun q : BelowOf wq => BelowOf.cell (a := ⟨g0, _, none⟩) hgW c1 q
              have f2 := fun q : BelowOf wq => BelowOf.cell (a := ⟨g0, _, none⟩) hgW d0 q
              have f3 := fun q : BelowOf wq => BelowOf.cell (a := ⟨g0, _, none⟩) hgW d1 q
              have hrr := Below.refl wq.heap.size wq
              clear c0 c1 d0 d1 hp
              cases bf with
              | true =>
                have HI2 := Lib.hid (HSk.out (of_decide_eq_true Hbf.out.symm))
                clear HKp HSk
                simp only [Bool.not_true] at hnq
                go_upto_region 11 with (fail)
                refine wp_region_quiet_below hrr (by kernel_rfl) (by kernel_rfl) ?_
                repeat (go_big_quiet_step (fail))
                refine wpQuiet_nil ?_
                intro wa2 hw'
                have hYa : Below wq.heap.size wq wa2 := by obtain ⟨pq, rfl⟩ := hw'; exact pq.h
                have Own4 := Lib.hid (ownsRow_below Own3.out hYa)
                have HB4 := Lib.hid (HB3.out.trans (hYa.mono (by omega)))
                clear hw' f0 f1 f2 f3 hrr hYa hnq
                go_wp2
                go_roundg (L.length - (k + q + 1))
                case measure => omega
                case rel => exact ⟨i, q + 1, R, rfl, by go_num, by omega, by omega, Nat.le_refl _, HI2.out, Own4.out, HB4.out⟩
              | false =>
                have HI2 := Lib.hid (HKp.out (of_decide_eq_false Hbf.out.symm))
                clear HKp HSk
                simp only [Bool.not_false] at hnq
                go_upto_region 11 with (fail)
                refine wp_region_quiet_below hrr (by kernel_rfl) (by kernel_rfl) ?_
                repeat (go_big_quiet_step (fail))
                refine wpQuiet_nil ?_
                intro wa2 hw'
                have hYa : Below wq.heap.size wq wa2 := by obtain ⟨pq, rfl⟩ := hw'; exact pq.h
                have Own4 := Lib.hid (ownsRow_below Own3.out hYa)
                have HB4 := Lib.hid (HB3.out.trans (hYa.mono (by omega)))
                have c0 : wa2.cell? ⟨g0, k * 2 + q * 2, none⟩ = some (.int .i64 x0) := by obtain ⟨pq, rfl⟩ := hw'; exact f0 pq
                have c1 : wa2.cell? ⟨g0, k * 2 + q * 2 + 1, none⟩ = some (.string x1) := by obtain ⟨pq, rfl⟩ := hw'; exact f1 pq
                clear hw' f0 f1 f2 f3 hrr hYa hnq
                have hiR : i < R.length := by rw [hRl.out]; omega
                have hiz : (i : Int) < (L.length : Int) := by omega
                obtain ⟨d0, d1⟩ := had_cells Own4.out hRl.out i hiR
                have f0 := Own4.out.frozenAt (i * 2)
                have f1 := Own4.out.frozenAt (i * 2 + 1)
                obtain ⟨so, sg⟩ := own_setCells (hadCells (x0, x1)) _ (i * 2) _ Own4.out
                rw [flat_setR (c := hadCells) (sz := 2) (fun _ => rfl) R i (x0, x1) hiR] at so
                have SO := Lib.hid so
                have SG := Lib.hid ((HB4.out.grown sg (by have := HB4.out.size; omega) (fun k e => by cases e; exact hgb)))
                clear so sg
                generalize R[i] = ri at d0 d1
                go_wp2
                go_roundg (L.length - (k + q + 1))
                case measure => omega
                case rel => exact ⟨i + 1, q + 1, R.set i (x0, x1), by go_num, by go_num, by omega, by omega, Nat.le_refl _, HI2.out, SO.out, SG.out⟩
            · have hqe : k + q = L.length := by omega
              have hq4 : ¬ (q : Int) < ((L.length - k : Nat) : Int) := by omega
              have hci : ¬ cap = i := by omega
              have hcl := clear_hads wq 0 g0 (i * 2) (L.length - i) (cap - i) (by omega) (fun t ht => by rw [Own3.out.cellAt _ (by omega), List.getElem?_eq_getElem (by rw [Own3.out.1]; omega)]; rfl) (fun t _ => Own3.out.frozenAt _)
              obtain ⟨so, sg⟩ := own_setCells (Builtin.zeroCells #[Value.int .i64 0, .string ⟨#[]⟩] (L.length - i)).toList _ (i * 2) _ Own3.out
              have hK2 : cmpC L L.length = R.take i := by rw [← hqe]; exact Hinv.out.pre.symm
              have hKl : (cmpC L L.length).length = i := by rw [hK2, List.length_take, hRl.out]; omega
              have hzl : (Builtin.zeroCells #[Value.int .i64 0, .string ⟨#[]⟩] (L.length - i)).toList.length = (L.length - i) * 2 := by simp [Builtin.zeroCells]
              have hr := rec_front (c := hadCells) (fun _ => rfl) so (cmpC L L.length) (by omega) (fun t ht => by
                rw [hKl] at ht
                rw [setsL_get _ _ _ _ (by rw [hzl, flat_length hadCells 2 (fun _ => rfl), hRl.out]; omega), if_neg (by omega), hK2]
                have e2 : R.flatMap hadCells = (R.take i).flatMap hadCells ++ (R.drop i).flatMap hadCells := by rw [← List.flatMap_append, List.take_append_drop]
                rw [e2, List.getElem?_append_left (by rw [flat_length hadCells 2 (fun _ => rfl), List.length_take, hRl.out]; omega)])
              rw [hKl] at hr
              have HRr := Lib.hid hr
              have SG := Lib.hid ((HB3.out.grown sg (by omega) (fun k e => by cases e; exact hgb)))
              clear hr so sg hKl hK2 hzl hinv hown3 hb3 hqe
              go_wp2
              go_ret
              exact ⟨_, rfl, HRr.out, SG.out⟩
      · have hkz : ¬ (k : Int) < (L.length : Int) := by omega
        have HE := Lib.hid (show cmpC L L.length = L by
          have e : k = L.length := by omega
          rw [← e, Hck.out, List.take_of_length_le (by omega)])
        have HB1 := Lib.hid (Hb.out.mono hbase)
        have HR := Lib.hid (show CmpTo base w (cmpC L L.length) (.returned (.slice (some ⟨g0, 0, none⟩) L.length cap)) wo from ⟨_, rfl, by rw [HE.out]; exact RecAt.own (fun _ => rfl) Own1.out, HB1.out⟩)
        clear hck hb hgg
        go_wp2
        go_ret
        exact HR.out
end Go.Proofs.YtngippiilgdnoaaGreat

namespace Go.Proofs.YtngippiilgdnoaaGreat
open Go.RowKit

theorem Tryz.hadInfo : (Tryz.prog.info? 95).map (fun i => (i.zero, i.size, i.bytes)) = some (some (.agg #[.int .i64 0, .string ⟨#[]⟩]), 2, 24) := by kernel_rfl
theorem hadsP_step (l : List Ev) (a : Int) (k : Nat) (h : k < l.length) : ((l[k]).kd ≠ 8 → hadsP l a (k + 1) = hadsP l a k) ∧ ((l[k]).kd = 8 → hadsP l a (k + 1) = if l.any (addsB (l[k]).sb a) = true then hadsP l a k ++ [((l[k]).sb, (l[k]).nm)] else hadsP l a k) := by
  have e := hadsP_succ l a k h
  refine ⟨fun h8 => ?_, fun h8 => ?_⟩
  · rw [e, decide_eq_false h8, Bool.false_and, if_neg (by decide), List.append_nil]
  · rw [e, decide_eq_true h8, Bool.true_and]
    show (hadsP l a k ++ if l.any (addsB (l[k]).sb a) = true then [((l[k]).sb, (l[k]).nm)] else []) = _
    split
    · rfl
    · rw [List.append_nil]
/-- The products of an account. -/
def AllTo (l : List Ev) (a : Int) (w : World) (e : Ending) (w' : World) : Prop := ∃ v H, e = .returned v ∧ RecAt hadCells 2 w' v H ∧ HadOk l a H ∧ H.length ≤ l.length ∧ Below w.heap.size w w'
/-- What the loop over the events keeps. -/
structure AllR (l : List Ev) (a : Int) (w W : World) (k : Nat) (vo : Value) (wr : World) : Prop where
  own : wr.ownsRow W.heap.size 95 2 vo (hadsP l a k).length ((hadsP l a k).flatMap hadCells)
  b : Below W.heap.size W wr

set_option maxRecDepth 100000 in
set_option maxHeartbeats 12800000 in
theorem all_calls (v : Value) (l : List Ev) (a : Int) (w : World) (h : EvsAt w v l) (hl : l.length ≤ 1000) :
    Calls Tryz.prog 45 #[v, .int .i64 a] w (AllTo l a w) := by
  obtain ⟨av, cap, rfl, hcl, hcm⟩ := rec_shape h.1
  unfold maxLen at hcm
  obtain ⟨W, hW⟩ : ∃ W, W = w.alloc (Obj.cells #[.int .i64 a] 3) := ⟨_, rfl⟩
  have hw0 : Below w.heap.size w W := by rw [hW]; exact (Below.refl _ _).alloc (Nat.le_refl _) _
  have rW : W.heap[w.heap.size]? = some (Obj.cells #[.int .i64 a] 3) := by rw [hW]; exact heap_alloc_new _ _
  have hzW : w.heap.size < W.heap.size := (Array.getElem?_eq_some_iff.1 rW).1
  have HA := Lib.hid (h.below hw0)
  have HBx := Lib.hid (show ∀ Y, Below W.heap.size W Y → Y.cell? ⟨w.heap.size, 0, none⟩ = some (.int .i64 a) from fun Y hb => cell_of_row Y _ 0 _ _ _ ((hb.block _ hzW).trans rW))
  have HW := Lib.hid hW
  have Hw0 := Lib.hid hw0
  clear hW hw0 rW h
  go_enter Tryz.func45, Tryz.ntmps45
  go_upto_region 1 with (fail)
  rw [← HW.out]
  go_wp2_with fail
  go_loopw [5, 11] (fun vo i wr => ∃ k : Nat, k ≤ l.length ∧ i = .int .i64 k ∧ AllR l a w W k vo wr) (fun _ i _ => l.length - (intOf i).toNat)
  case atStart => exact ⟨0, Nat.zero_le _, rfl, World.ownsRow_nil _ _ _ _, Below.refl _ _⟩
  case round =>
    obtain ⟨wo, rfl⟩ : ∃ wo : World, wo = wr := ⟨_, rfl⟩
    obtain ⟨k, hk, rfl, hR⟩ := hrel
    have HR := Lib.hid hR
    clear hR
    obtain ⟨ao, co, rfl, hc1, hc2⟩ := own_shape HR.out.own
    unfold maxLen at hc2
    have HPl := Lib.hid (hadsP_len l a k)
    by_cases hlt : k < l.length
    · have hk1 : (k : Int) < (l.length : Int) := by omega
      have hk0 : (0 : Int) ≤ (k : Int) := Int.natCast_nonneg _
      obtain ⟨hno, hyes⟩ := hadsP_step l a k hlt
      have HNo := Lib.hid hno
      have HYe := Lib.hid hyes
      have HEo := HA.out.below HR.out.b
      obtain ⟨a2, c2, e2, -, -, hx⟩ := HEo.1
      cases e2
      obtain ⟨bb, o, rfl, hB, hx⟩ := hx (by rintro rfl; cases hlt)
      have hx := hx k hlt
      have x0 := hx 0 (by decide)
      have x1 := hx 1 (by decide)
      have x2 := hx 2 (by decide)
      have x3 := hx 3 (by decide)
      have x4 := hx 4 (by decide)
      have x5 := hx 5 (by decide)
      have x6 := hx 6 (by decide)
      clear hx hB hno hyes
      generalize hP1 : hadsP l a (k + 1) = P1 at *
      have HP1 := Lib.hid hP1
      clear hP1
      generalize l[k] = e at *
      obtain ⟨tm, kd, ac, sb, nu, nm, vl⟩ := e
      simp only [evCells, List.getElem?_cons_zero, List.getElem?_cons_succ, Nat.add_zero] at x0 x1 x2 x3 x4 x5 x6
      dsimp only at HNo HYe
      obtain ⟨Y, hY⟩ : ∃ Y, Y = wo.alloc (Obj.cells #[.int .i64 tm, .int .i64 kd, .int .i64 ac, .int .i64 sb, .string nu, .string nm, .int .i64 vl] 55) := ⟨_, rfl⟩
      have hbY : Below wo.heap.size wo Y := by rw [hY]; go_grown
      have hYr : Y.heap[wo.heap.size]? = some (Obj.cells #[.int .i64 tm, .int .i64 kd, .int .i64 ac, .int .i64 sb, .string nu, .string nm, .int .i64 vl] 55) := by rw [hY]; exact heap_alloc_new _ _
      have hwY : wo.heap.size < Y.heap.size := (Array.getElem?_eq_some_iff.1 hYr).1
      have HBY := Lib.hid (HR.out.b.trans (hbY.mono HR.out.b.size))
      have HOY := Lib.hid (ownsRow_below HR.out.own hbY)
      have HYr := Lib.hid hYr
      have HY := Lib.hid hY
      have y1 := cell_of_row Y _ 1 _ _ _ hYr
      have HEY := Lib.hid (HA.out.below HBY.out)
      clear hbY hY hYr HEo
      have hWs := HBY.out.size
      have HRel := Lib.hid (fun (vo : Value) (wx : World) (h1 : wx.ownsRow W.heap.size 95 2 vo P1.length (P1.flatMap hadCells)) (h2 : Below W.heap.size W wx) => (⟨k + 1, by omega, by go_num, by rw [HP1.out]; exact h1, h2⟩ : ∃ k' : Nat, k' ≤ l.length ∧ Value.int .i64 ((k : Int) + 1) = .int .i64 k' ∧ AllR l a w W k' vo wx))
      clear HP1
      by_cases h8 : kd = 8
      · have k1 : (kd == 8) = true := beq_iff_eq.2 h8
        have HE := Lib.hid (HYe.out h8)
        have HC := Lib.hid (containsE_calls (.slice (some ⟨bb, o, none⟩) l.length cap) l Y HEY.out (addsB sb a) 80 #[.pointer (some ⟨wo.heap.size, 0, none⟩), .pointer (some ⟨w.heap.size, 0, none⟩)] (Go.Proofs.enters_of Tryz.func80 (by kernel_rfl) rfl)
          (fun W2 x hW2 _ => owned_calls x wo.heap.size w.heap.size sb a W2 (by have := hW2.size; omega) (by have := hW2.size; omega) (cell_of_row W2 _ 3 _ _ _ ((hW2.block _ hwY).trans HYr.out)) (HBx.out W2 (HBY.out.trans (hW2.mono HBY.out.size)))))
        generalize l.any (addsB sb a) = bt at *
        clear h8 HNo HYe
        go_upto_region 6 with (fail)
        rw [← HY.out]
        go_wp2_with fail
        refine HC.out.mono ?_
        rintro e w1 ⟨rfl, hb1⟩
        have HB1 := Lib.hid (HBY.out.trans (hb1.mono HBY.out.size))
        have HO1 := Lib.hid (ownsRow_below HOY.out hb1)
        have r1 := (hb1.block _ hwY).trans HYr.out
        have z3 := cell_of_row w1 _ 3 _ _ _ r1
        have z5 := cell_of_row w1 _ 5 _ _ _ r1
        have hs1 := HB1.out.size
        clear hb1 r1 x0 x1 x2 x3 x4 x5 x6 y1
        cases bt with
        | false =>
          have HE2 := Lib.hid (HE.out.trans (if_neg (by decide)))
          have HRf := Lib.hid (HRel.out (.slice ao (hadsP l a k).length co) w1 (by rw [HE2.out]; exact HO1.out) HB1.out)
          go_wp2
          exact ⟨by obtain ⟨k', h1, h2, h3⟩ := HRf.out; exact ⟨k', h1, by first | exact h2 | (rw [← h2]; go_num), h3⟩, by simp [intOf]; omega⟩
        | true =>
          have HE2 := Lib.hid (HE.out.trans (if_pos rfl))
          have HX := Lib.hid (RecAt.one (c := hadCells) (sz := 2) w1 (sb, nm) 95 #[.int .i64 sb, .string nm] rfl)
          have hp1 := HPl.out
          obtain ⟨LH, hLH⟩ : ∃ LH, LH = hadsP l a k := ⟨_, rfl⟩
          rw [← hLH] at HO1 HE2 hp1 hc1 ⊢
          clear hLH HPl
          go_wp2_with (at_builtin; refine append_rec (c := hadCells) (sz := 2) (fun _ => rfl) had_one 95 92 _ 24 Tryz.underlying92 Tryz.hadInfo rfl (by decide) rfl _ _ rfl W.heap.size ?hs _ _ LH [(sb, nm)] rfl rfl (HO1.out.alloc _) HX.out ?hl ?hb ?_)
          case hs => simp; omega
          case hl => unfold maxLen; simp <;> omega
          case hb => simp <;> omega
          intro R hR v5 w5 own5 hg5
          have HRf := Lib.hid (HRel.out v5 w5 (by rw [HE2.out, ← hR.out]; exact own5) ((HB1.out.alloc HB1.out.size _).trans hg5))
          clear own5 hg5 hR
          go_wp2
          exact ⟨by obtain ⟨k', h1, h2, h3⟩ := HRf.out; exact ⟨k', h1, by first | exact h2 | (rw [← h2]; go_num), h3⟩, by simp [intOf]; omega⟩
      · have k1 : (kd == 8) = false := beq_eq_false_iff_ne.2 h8
        have HE := Lib.hid (HNo.out h8)
        have HRf := Lib.hid (HRel.out (.slice ao (hadsP l a k).length co) Y (by rw [HE.out]; exact HOY.out) HBY.out)
        clear h8 HNo HYe
        go_upto_region 6 with (fail)
        rw [← HY.out]
        go_wp2
        exact ⟨by obtain ⟨k', h1, h2, h3⟩ := HRf.out; exact ⟨k', h1, by first | exact h2 | (rw [← h2]; go_num), h3⟩, by simp [intOf]; omega⟩
    · have hkz : ¬ (k : Int) < (l.length : Int) := by omega
      have hke : k = l.length := by omega
      subst hke
      have HS := Lib.hid (sortHad_calls W.heap.size wo _ (hadsP l a l.length) HR.out.own HR.out.b.size (by have := HPl.out; omega))
      have HB := Lib.hid HR.out.b
      generalize hPl : hadsP l a l.length = P at *
      have HPe := Lib.hid hPl
      clear hPl HR
      go_wp2_with fail
      refine HS.out.mono ?_
      rintro e w2 ⟨rfl, hb2, -, S, hp, hs, ho⟩
      have HSl := Lib.hid hp.length_eq
      have Hho := Lib.hid (had_comp (l := l) (a := a) (S := S) (by rw [HPe.out]; exact hp) (hs.imp fun {x y} h => (had_no _ _).1 h))
      have HB2 := Lib.hid (HB.out.trans hb2)
      rw [← HSl.out] at ho ⊢
      have HK := Lib.hid (compactH_calls (.slice ao S.length co) S W.heap.size w2 ho HB2.out.size)
      have HCl := Lib.hid (cmpC_len S S.length)
      have hp1 := HPl.out
      rw [← HSl.out] at hp1
      clear hb2 hp hs ho HPl
      go_wp2_with fail
      refine HK.out.mono ?_
      rintro e w3 ⟨v3, rfl, hr3, hb3⟩
      have HR3 := Lib.hid (show AllTo l a w (.returned v3) w3 from ⟨v3, _, rfl, hr3, Hho.out, by have := HCl.out; omega, Hw0.out.trans ((HB2.out.trans hb3).mono (by omega))⟩)
      clear hr3 hb3
      go_wp2
      go_ret
      exact HR3.out
end Go.Proofs.YtngippiilgdnoaaGreat
