/-
  Tariffs in memory: rates, discounts with their expressions.
  Usages; the walks of segment.proper and of the reference's proper.
  The walks of the reference's Count, SmallExpr, Small: each ends in some number or truth.
  The walk of the reference's Small: it ends in some truth.
-/
import Derived.Test.YtnekgkmlodeckaaMgap
import Derived.Test.YtnekgkmlodeckaaMgav
import Derived.Test.YtnekgkmlodeckaaMgag
import Derived.Test.YtnekgkmlodeckaaMgai
namespace Go.Proofs.Ytnekgkmlodeckaa
open Go.RowKit

theorem StCells.stays : Stays StCells := fun _ _ _ _ _ hb hB h => h.below hb hB
/-- Steps, with a capacity that a slice can have. -/
def StpAt (w : World) (v : Value) (l : List St) : Prop := SliceAt 3 StCells w v l
theorem StpAt.below {w w' : World} {v : Value} {l : List St} (h : StpAt w v l) (hb : Below w.heap.size w w') : StpAt w' v l := SliceAt.below StCells.stays h hb
theorem StpAt.steps {w : World} {v : Value} {l : List St} (h : StpAt w v l) : StepsAt w v l := by
  obtain ⟨av, cap, rfl, hl, hm, hc⟩ := h
  exact ⟨av, cap, rfl, Nat.le_trans hl hm.1, hc⟩
/-- A rate: its kind, zone, band, setup, steps. -/
abbrev Rt := Int × ByteArray × ByteArray × Int × List St
def RtR (w : World) (b o : Nat) (x : Rt) : Prop := w.cell? ⟨b, o, none⟩ = some (.int .i64 x.1) ∧ StrR w b (o + 1) x.2.1 ∧ StrR w b (o + 2) x.2.2.1 ∧ w.cell? ⟨b, o + 3, none⟩ = some (.int .i64 x.2.2.2.1) ∧ ∃ v, w.cell? ⟨b, o + 4, none⟩ = some v ∧ StpAt w v x.2.2.2.2
theorem RtR.stays : Stays RtR := fun _ _ b o _ hb hB ⟨h0, h1, h2, h3, v, h4, hv⟩ =>
  ⟨(hb.cell (p := ⟨b, o, none⟩) hB).trans h0, StrR.stays _ _ _ _ _ hb hB h1, StrR.stays _ _ _ _ _ hb hB h2, (hb.cell (p := ⟨b, o + 3, none⟩) hB).trans h3, v, (hb.cell (p := ⟨b, o + 4, none⟩) hB).trans h4, hv.below hb⟩
def RtsAt (w : World) (v : Value) (l : List Rt) : Prop := SliceAt 5 RtR w v l
theorem RtsAt.below {w w' : World} {v : Value} {l : List Rt} (h : RtsAt w v l) (hb : Below w.heap.size w w') : RtsAt w' v l := SliceAt.below RtR.stays h hb

/-- An expression of at most this depth, in four cells. -/
def ExprAt (w : World) : Nat → List Value → Prop
  | 0, _ => False
  | n + 1, cs => ∃ (op num : Int) (tx : ByteArray) (av : Option Addr) (len cap : Nat), cs = [.int .i64 op, .int .i64 num, .string tx, .slice av len cap] ∧ tx.size ≤ maxLen ∧ len ≤ cap ∧ cap ≤ maxLen ∧
      (0 < len → ∃ b o, av = some ⟨b, o, none⟩ ∧ b < w.heap.size ∧ ∀ i, i < len → ∃ cs', (∀ j, j < 4 → w.cell? ⟨b, o + i * 4 + j, none⟩ = cs'[j]?) ∧ ExprAt w n cs')
theorem ExprAt.below {w w' : World} (hb : Below w.heap.size w w') : ∀ (n : Nat) (cs : List Value), ExprAt w n cs → ExprAt w' n cs
  | 0, _, h => h
  | n + 1, cs, h => by
    obtain ⟨op, num, tx, av, len, cap, rfl, h1, h2, h3, hx⟩ := h
    refine ⟨op, num, tx, av, len, cap, rfl, h1, h2, h3, fun h0 => ?_⟩
    obtain ⟨b, o, rfl, hB, hx⟩ := hx h0
    refine ⟨b, o, rfl, Nat.lt_of_lt_of_le hB hb.size, fun i hi => ?_⟩
    obtain ⟨cs', h4, h5⟩ := hx i hi
    exact ⟨cs', fun j hj => (hb.cell (p := ⟨b, _, none⟩) hB).trans (h4 j hj), ExprAt.below hb n cs' h5⟩
theorem ExprAt.more {w : World} : ∀ (n m : Nat) (cs : List Value), n ≤ m → ExprAt w n cs → ExprAt w m cs
  | 0, _, _, _, h => h.elim
  | n + 1, 0, _, h, _ => absurd h (by omega)
  | n + 1, m + 1, cs, hnm, h => by
    obtain ⟨op, num, tx, av, len, cap, rfl, h1, h2, h3, hx⟩ := h
    refine ⟨op, num, tx, av, len, cap, rfl, h1, h2, h3, fun h0 => ?_⟩
    obtain ⟨b, o, rfl, hB, hx⟩ := hx h0
    refine ⟨b, o, rfl, hB, fun i hi => ?_⟩
    obtain ⟨cs', h4, h5⟩ := hx i hi
    exact ⟨cs', h4, ExprAt.more n m cs' (by omega) h5⟩
/-- A discount: its expression's depth and cells. -/
def DsR (w : World) (b o : Nat) (x : Nat × List Value) : Prop := (∀ j, j < 4 → w.cell? ⟨b, o + 1 + j, none⟩ = x.2[j]?) ∧ ExprAt w x.1 x.2
theorem DsR.stays : Stays DsR := fun _ _ b _ _ hb hB h => ⟨fun j hj => (hb.cell (p := ⟨b, _, none⟩) hB).trans (h.1 j hj), ExprAt.below hb _ _ h.2⟩
def DssAt (w : World) (v : Value) (l : List (Nat × List Value)) : Prop := SliceAt 6 DsR w v l
theorem DssAt.below {w w' : World} {v : Value} {l : List (Nat × List Value)} (h : DssAt w v l) (hb : Below w.heap.size w w') : DssAt w' v l := SliceAt.below DsR.stays h hb
end Go.Proofs.Ytnekgkmlodeckaa

namespace Go.Proofs.Ytnekgkmlodeckaa
open Go.RowKit

/-- A usage. -/
structure Us where
  id : Int
  kd : Int
  ac : Int
  sb : Int
  a : ByteArray
  b : ByteArray
  st : Int
  un : Int
  tr : Int
  ib : Bool
  so : Int
  se : Int
def Us.row (u : Us) : Array Value := #[.int .i64 u.id, .int .i64 u.kd, .int .i64 u.ac, .int .i64 u.sb, .string u.a, .string u.b, .int .i64 u.st, .int .i64 u.un, .int .i64 u.tr, .bool u.ib, .int .i64 u.so, .int .i64 u.se]
/-- Is the remaining usage proper? -/
def properP (u : Us) (free : Int) : Bool :=
  !(decide (free < 0) || (decide (1099511627776 < u.un) || (decide (u.un ≤ free) || (decide (u.st < 0) || decide (12622780800 ≤ u.st))))) && (decide (u.kd ≠ 1) || (decide (u.un ≤ 604800) && decide (u.st + u.un ≤ 12622780800)))
theorem geq_le {a b : Int} (h : b ≤ a) : decide (a ≥ b) = true := decide_eq_true h

set_option maxRecDepth 100000 in
set_option maxHeartbeats 6400000 in
theorem proper_calls (u : Us) (free : Int) (w : World) : Calls Try.prog 53 #[.agg u.row, .int .i64 free] w fun e w' => e = .returned (.bool (properP u free)) ∧ Below w.heap.size w w' := by
  have HB := Lib.hid (fun o => show Below w.heap.size w (w.alloc o) from (Below.refl _ _).alloc (Nat.le_refl _) o)
  have HP := Lib.hid (show properP u free = (!(decide (free < 0) || (decide (1099511627776 < u.un) || (decide (u.un ≤ free) || (decide (u.st < 0) || decide (12622780800 ≤ u.st))))) && (decide (u.kd ≠ 1) || (decide (u.un ≤ 604800) && decide (u.st + u.un ≤ 12622780800)))) from rfl)
  unfold Us.row
  generalize properP u free = P at *
  obtain ⟨id, kd, ac, sb, a, b, st, un, tr, ib, so, se⟩ := u
  dsimp only at HP ⊢
  by_cases h1 : free < 0
  · skip
    obtain rfl : P = false := HP.out.trans (by simp [h1])
    clear HP
    go_enter Try.func53, Try.ntmps53
    go_wp2
    go_ret
    exact ⟨rfl, HB.out _⟩
  by_cases h2 : 1099511627776 < un
  · skip
    obtain rfl : P = false := HP.out.trans (by simp [h2])
    clear HP
    go_enter Try.func53, Try.ntmps53
    go_wp2
    go_ret
    exact ⟨rfl, HB.out _⟩
  by_cases h3 : un ≤ free
  · skip
    obtain rfl : P = false := HP.out.trans (by simp [h3])
    clear HP
    go_enter Try.func53, Try.ntmps53
    go_wp2
    go_ret
    exact ⟨rfl, HB.out _⟩
  by_cases h4 : st < 0
  · skip
    obtain rfl : P = false := HP.out.trans (by simp [h4])
    clear HP
    go_enter Try.func53, Try.ntmps53
    go_wp2
    go_ret
    exact ⟨rfl, HB.out _⟩
  by_cases h5 : 12622780800 ≤ st
  · skip
    obtain rfl : P = false := HP.out.trans (by simp [h5])
    clear HP
    go_enter Try.func53, Try.ntmps53
    go_wp2
    go_ret
    exact ⟨rfl, HB.out _⟩
  by_cases h6 : kd = 1
  · have hk : (kd != 1) = false := bne_eq_false_iff_eq.2 h6
    by_cases h7 : un ≤ 604800
    · have hw : IntKind.i64.wrap (st + un) = st + un := IntWalk.i64_in _ (by omega)
      by_cases h8 : st + un ≤ 12622780800
      · skip
        obtain rfl : P = true := HP.out.trans (by simp [h1, h2, h3, h4, h5, h6, h7, h8])
        clear HP
        go_enter Try.func53, Try.ntmps53
        go_wp2
        go_ret
        exact ⟨rfl, HB.out _⟩
      · skip
        obtain rfl : P = false := HP.out.trans (by simp [h6, h7, h8])
        clear HP
        go_enter Try.func53, Try.ntmps53
        go_wp2
        go_ret
        exact ⟨rfl, HB.out _⟩
    · skip
      obtain rfl : P = false := HP.out.trans (by simp [h6, h7])
      clear HP
      go_enter Try.func53, Try.ntmps53
      go_wp2
      go_ret
      exact ⟨rfl, HB.out _⟩
  · have hk : (kd != 1) = true := bne_iff_ne.2 h6
    obtain rfl : P = true := HP.out.trans (by simp [h1, h2, h3, h4, h5, h6])
    clear HP
    go_enter Try.func53, Try.ntmps53
    go_wp2
    go_ret
    exact ⟨rfl, HB.out _⟩

set_option maxRecDepth 100000 in
set_option maxHeartbeats 6400000 in
theorem rproper_calls (u : Us) (free : Int) (w : World) : Calls Try.prog 54 #[.agg u.row, .int .i64 free] w fun e w' => e = .returned (.bool (properP u free)) ∧ Below w.heap.size w w' := by
  have HB := Lib.hid (fun o => show Below w.heap.size w (w.alloc o) from (Below.refl _ _).alloc (Nat.le_refl _) o)
  have HP := Lib.hid (show properP u free = (!(decide (free < 0) || (decide (1099511627776 < u.un) || (decide (u.un ≤ free) || (decide (u.st < 0) || decide (12622780800 ≤ u.st))))) && (decide (u.kd ≠ 1) || (decide (u.un ≤ 604800) && decide (u.st + u.un ≤ 12622780800)))) from rfl)
  unfold Us.row
  generalize properP u free = P at *
  obtain ⟨id, kd, ac, sb, a, b, st, un, tr, ib, so, se⟩ := u
  dsimp only at HP ⊢
  by_cases h1 : free < 0
  · skip
    obtain rfl : P = false := HP.out.trans (by simp [h1])
    clear HP
    go_enter Try.func54, Try.ntmps54
    go_wp2
    go_ret
    exact ⟨rfl, HB.out _⟩
  by_cases h2 : 1099511627776 < un
  · skip
    obtain rfl : P = false := HP.out.trans (by simp [h2])
    clear HP
    go_enter Try.func54, Try.ntmps54
    go_wp2
    go_ret
    exact ⟨rfl, HB.out _⟩
  by_cases h3 : un ≤ free
  · skip
    obtain rfl : P = false := HP.out.trans (by simp [h3])
    clear HP
    go_enter Try.func54, Try.ntmps54
    go_wp2
    go_ret
    exact ⟨rfl, HB.out _⟩
  by_cases h4 : st < 0
  · skip
    obtain rfl : P = false := HP.out.trans (by simp [h4])
    clear HP
    go_enter Try.func54, Try.ntmps54
    go_wp2
    go_ret
    exact ⟨rfl, HB.out _⟩
  by_cases h5 : 12622780800 ≤ st
  · skip
    obtain rfl : P = false := HP.out.trans (by simp [h5])
    clear HP
    go_enter Try.func54, Try.ntmps54
    go_wp2
    go_ret
    exact ⟨rfl, HB.out _⟩
  by_cases h6 : kd = 1
  · have hk : (kd != 1) = false := bne_eq_false_iff_eq.2 h6
    by_cases h7 : un ≤ 604800
    · have hw : IntKind.i64.wrap (st + un) = st + un := IntWalk.i64_in _ (by omega)
      by_cases h8 : st + un ≤ 12622780800
      · skip
        obtain rfl : P = true := HP.out.trans (by simp [h1, h2, h3, h4, h5, h6, h7, h8])
        clear HP
        go_enter Try.func54, Try.ntmps54
        go_wp2
        go_ret
        exact ⟨rfl, HB.out _⟩
      · skip
        obtain rfl : P = false := HP.out.trans (by simp [h6, h7, h8])
        clear HP
        go_enter Try.func54, Try.ntmps54
        go_wp2
        go_ret
        exact ⟨rfl, HB.out _⟩
    · skip
      obtain rfl : P = false := HP.out.trans (by simp [h6, h7])
      clear HP
      go_enter Try.func54, Try.ntmps54
      go_wp2
      go_ret
      exact ⟨rfl, HB.out _⟩
  · have hk : (kd != 1) = true := bne_iff_ne.2 h6
    obtain rfl : P = true := HP.out.trans (by simp [h1, h2, h3, h4, h5, h6])
    clear HP
    go_enter Try.func54, Try.ntmps54
    go_wp2
    go_ret
    exact ⟨rfl, HB.out _⟩
end Go.Proofs.Ytnekgkmlodeckaa

namespace Go.Proofs.Ytnekgkmlodeckaa
open Go.RowKit

def SomeInt (w : World) (e : Ending) (w' : World) : Prop := ∃ k : Int, e = .returned (.int .i64 k) ∧ Below w.heap.size w w'
def SomeB (w : World) (e : Ending) (w' : World) : Prop := ∃ r : Bool, e = .returned (.bool r) ∧ Below w.heap.size w w'
theorem ExprAt.form {w : World} {n : Nat} {cs : List Value} (h : ExprAt w n cs) : ∃ (op num : Int) (tx : ByteArray) (av : Option Addr) (len cap : Nat), cs = [.int .i64 op, .int .i64 num, .string tx, .slice av len cap] := by
  cases n with
  | zero => exact h.elim
  | succ n =>
    obtain ⟨op, num, tx, av, len, cap, e, -⟩ := h
    exact ⟨op, num, tx, av, len, cap, e⟩
theorem four_cells {w : World} {b o : Nat} {a0 a1 a2 a3 : Value} (h : ∀ j, j < 4 → w.cell? ⟨b, o + j, none⟩ = [a0, a1, a2, a3][j]?) : w.cell? ⟨b, o, none⟩ = some a0 ∧ w.cell? ⟨b, o + 1, none⟩ = some a1 ∧ w.cell? ⟨b, o + 2, none⟩ = some a2 ∧ w.cell? ⟨b, o + 3, none⟩ = some a3 :=
  ⟨h 0 (by omega), h 1 (by omega), h 2 (by omega), h 3 (by omega)⟩

set_option maxRecDepth 100000 in
set_option maxHeartbeats 3200000 in
theorem count_calls : ∀ (n : Nat) (w : World) (cs : List Value), ExprAt w n cs → Calls Try.prog 90 #[.agg cs.toArray] w (SomeInt w) := by
  intro n
  induction n with
  | zero => intro w cs h; exact h.elim
  | succ n ih =>
    intro w cs h
    obtain ⟨op, num, tx, av, len, cap, rfl, htx, hlc, hcm, hx⟩ := h
    show Calls Try.prog 90 #[.agg #[.int .i64 op, .int .i64 num, .string tx, .slice av len cap]] w (SomeInt w)
    have Ih := Lib.hid ih
    have Hx := Lib.hid hx
    obtain ⟨W, hW⟩ : ∃ W, W = w.alloc (Obj.cells #[Value.int .i64 op, .int .i64 num, .string tx, .slice av len cap] 90) := ⟨_, rfl⟩
    have hw0 : Below w.heap.size w W := by rw [hW]; exact (Below.refl _ _).alloc (Nat.le_refl _) _
    have rW : W.heap[w.heap.size]? = some (Obj.cells #[Value.int .i64 op, .int .i64 num, .string tx, .slice av len cap] 90) := by rw [hW]; exact heap_alloc_new _ _
    have hzW : w.heap.size < W.heap.size := by rw [hW]; simp
    have HM := Lib.hid (show ∀ w', Below W.heap.size W w' → w'.cell? ⟨w.heap.size, 3, none⟩ = some (.slice av len cap) from fun w' hb => cell_of_row w' _ 3 _ _ _ ((hb.block _ hzW).trans rW))
    have HW := Lib.hid hW
    have Hw0 := Lib.hid hw0
    have m3 := HM.out W (Below.refl _ _)
    unfold maxLen at hcm
    clear ih hx hW rW hw0
    go_enter Try.func90, Try.ntmps90
    go_upto_region 1 with (fail)
    rw [← HW.out]
    go_wp2_with fail
    clear m3
    go_loopw [3, 4] (fun s i wr => ∃ (j : Nat) (m : Int), j ≤ len ∧ i = .int .i64 j ∧ s = .int .i64 m ∧ Below W.heap.size W wr) (fun _ i _ => len - (intOf i).toNat)
    case atStart => exact ⟨0, 1, Nat.zero_le _, rfl, rfl, Below.refl _ _⟩
    case round =>
      obtain ⟨j, m, hj, rfl, rfl, hb⟩ := hrel
      have m3 := HM.out wr hb
      by_cases hlt : j < len
      · obtain ⟨b, o, rfl, hB, hx⟩ := Hx.out (by omega)
        obtain ⟨cs', h4, h5⟩ := hx j hlt
        have hwr := Hw0.out.trans (hb.mono Hw0.out.size)
        have hc := Ih.out wr cs' (ExprAt.below hwr _ _ h5)
        obtain ⟨op', num', tx', av', len', cap', rfl⟩ := h5.form
        obtain ⟨c0, c1, c2, c3⟩ := four_cells h4
        have c0 := (hwr.cell (p := ⟨b, _, none⟩) hB).trans c0
        have c1 := (hwr.cell (p := ⟨b, _, none⟩) hB).trans c1
        have c2 := (hwr.cell (p := ⟨b, _, none⟩) hB).trans c2
        have c3 := (hwr.cell (p := ⟨b, _, none⟩) hB).trans c3
        have Hc := Lib.hid (show Calls Try.prog 90 #[.agg #[.int .i64 op', .int .i64 num', .string tx', .slice av' len' cap']] wr (SomeInt wr) from hc)
        have hj0 : (0 : Int) ≤ (j : Int) := Int.natCast_nonneg _
        have hj1 : (j : Int) < (len : Int) := by omega
        have Hb := Lib.hid hb
        clear hc h4 h5 hx hwr
        go_wp2_with fail
        refine Hc.out.mono ?_
        rintro e w2 ⟨q, rfl, hb2⟩
        have H2 := Lib.hid (Hb.out.trans (hb2.mono Hb.out.size))
        clear c0 c1 c2 c3 m3 hb2
        go_wp2
        exact ⟨⟨j + 1, _, by omega, by go_num, rfl, H2.out⟩, by simp [intOf]; omega⟩
      · go_wp2
        go_ret
        exact ⟨m, rfl, Hw0.out.trans (hb.mono Hw0.out.size)⟩

set_option maxRecDepth 100000 in
set_option maxHeartbeats 3200000 in
theorem smallE_calls : ∀ (n : Nat) (w : World) (cs : List Value), ExprAt w n cs → Calls Try.prog 50 #[.agg cs.toArray] w (SomeB w) := by
  intro n
  induction n with
  | zero => intro w cs h; exact h.elim
  | succ n ih =>
    intro w cs h
    have hAll := h
    obtain ⟨op, num, tx, av, len, cap, rfl, htx, hlc, hcm, hx⟩ := h
    show Calls Try.prog 50 #[.agg #[.int .i64 op, .int .i64 num, .string tx, .slice av len cap]] w (SomeB w)
    have Ih := Lib.hid ih
    have Hx := Lib.hid hx
    obtain ⟨W, hW⟩ : ∃ W, W = w.alloc (Obj.cells #[Value.int .i64 op, .int .i64 num, .string tx, .slice av len cap] 90) := ⟨_, rfl⟩
    have hw0 : Below w.heap.size w W := by rw [hW]; exact (Below.refl _ _).alloc (Nat.le_refl _) _
    have rW : W.heap[w.heap.size]? = some (Obj.cells #[Value.int .i64 op, .int .i64 num, .string tx, .slice av len cap] 90) := by rw [hW]; exact heap_alloc_new _ _
    have hzW : w.heap.size < W.heap.size := by rw [hW]; simp
    have HM := Lib.hid (show ∀ w', Below W.heap.size W w' → w'.cell? ⟨w.heap.size, 0, none⟩ = some (.int .i64 op) ∧ w'.cell? ⟨w.heap.size, 1, none⟩ = some (.int .i64 num) ∧ w'.cell? ⟨w.heap.size, 2, none⟩ = some (.string tx) ∧ w'.cell? ⟨w.heap.size, 3, none⟩ = some (.slice av len cap) from fun w' hb => by
      have q := (hb.block _ hzW).trans rW
      exact ⟨cell_of_row w' _ 0 _ _ _ q, cell_of_row w' _ 1 _ _ _ q, cell_of_row w' _ 2 _ _ _ q, cell_of_row w' _ 3 _ _ _ q⟩)
    have HCt := Lib.hid (fun w1 (hb : Below W.heap.size W w1) => (count_calls (n + 1) w1 _ (ExprAt.below (hw0.trans (hb.mono hw0.size)) _ _ hAll) : Calls Try.prog 90 #[.agg #[.int .i64 op, .int .i64 num, .string tx, .slice av len cap]] w1 (SomeInt w1)))
    have HW := Lib.hid hW
    have Hw0 := Lib.hid hw0
    obtain ⟨m0, m1, m2, m3⟩ := HM.out W (Below.refl _ _)
    unfold maxLen at hcm
    clear ih hx hW rW hw0 hAll
    go_enter Try.func50, Try.ntmps50
    go_upto_region 1 with (fail)
    rw [← HW.out]
    go_wp2_with fail
    clear m0 m1 m2 m3
    go_loopw [3] (fun i wr => ∃ (j : Nat), j ≤ len ∧ i = .int .i64 j ∧ Below W.heap.size W wr) (fun i _ => len - (intOf i).toNat)
    case atStart => exact ⟨0, Nat.zero_le _, rfl, Below.refl _ _⟩
    case round =>
      obtain ⟨j, hj, rfl, hb⟩ := hrel
      obtain ⟨m0, m1, m2, m3⟩ := HM.out wr hb
      by_cases hlt : j < len
      · obtain ⟨b, o, rfl, hB, hx⟩ := Hx.out (by omega)
        obtain ⟨cs', h4, h5⟩ := hx j hlt
        have hwr := Hw0.out.trans (hb.mono Hw0.out.size)
        have hc := Ih.out wr cs' (ExprAt.below hwr _ _ h5)
        obtain ⟨op', num', tx', av', len', cap', rfl⟩ := h5.form
        obtain ⟨c0, c1, c2, c3⟩ := four_cells h4
        have c0 := (hwr.cell (p := ⟨b, _, none⟩) hB).trans c0
        have c1 := (hwr.cell (p := ⟨b, _, none⟩) hB).trans c1
        have c2 := (hwr.cell (p := ⟨b, _, none⟩) hB).trans c2
        have c3 := (hwr.cell (p := ⟨b, _, none⟩) hB).trans c3
        have Hc := Lib.hid (show Calls Try.prog 50 #[.agg #[.int .i64 op', .int .i64 num', .string tx', .slice av' len' cap']] wr (SomeB wr) from hc)
        have hj0 : (0 : Int) ≤ (j : Int) := Int.natCast_nonneg _
        have hj1 : (j : Int) < (len : Int) := by omega
        have Hb := Lib.hid hb
        clear hc h4 h5 hx hwr
        go_wp2_with fail
        refine Hc.out.mono ?_
        rintro e w2 ⟨q, rfl, hb2⟩
        have H2 := Lib.hid (Hb.out.trans (hb2.mono Hb.out.size))
        clear c0 c1 c2 c3 m0 m1 m2 m3 hb2
        cases q with
        | true =>
          go_wp2
          exact ⟨⟨j + 1, by omega, by go_num, H2.out⟩, by simp [intOf]; omega⟩
        | false =>
          go_wp2
          go_ret
          exact ⟨false, rfl, Hw0.out.trans (H2.out.mono Hw0.out.size)⟩
      · have Hb := Lib.hid hb
        have HCt := Lib.hid (HCt.out wr hb)
        by_cases h1 : (tx.size : Int) ≤ 300
        · by_cases h2 : (len : Int) ≤ 8
          · go_wp2_with fail
            refine HCt.out.mono ?_
            rintro e w2 ⟨q, rfl, hb2⟩
            have H2 := Lib.hid (Hb.out.trans (hb2.mono Hb.out.size))
            clear m0 m1 m2 m3 hb2
            go_wp2
            go_ret
            exact ⟨_, rfl, Hw0.out.trans (H2.out.mono Hw0.out.size)⟩
          · go_wp2
            go_ret
            exact ⟨_, rfl, Hw0.out.trans (Hb.out.mono Hw0.out.size)⟩
        · go_wp2
          go_ret
          exact ⟨_, rfl, Hw0.out.trans (Hb.out.mono Hw0.out.size)⟩
end Go.Proofs.Ytnekgkmlodeckaa

namespace Go.Proofs.Ytnekgkmlodeckaa
open Go.RowKit

set_option maxRecDepth 100000 in
set_option maxHeartbeats 12800000 in
theorem small_calls (nm : ByteArray) (fr : Int) (sl : Bool) (zv bv rv dv : Value) (zs : List Zn) (bs : List Bn) (rs : List Rt) (ds : List (Nat × List Value)) (w : World) (hz : ZnsAt w zv zs) (hb : BnsAt w bv bs) (hr : RtsAt w rv rs) (hd : DssAt w dv ds) :
    Calls Try.prog 15 #[.agg #[.string nm, .int .i64 fr, .bool sl, zv, bv, rv, dv]] w (SomeB w) := by
  obtain ⟨W, hW⟩ : ∃ W, W = w.alloc (Obj.cells #[Value.string nm, .int .i64 fr, .bool sl, zv, bv, rv, dv] 27) := ⟨_, rfl⟩
  have hw0 : Below w.heap.size w W := by rw [hW]; exact (Below.refl _ _).alloc (Nat.le_refl _) _
  have rW : W.heap[w.heap.size]? = some (Obj.cells #[Value.string nm, .int .i64 fr, .bool sl, zv, bv, rv, dv] 27) := by rw [hW]; exact heap_alloc_new _ _
  have hzW : w.heap.size < W.heap.size := by rw [hW]; simp
  have HM := Lib.hid (show ∀ w', Below W.heap.size W w' → w'.cell? ⟨w.heap.size, 3, none⟩ = some zv ∧ w'.cell? ⟨w.heap.size, 4, none⟩ = some bv ∧ w'.cell? ⟨w.heap.size, 5, none⟩ = some rv ∧ w'.cell? ⟨w.heap.size, 6, none⟩ = some dv from fun w' hb => by
    have q := (hb.block _ hzW).trans rW
    exact ⟨cell_of_row w' _ 3 _ _ _ q, cell_of_row w' _ 4 _ _ _ q, cell_of_row w' _ 5 _ _ _ q, cell_of_row w' _ 6 _ _ _ q⟩)
  have HW := Lib.hid hW
  have Hw0 := Lib.hid hw0
  have Hz := Lib.hid (hz.below hw0)
  have Hb := Lib.hid (hb.below hw0)
  have Hr := Lib.hid (hr.below hw0)
  have Hd := Lib.hid (hd.below hw0)
  obtain ⟨az, cz, rfl, hz1, hz2, -⟩ := hz
  obtain ⟨ab, cb, rfl, hb1, hb2, -⟩ := hb
  obtain ⟨ar, cr, rfl, hr1, hr2, -⟩ := hr
  obtain ⟨ad, cd, rfl, hd1, hd2, -⟩ := hd
  have hz2 := hz2.1
  have hb2 := hb2.1
  have hr2 := hr2.1
  have hd2 := hd2.1
  unfold maxLen at hz2 hb2 hr2 hd2
  obtain ⟨m3, m4, m5, m6⟩ := HM.out W (Below.refl _ _)
  clear hW rW hw0
  go_enter Try.func15, Try.ntmps15
  go_upto_region 1 with (fail)
  rw [← HW.out]
  by_cases h1 : (70 : Int) < (zs.length : Int)
  · go_wp2
    go_ret
    exact ⟨false, rfl, Hw0.out⟩
  by_cases h2 : (70 : Int) < (bs.length : Int)
  · go_wp2
    go_ret
    exact ⟨false, rfl, Hw0.out⟩
  by_cases h3 : (70 : Int) < (rs.length : Int)
  · go_wp2
    go_ret
    exact ⟨false, rfl, Hw0.out⟩
  by_cases h4 : (70 : Int) < (ds.length : Int)
  · go_wp2
    go_ret
    exact ⟨false, rfl, Hw0.out⟩
  go_wp2_with fail
  go_loop [3, 4] (fun s i => ∃ (j : Nat) (m : Int), j ≤ zs.length ∧ i = .int .i64 j ∧ s = .int .i64 m) (fun _ i => zs.length - (intOf i).toNat)
  case atStart => exact ⟨0, 0, Nat.zero_le _, rfl, rfl⟩
  case round =>
    obtain ⟨j, m, hj, rfl, rfl⟩ := hrel
    by_cases hlt : j < zs.length
    · obtain ⟨az2, cz2, e2, -, -, hx⟩ := Hz.out
      cases e2
      obtain ⟨b, o, rfl, hB, hx⟩ := hx (by rintro rfl; cases hlt)
      obtain ⟨-, sv, c1, hs⟩ := hx j hlt
      have hj0 : (0 : Int) ≤ (j : Int) := Int.natCast_nonneg _
      have hj1 : (j : Int) < (zs.length : Int) := by omega
      clear hx
      generalize zs[j] = y at *
      obtain ⟨zn, ps⟩ := y
      dsimp only at hs
      have hs0 := hs
      obtain ⟨asv, cs, rfl, hsc, hms, -⟩ := hs0
      have hms := hms.1
      unfold maxLen at hms
      go_wp2_with fail
      go_loop [5] (fun i => ∃ k : Nat, k ≤ ps.length ∧ i = .int .i64 k) (fun i => ps.length - (intOf i).toNat)
      case atStart => exact ⟨0, Nat.zero_le _, rfl⟩
      case round =>
        obtain ⟨k, hk, rfl⟩ := hrel
        by_cases hkl : k < ps.length
        · obtain ⟨av4, cap4, e4, -, -, hy⟩ := id hs
          cases e4
          obtain ⟨b4, o4, rfl, hB4, hy⟩ := hy (by rintro rfl; cases hkl)
          obtain ⟨d0, -⟩ := hy k hkl
          rw [Nat.mul_one] at d0
          have hk0 : (0 : Int) ≤ (k : Int) := Int.natCast_nonneg _
          have hk1 : (k : Int) < (ps.length : Int) := by omega
          clear hy
          generalize ps[k] = q at *
          by_cases hq : (100 : Int) < (q.size : Int)
          · go_wp2
            go_ret
            exact ⟨false, rfl, Hw0.out⟩
          · go_wp2
            exact ⟨⟨k + 1, by omega, by go_num⟩, by simp [intOf]; omega⟩
        · go_wp2
          exact ⟨⟨j + 1, _, by omega, by go_num, rfl⟩, by simp [intOf]; omega⟩
    · go_wp2_with fail
      go_loop [3, 6] (fun s i => ∃ (j : Nat) (m : Int), j ≤ bs.length ∧ i = .int .i64 j ∧ s = .int .i64 m) (fun _ i => bs.length - (intOf i).toNat)
      case atStart => exact ⟨0, _, Nat.zero_le _, rfl, rfl⟩
      case round =>
        obtain ⟨j2, m2, hj2, rfl, rfl⟩ := hrel
        by_cases hlt2 : j2 < bs.length
        · obtain ⟨az2, cz2, e2, -, -, hx⟩ := Hb.out
          cases e2
          obtain ⟨b, o, rfl, hB, hx⟩ := hx (by rintro rfl; cases hlt2)
          obtain ⟨-, sv, c1, hs⟩ := hx j2 hlt2
          have hj0 : (0 : Int) ≤ (j2 : Int) := Int.natCast_nonneg _
          have hj1 : (j2 : Int) < (bs.length : Int) := by omega
          clear hx
          obtain ⟨asv, cs, rfl, hsc, hms, -⟩ := hs
          go_wp2
          exact ⟨⟨j2 + 1, _, by omega, by go_num, rfl⟩, by simp [intOf]; omega⟩
        · go_wp2_with fail
          go_loop [3, 7] (fun s i => ∃ (j : Nat) (m : Int), j ≤ rs.length ∧ i = .int .i64 j ∧ s = .int .i64 m) (fun _ i => rs.length - (intOf i).toNat)
          case atStart => exact ⟨0, _, Nat.zero_le _, rfl, rfl⟩
          case round =>
            obtain ⟨j3, m3', hj3, rfl, rfl⟩ := hrel
            by_cases hlt3 : j3 < rs.length
            · obtain ⟨az2, cz2, e2, -, -, hx⟩ := Hr.out
              cases e2
              obtain ⟨b, o, rfl, hB, hx⟩ := hx (by rintro rfl; cases hlt3)
              obtain ⟨-, -, -, -, sv, c1, hs⟩ := hx j3 hlt3
              have hj0 : (0 : Int) ≤ (j3 : Int) := Int.natCast_nonneg _
              have hj1 : (j3 : Int) < (rs.length : Int) := by omega
              clear hx
              obtain ⟨asv, cs, rfl, hsc, hms, -⟩ := hs
              go_wp2
              exact ⟨⟨j3 + 1, _, by omega, by go_num, rfl⟩, by simp [intOf]; omega⟩
            · go_wp2_with fail
              clear m3 m4 m5 m6
              go_loopw [8] (fun i wr => ∃ (j : Nat), j ≤ ds.length ∧ i = .int .i64 j ∧ Below W.heap.size W wr) (fun i _ => ds.length - (intOf i).toNat)
              case atStart => exact ⟨0, Nat.zero_le _, rfl, Below.refl _ _⟩
              case round =>
                obtain ⟨j4, hj4, rfl, hbr⟩ := hrel
                obtain ⟨m3, m4, m5, m6⟩ := HM.out wr hbr
                by_cases hlt4 : j4 < ds.length
                · obtain ⟨az2, cz2, e2, -, -, hx⟩ := Hd.out.below hbr
                  cases e2
                  obtain ⟨b, o, rfl, hB, hx⟩ := hx (by rintro rfl; cases hlt4)
                  obtain ⟨h5, h6⟩ := hx j4 hlt4
                  have hj0 : (0 : Int) ≤ (j4 : Int) := Int.natCast_nonneg _
                  have hj1 : (j4 : Int) < (ds.length : Int) := by omega
                  clear hx
                  generalize ds[j4] = y at *
                  obtain ⟨dn, dc⟩ := y
                  dsimp only at h5 h6
                  have hc := smallE_calls dn wr dc h6
                  obtain ⟨op', num', tx', av', len', cap', rfl⟩ := h6.form
                  obtain ⟨c0, c1, c2, c3⟩ := four_cells h5
                  rw [Nat.add_assoc] at c1 c2 c3
                  have Hc := Lib.hid (show Calls Try.prog 50 #[.agg #[.int .i64 op', .int .i64 num', .string tx', .slice av' len' cap']] wr (SomeB wr) from hc)
                  have Hbr := Lib.hid hbr
                  clear hc h5 h6
                  go_wp2_with fail
                  refine Hc.out.mono ?_
                  rintro e w2 ⟨q, rfl, hb2⟩
                  have H2 := Lib.hid (Hbr.out.trans (hb2.mono Hbr.out.size))
                  clear c0 c1 c2 c3 m3 m4 m5 m6 hb2
                  cases q with
                  | true =>
                    go_wp2
                    exact ⟨⟨j4 + 1, by omega, by go_num, H2.out⟩, by simp [intOf]; omega⟩
                  | false =>
                    go_wp2
                    go_ret
                    exact ⟨false, rfl, Hw0.out.trans (H2.out.mono Hw0.out.size)⟩
                · go_wp2
                  go_ret
                  exact ⟨_, rfl, Hw0.out.trans (hbr.mono Hw0.out.size)⟩
end Go.Proofs.Ytnekgkmlodeckaa
