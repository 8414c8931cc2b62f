/-
  The walk of product.Fees.
-/
import Derived.Test.YtmijdmchhlcblaaFilterP
import Derived.Test.YtmijdmchhlcblaaClone19
namespace Go.Proofs.Ytmijdmchhlcblaa
open Go.RowKit

theorem Try.pricedInfo : (Try.prog.info? 48).map (fun i => (i.zero, i.size, i.bytes)) = some (some (.agg #[.int .i64 0, .int .i64 0, .int .i64 0]), 3, 24) := by kernel_rfl

/-- What a version adds to the fees of a period. -/
def feeAt (l : List Pd) (f t : Int) (i : Nat) (h : i < l.length) : List (Int × Int × Int) :=
  let a := if l[i].fm < f then f else l[i].fm
  let b := if h' : i + 1 < l.length then (if l[i + 1].fm < t then l[i + 1].fm else t) else t
  if a < b then [(a, b, l[i].fe)] else []
def feesUpto (l : List Pd) (f t : Int) : Nat → List (Int × Int × Int)
  | 0 => []
  | k + 1 => feesUpto l f t k ++ (if h : k < l.length then feeAt l f t k h else [])
def feesL (l : List Pd) (f t : Int) : List (Int × Int × Int) := feesUpto l f t l.length
def prCells (q : Int × Int × Int) : List Value := [.int .i64 q.1, .int .i64 q.2.1, .int .i64 q.2.2]

theorem fees_le (l : List Pd) (f t : Int) (k : Nat) : (feesUpto l f t k).length ≤ k := by
  induction k with
  | zero => exact Nat.le_refl _
  | succ k ih =>
    rw [feesUpto, List.length_append]
    by_cases h : k < l.length
    · rw [dif_pos h]
      have aux : ∀ (c : Prop) [Decidable c] (x : Int × Int × Int), (if c then [x] else []).length ≤ 1 := by
        intro c _ x
        split <;> simp
      have : (feeAt l f t k h).length ≤ 1 := aux _ _
      omega
    · rw [dif_neg h]; simp; omega

def FeesTo (w : World) (P : List (Int × Int × Int)) (e : Ending) (w' : World) : Prop := ∃ v, e = .returned v ∧ w'.ownsRow w.heap.size 48 3 v P.length (P.flatMap prCells) ∧ Below w.heap.size w w'

set_option maxRecDepth 100000 in
set_option maxHeartbeats 3200000 in
theorem fees_calls (v : Value) (l : List Pd) (s : ByteArray) (f t : Int) (w : World) (h : PdsAt w v l) (hl : l.length ≤ 4096) (h1 : 0 ≤ f) (h2 : f < t) (h3 : t ≤ 12622780800) :
    Calls Try.prog 28 #[v, .string s, .agg #[.int .i64 f, .int .i64 t]] w (FeesTo w (feesL (l.filter (fun x : Pd => eqS x.nm s)) f t)) := by
  have hh := h
  obtain ⟨av, cap, rfl, -, -, -⟩ := h
  have k1 : decide (f < 0) = false := decide_eq_false (by omega)
  have k2 : decide (t ≤ f) = false := decide_eq_false (by omega)
  have k3 : decide (12622780800 < t) = false := decide_eq_false (by omega)
  obtain ⟨W, hW⟩ : ∃ W, W = (w.alloc (Obj.cells #[Value.string s] 9)).alloc (Obj.cells #[Value.int .i64 f, Value.int .i64 t] 42) := ⟨_, rfl⟩
  have hw0 : Below w.heap.size w W := by rw [hW]; go_grown
  have hz : W.heap.size = w.heap.size + 2 := by rw [hW]; simp
  have m0 : W.cell? ⟨w.heap.size, 0, none⟩ = some (.string s) := by rw [hW]; simp [go_sem]
  have p0 : W.cell? ⟨w.heap.size + 1, 0, none⟩ = some (.int .i64 f) := by rw [hW]; simp [go_sem]
  have p1 : W.cell? ⟨w.heap.size + 1, 1, none⟩ = some (.int .i64 t) := by rw [hW]; simp [go_sem]
  have r2 : W.heap[w.heap.size + 1]? = some (Obj.cells #[Value.int .i64 f, Value.int .i64 t] 42) := by rw [hW]; simpa using heap_alloc_new (w.alloc _) _
  have Hc := Lib.hid (filterFees_calls _ l s w.heap.size W (hh.below hw0) hl m0)
  have HW := Lib.hid hW
  have Hr := Lib.hid r2
  have Hz := Lib.hid hz
  have hlen := List.length_filter_le (fun x : Pd => eqS x.nm s) l
  clear hW m0 r2 hz hh
  go_enter Try.func28, Try.ntmps28
  go_wp2_with fail
  rw [← HW.out]
  go_wp2_with fail
  refine Hc.out.mono ?_
  rintro e w1 ⟨v1, rfl, hp, hb1⟩
  obtain ⟨F, hF⟩ : ∃ F, F = l.filter (fun x : Pd => eqS x.nm s) := ⟨_, rfl⟩
  rw [← hF] at hp hlen
  have HF := Lib.hid hF
  clear hF
  have hpp := hp
  obtain ⟨a1, c1, rfl, -, -, -⟩ := hp
  have q2 := (hb1.block (w.heap.size + 1) (by rw [Hz.out]; omega)).trans Hr.out
  have Q2 := Lib.hid q2
  have hsz := hb1.size
  rw [Hz.out] at hsz
  have hb2 := hw0.trans (hb1.mono hw0.size)
  clear q2 p0 p1 hb1
  have hz2 : w.heap.size ≤ w1.heap.size := by omega
  go_wp2_with fail
  go_loopw [8, 32] (fun v i wr => ∃ k : Nat, k ≤ F.length ∧ i = .int .i64 k ∧ wr.ownsRow w1.heap.size 48 3 v (feesUpto F f t k).length ((feesUpto F f t k).flatMap prCells) ∧ Below w1.heap.size w1 wr) (fun _ i _ => F.length - (intOf i).toNat)
  case atStart => exact ⟨0, Nat.zero_le _, rfl, ⟨rfl, Or.inl ⟨rfl, rfl⟩⟩, Below.refl _ _⟩
  case round =>
    obtain ⟨k, hk, rfl, hown, hb⟩ := hrel
    by_cases hlt : k < F.length
    · obtain ⟨av', cap', hv, -, -, hs⟩ := hpp.below hb
      cases hv
      obtain ⟨b, o, rfl, hB, hs⟩ := hs (by rintro rfl; cases hlt)
      obtain ⟨⟨c0, s0⟩, c1, c2, ⟨c3, s3⟩, c4, bv, c5, hbs⟩ := hs k hlt
      obtain ⟨ab, cb, rfl, -, -, -⟩ := hbs
      have hle := fees_le F f t k
      have hbz := hb.size
      have hk0 : (0 : Int) ≤ (k : Int) := Int.natCast_nonneg _
      have hk1 : (k : Int) < (F.length : Int) := by omega
      have q3 := (hb.block (w.heap.size + 1) (by omega)).trans Q2.out
      have p0 : wr.cell? ⟨w.heap.size + 1, 0, none⟩ = some (.int .i64 f) := cell_of_row wr _ 0 _ _ _ q3
      have p1 : wr.cell? ⟨w.heap.size + 1, 1, none⟩ = some (.int .i64 t) := cell_of_row wr _ 1 _ _ _ q3
      have hB1 : w.heap.size + 1 < wr.heap.size := by omega
      obtain ⟨nm, hnm⟩ : ∃ a, a = F[k].nm := ⟨_, rfl⟩
      obtain ⟨fm, hfm⟩ : ∃ a, a = F[k].fm := ⟨_, rfl⟩
      obtain ⟨fe, hfe⟩ : ∃ a, a = F[k].fe := ⟨_, rfl⟩
      obtain ⟨ct, hct⟩ : ∃ a, a = F[k].ct := ⟨_, rfl⟩
      obtain ⟨pro, hpro⟩ : ∃ a, a = F[k].pro := ⟨_, rfl⟩
      obtain ⟨bs, hbs⟩ : ∃ a, a = F[k].bs := ⟨_, rfl⟩
      rw [← hnm] at c0 s0
      rw [← hfm] at c1
      rw [← hfe] at c2
      rw [← hct] at c3 s3
      rw [← hpro] at c4
      rw [← hbs] at c5
      obtain ⟨a, ha⟩ : ∃ a, a = (if fm < f then f else fm) := ⟨_, rfl⟩
      have hU : feesUpto F f t (k + 1) = feesUpto F f t k ++ feeAt F f t k hlt := by rw [feesUpto, dif_pos hlt]
      have Hown := Lib.hid hown
      have hk2 : IntKind.i64.wrap ((k : Int) + 1) = (k : Int) + 1 := IntWalk.i64_in _ (by omega)
      clear q3 hown hnm hct hpro hbs
      obtain ⟨X, hX⟩ : ∃ X, X = (wr.alloc (Obj.cells #[Value.string nm, Value.int .i64 fm, Value.int .i64 fe, Value.string ct, Value.bool pro, Value.slice ab bs.length cb] 33)).alloc (Obj.cells #[Value.int .i64 a, Value.int .i64 t] 42) := ⟨_, rfl⟩
      have hbX : Below wr.heap.size wr X := by rw [hX]; go_grown
      have x2 : X.cell? ⟨wr.heap.size, 2, none⟩ = some (Value.int .i64 fe) := by rw [hX]; simp [go_sem]
      have y0 : X.cell? ⟨wr.heap.size + 1, 0, none⟩ = some (Value.int .i64 a) := by rw [hX]; simp [go_sem]
      have y1 : X.cell? ⟨wr.heap.size + 1, 1, none⟩ = some (Value.int .i64 t) := by rw [hX]; simp [go_sem]
      have hXz : X.heap.size = wr.heap.size + 2 := by rw [hX]; simp
      have yr : X.heap[wr.heap.size + 1]? = some (Obj.cells #[Value.int .i64 a, Value.int .i64 t] 42) := by rw [hX]; simpa using heap_alloc_new (wr.alloc _) _
      have yf : X.frozen? ⟨wr.heap.size + 1, 1, none⟩ = false := by simp [World.frozen?, yr]
      by_cases hn : k + 1 < F.length
      · obtain ⟨-, d1, -⟩ := hs (k + 1) hn
        obtain ⟨fn, hfn⟩ : ∃ a, a = F[k + 1].fm := ⟨_, rfl⟩
        rw [← hfn] at d1
        obtain ⟨b1, hb1⟩ : ∃ b1, b1 = (if fn < t then fn else t) := ⟨_, rfl⟩
        have hU2 : feesUpto F f t (k + 1) = feesUpto F f t k ++ (if a < b1 then [(a, b1, fe)] else []) := by
          rw [hU, feeAt, dif_pos hn, ← hfn, ← hfm, ← ha, ← hb1, ← hfe]
        have HU := Lib.hid hU2
        have hn1 : decide ((k : Int) + 1 < (F.length : Int)) = true := decide_eq_true (by omega)
        have hn2 : (k : Int) + 1 < (F.length : Int) := by omega
        have hn3 : (0 : Int) ≤ (k : Int) + 1 := by omega
        have hn4 : ((k : Int) + 1).toNat = k + 1 := by omega
        have HX := Lib.hid hX
        clear hs hfm hfe hfn hU hU2 hX
        go_upto_region 9 with (fail)
        rw [← ha, ← HX.out]
        have HA := Lib.hid ha
        have HB := Lib.hid hb1
        clear ha hb1
        have z1 : X.cell? ⟨w.heap.size + 1, 1, none⟩ = some (.int .i64 t) := (World.cell?_of_block (a := ⟨w.heap.size + 1, 1, none⟩) (hbX.block _ hB1)).trans p1
        have z2 : X.cell? ⟨b, o + (k + 1) * 6 + 1, none⟩ = some (.int .i64 fn) := (World.cell?_of_block (a := ⟨b, o + (k + 1) * 6 + 1, none⟩) (hbX.block _ hB)).trans d1
        go_wp2_with fail
        go_region
        rw [← HB.out]
        obtain ⟨Y, hY⟩ : ∃ Y, Y = (X.setCell ⟨wr.heap.size + 1, 1, none⟩ (Value.int .i64 b1)).drew := ⟨_, rfl⟩
        have hbY : Below wr.heap.size wr Y := by rw [hY]; exact (hbX.setCell (by dsimp only; omega) _).drew
        have v0 : Y.cell? ⟨wr.heap.size + 1, 0, none⟩ = some (Value.int .i64 a) := by rw [hY, HX.out]; simp [go_sem]
        have v1 : Y.cell? ⟨wr.heap.size + 1, 1, none⟩ = some (Value.int .i64 b1) := by rw [hY, HX.out]; simp [go_sem]
        have v2 : Y.cell? ⟨wr.heap.size, 2, none⟩ = some (Value.int .i64 fe) := by rw [hY]; exact (World.cell?_of_block (a := ⟨wr.heap.size, 2, none⟩) (Below.heap_setCell X _ _ wr.heap.size (by simp))).trans x2
        rw [← hY]
        clear hY x2 y0 y1 yf yr z1 z2 hXz
        have hbY2 : Below w1.heap.size w1 Y := hb.trans (hbY.mono hbz)
        have hY1 : w1.heap.size ≤ Y.heap.size := hbY2.size
        have Hown1 := Lib.hid (ownsRow_below Hown.out hbY)
        by_cases hlt2 : a < b1
        · have hlt3 : decide (a < b1) = true := decide_eq_true hlt2
          obtain ⟨i0, hi, hz0, hz1, hz2'⟩ := info_parts Try.pricedInfo
          have Hi := Lib.hid (And.intro hi (And.intro hz0 (And.intro hz1 hz2')))
          have HU2 := Lib.hid (show feesUpto F f t (k + 1) = feesUpto F f t k ++ [(a, b1, fe)] by rw [HU.out, if_pos hlt2])
          clear hi hz0 hz1 hz2'
          go_wp2_with (at_builtin; refine wpList_append_own _ rfl _ _ 44 rfl w1.heap.size 48 i0 _ 3 24 Try.underlying44 Hi.out.1 Hi.out.2.1 Hi.out.2.2.1 Hi.out.2.2.2 rfl (by decide) _ _ _ rfl (Hown1.out.alloc _) ⟨Y.heap.size, 0, none⟩ 1 1 [.int .i64 a, .int .i64 b1, .int .i64 fe] rfl rfl ?c1 ?c2 ?c3 ?c4 ?c5 ?_)
          case c1 => exact World.news_of_block (cs := #[.int .i64 a, .int .i64 b1, .int .i64 fe]) (t := 48) (fr := (0, 0)) (heap_alloc_new _ _)
          case c2 => simp [Value.oneCell']
          case c3 => unfold maxLen; omega
          case c4 => omega
          case c5 => simp; omega
          intro v' w2 hown2 hgrow _
          have hb4 := (hbY2.alloc hY1 (Obj.cells #[.int .i64 a, .int .i64 b1, .int .i64 fe] 48)).grown hgrow (by simp; omega) (fun g hg => (ownsRow_block Hown1.out g hg).1)
          have Hown2 := Lib.hid hown2
          clear hown2 hgrow
          go_wp2
          refine ⟨⟨k + 1, by omega, by go_num, ?_, hb4⟩, by simp [intOf]; omega⟩
          rw [HU2.out, List.length_append, List.flatMap_append]
          exact Hown2.out
        · have hlt3 : decide (a < b1) = false := decide_eq_false hlt2
          have HU2 := Lib.hid (show feesUpto F f t (k + 1) = feesUpto F f t k by rw [HU.out, if_neg hlt2, List.append_nil])
          go_wp2
          exact ⟨⟨k + 1, by omega, by go_num, by rw [HU2.out]; exact Hown1.out, hbY2⟩, by simp [intOf]; omega⟩
      · have hU2 : feesUpto F f t (k + 1) = feesUpto F f t k ++ (if a < t then [(a, t, fe)] else []) := by
          rw [hU, feeAt, dif_neg hn, ← hfm, ← ha, ← hfe]
        have HU := Lib.hid hU2
        have hn1 : decide ((k : Int) + 1 < (F.length : Int)) = false := decide_eq_false (by omega)
        have HX := Lib.hid hX
        clear hs hfm hfe hU hU2 hX
        go_upto_region 9 with (fail)
        rw [← ha, ← HX.out]
        have HA := Lib.hid ha
        clear ha
        obtain ⟨Y, hY⟩ : ∃ Y, Y = X := ⟨_, rfl⟩
        rw [← hY] at x2 y0 y1 hbX ⊢
        have hbY := hbX
        clear hY yf yr hXz HX
        have hbY2 : Below w1.heap.size w1 Y := hb.trans (hbY.mono hbz)
        have hY1 : w1.heap.size ≤ Y.heap.size := hbY2.size
        have Hown1 := Lib.hid (ownsRow_below Hown.out hbY)
        by_cases hlt2 : a < t
        · have hlt3 : decide (a < t) = true := decide_eq_true hlt2
          obtain ⟨i0, hi, hz0, hz1, hz2'⟩ := info_parts Try.pricedInfo
          have Hi := Lib.hid (And.intro hi (And.intro hz0 (And.intro hz1 hz2')))
          have HU2 := Lib.hid (show feesUpto F f t (k + 1) = feesUpto F f t k ++ [(a, t, fe)] by rw [HU.out, if_pos hlt2])
          clear hi hz0 hz1 hz2'
          go_wp2_with (at_builtin; refine wpList_append_own _ rfl _ _ 44 rfl w1.heap.size 48 i0 _ 3 24 Try.underlying44 Hi.out.1 Hi.out.2.1 Hi.out.2.2.1 Hi.out.2.2.2 rfl (by decide) _ _ _ rfl (Hown1.out.alloc _) ⟨Y.heap.size, 0, none⟩ 1 1 [.int .i64 a, .int .i64 t, .int .i64 fe] rfl rfl ?c1 ?c2 ?c3 ?c4 ?c5 ?_)
          case c1 => exact World.news_of_block (cs := #[.int .i64 a, .int .i64 t, .int .i64 fe]) (t := 48) (fr := (0, 0)) (heap_alloc_new _ _)
          case c2 => simp [Value.oneCell']
          case c3 => unfold maxLen; omega
          case c4 => omega
          case c5 => simp; omega
          intro v' w2 hown2 hgrow _
          have hb4 := (hbY2.alloc hY1 (Obj.cells #[.int .i64 a, .int .i64 t, .int .i64 fe] 48)).grown hgrow (by simp; omega) (fun g hg => (ownsRow_block Hown1.out g hg).1)
          have Hown2 := Lib.hid hown2
          clear hown2 hgrow
          go_wp2
          refine ⟨⟨k + 1, by omega, by go_num, ?_, hb4⟩, by simp [intOf]; omega⟩
          rw [HU2.out, List.length_append, List.flatMap_append]
          exact Hown2.out
        · have hlt3 : decide (a < t) = false := decide_eq_false hlt2
          have HU2 := Lib.hid (show feesUpto F f t (k + 1) = feesUpto F f t k by rw [HU.out, if_neg hlt2, List.append_nil])
          go_wp2
          exact ⟨⟨k + 1, by omega, by go_num, by rw [HU2.out]; exact Hown1.out, hbY2⟩, by simp [intOf]; omega⟩
    · have hall : feesUpto F f t k = feesL F f t := by rw [show k = F.length by omega]; rfl
      rw [hall] at hown
      obtain ⟨ao, co, rfl, -, -⟩ := own_shape hown
      have Hown := Lib.hid hown
      clear hown hall
      go_wp2
      go_ret
      exact ⟨_, rfl, by rw [← HF.out]; exact ⟨Hown.out.1, Hown.out.2.imp id (fun ⟨g, c, cur, h1, h2, h3⟩ => ⟨g, c, cur, h1, Nat.le_trans hz2 h2, h3⟩)⟩, hb2.trans (hb.mono hz2)⟩
end Go.Proofs.Ytmijdmchhlcblaa
