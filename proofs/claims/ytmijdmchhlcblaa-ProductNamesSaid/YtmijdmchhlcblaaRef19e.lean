/-
  The walk of the reference's Fees.
-/
import Derived.Test.YtmijdmchhlcblaaRef19d
namespace Go.Proofs.Ytmijdmchhlcblaa
open Go.RowKit

set_option maxRecDepth 100000 in
set_option maxHeartbeats 3200000 in
theorem rfees_calls (v : Value) (l : List Pd) (s : ByteArray) (f t : Int) (w : World) (h : PdsAt w v l) (hl : l.length ≤ 4096) (h1 : 0 ≤ f) (h2 : f < t) (h3 : t ≤ 12622780800) :
    Calls Try.prog 29 #[v, .string s, .agg #[.int .i64 f, .int .i64 t]] w (FeesTo w (rfeesL l s f t)) := by
  have hh := h
  obtain ⟨av, cap, rfl, -, -, -⟩ := h
  have k1 : decide (f < 0) = false := decide_eq_false (by omega)
  have k2 : decide (t ≤ f) = false := decide_eq_false (by omega)
  have k3 : decide (12622780800 < t) = false := decide_eq_false (by omega)
  obtain ⟨W, hW⟩ : ∃ W, W = w.alloc (Obj.cells #[Value.int .i64 f, Value.int .i64 t] 42) := ⟨_, rfl⟩
  have hw0 : Below w.heap.size w W := by rw [hW]; go_grown
  have hz : W.heap.size = w.heap.size + 1 := by rw [hW]; simp
  have r2 : W.heap[w.heap.size]? = some (Obj.cells #[Value.int .i64 f, Value.int .i64 t] 42) := by rw [hW]; exact heap_alloc_new _ _
  have hpp := hh.below hw0
  have HW := Lib.hid hW
  have Hr := Lib.hid r2
  have hz2 : w.heap.size < W.heap.size := by omega
  clear hW r2 hz hh
  go_enter Try.func29, Try.ntmps29
  go_wp2_with fail
  rw [← HW.out]
  go_loopw [7, 8] (fun v i wr => ∃ k : Nat, k ≤ l.length ∧ i = .int .i64 k ∧ wr.ownsRow W.heap.size 48 3 v (rfeesUpto l s f t k).length ((rfeesUpto l s f t k).flatMap prCells) ∧ Below W.heap.size W wr) (fun _ i _ => l.length - (intOf i).toNat)
  case atStart => exact ⟨0, Nat.zero_le _, rfl, ⟨rfl, Or.inl ⟨rfl, rfl⟩⟩, Below.refl _ _⟩
  case round =>
    obtain ⟨k, hk, rfl, hown, hb⟩ := hrel
    by_cases hlt : k < l.length
    · obtain ⟨av', cap', hv, -, -, hs⟩ := hpp.below hb
      cases hv
      obtain ⟨b, o, rfl, hB, hs⟩ := hs (by rintro rfl; cases hlt)
      obtain ⟨⟨c0, s0⟩, c1, c2, -⟩ := hs k hlt
      have hle := rfees_le l s f t k
      have hbz := hb.size
      have hk0 : (0 : Int) ≤ (k : Int) := Int.natCast_nonneg _
      have hk1 : (k : Int) < (l.length : Int) := by omega
      have q3 := (hb.block w.heap.size hz2).trans Hr.out
      have p0 : wr.cell? ⟨w.heap.size, 0, none⟩ = some (.int .i64 f) := cell_of_row wr _ 0 _ _ _ q3
      have p1 : wr.cell? ⟨w.heap.size, 1, none⟩ = some (.int .i64 t) := cell_of_row wr _ 1 _ _ _ q3
      have hU : rfeesUpto l s f t (k + 1) = rfeesUpto l s f t k ++ rfeeAt l s f t k hlt := by rw [rfeesUpto, dif_pos hlt]
      unfold rfeeAt at hU
      obtain ⟨nm, hnm⟩ : ∃ a, a = l[k].nm := ⟨_, rfl⟩
      obtain ⟨fm, hfm⟩ : ∃ a, a = l[k].fm := ⟨_, rfl⟩
      obtain ⟨fe, hfe⟩ : ∃ a, a = l[k].fe := ⟨_, rfl⟩
      rw [← hnm] at c0 s0
      rw [← hfm] at c1
      rw [← hfe] at c2
      rw [← hnm, ← hfm, ← hfe] at hU
      obtain ⟨ao, co, rfl, hco, -⟩ := own_shape hown
      have Hown := Lib.hid hown
      have hk2 : IntKind.i64.wrap ((k : Int) + 1) = (k : Int) + 1 := IntWalk.i64_in _ (by omega)
      clear q3 hown hnm hfm hfe
      cases hE : (nm.toList == s.toList) with
      | false =>
        have hE2 : (nm.data.toList == s.data.toList) = false := by have h := hE; rw [Lib.toList_data, Lib.toList_data] at h; exact h
        have HU := Lib.hid (show rfeesUpto l s f t (k + 1) = rfeesUpto l s f t k by rw [hU, if_neg (by simp [eqS, hE]), List.append_nil])
        clear hU hs
        go_wp2
        exact ⟨⟨k + 1, by omega, by go_num, by rw [HU.out]; exact Hown.out, hb⟩, by simp [intOf]; omega⟩
      | true =>
        have hE2 : (nm.data.toList == s.data.toList) = true := by have h := hE; rw [Lib.toList_data, Lib.toList_data] at h; exact h
        rw [if_pos (show eqS nm s = true from hE)] at hU
        obtain ⟨a, ha⟩ : ∃ a, a = (if fm < f then f else fm) := ⟨_, rfl⟩
        rw [← ha] at hU
        by_cases hn : k + 1 < l.length
        · rw [dif_pos hn] at hU
          obtain ⟨⟨d0, -⟩, d1, -⟩ := hs (k + 1) hn
          obtain ⟨nn, hnn⟩ : ∃ a, a = l[k + 1].nm := ⟨_, rfl⟩
          obtain ⟨fn, hfn⟩ : ∃ a, a = l[k + 1].fm := ⟨_, rfl⟩
          rw [← hnn] at d0
          rw [← hfn] at d1
          rw [← hnn, ← hfn] at hU
          have HU := Lib.hid hU
          have hn1 : decide ((k : Int) + 1 < (l.length : Int)) = true := decide_eq_true (by omega)
          have hn2 : (k : Int) + 1 < (l.length : Int) := by omega
          have hn3 : (0 : Int) ≤ (k : Int) + 1 := by omega
          have hn4 : ((k : Int) + 1).toNat = k + 1 := by omega
          have HA := Lib.hid (show a = max fm f by rw [ha, Int.max_def]; split <;> split <;> omega)
          clear hs hnn hfn hU ha
          go_wp2_with fail
          go_quiet (fail)
          rw [← HA.out]
          obtain ⟨Y, hY⟩ : ∃ Y, Y = wr.drewN nq := ⟨_, rfl⟩
          have hbY : Below wr.heap.size wr Y := by rw [hY]; exact below_drewN (Below.refl _ _) _
          rw [← hY]
          clear hY
          have hbY2 : Below W.heap.size W Y := hb.trans (hbY.mono hbz)
          have hY1 : W.heap.size ≤ Y.heap.size := hbY2.size
          have Hown1 := Lib.hid (ownsRow_below Hown.out hbY)
          have e2 : Y.cell? ⟨b, o + k * 6 + 2, none⟩ = some (.int .i64 fe) := (hbY.cell (p := ⟨b, o + k * 6 + 2, none⟩) hB).trans c2
          have e3 : Y.cell? ⟨b, o + (k + 1) * 6, none⟩ = some (.string nn) := (hbY.cell (p := ⟨b, o + (k + 1) * 6, none⟩) hB).trans d0
          have e4 : Y.cell? ⟨b, o + (k + 1) * 6 + 1, none⟩ = some (.int .i64 fn) := (hbY.cell (p := ⟨b, o + (k + 1) * 6 + 1, none⟩) hB).trans d1
          clear c0 c1 c2 d0 d1 p0 p1
          cases hG : (nn.toList == s.toList) with
          | true =>
            have hG2 : (nn.data.toList == s.data.toList) = true := by have h := hG; rw [Lib.toList_data, Lib.toList_data] at h; exact h
            obtain ⟨b1, hb1⟩ : ∃ b1, b1 = (if fn < t then fn else t) := ⟨_, rfl⟩
            have HU3 := Lib.hid (show rfeesUpto l s f t (k + 1) = rfeesUpto l s f t k ++ (if a < b1 then [(a, b1, fe)] else []) by rw [HU.out, if_pos (show eqS nn s = true from hG), ← hb1])
            have HB := Lib.hid (show b1 = min t fn by rw [hb1, Int.min_def]; split <;> split <;> omega)
            clear hb1
            go_upto_region 11 with (fail)
            rw [← HB.out]
            by_cases hlt2 : a < b1
            · have hlt3 : decide (a < b1) = true := decide_eq_true hlt2
              obtain ⟨i0, hi, hz0, hz1, hz2'⟩ := info_parts Try.pricedInfo
              have Hi := Lib.hid (And.intro hi (And.intro hz0 (And.intro hz1 hz2')))
              have HU2 := Lib.hid (show rfeesUpto l s f t (k + 1) = rfeesUpto l s f t k ++ [(a, b1, fe)] by rw [HU3.out, if_pos hlt2])
              clear hi hz0 hz1 hz2'
              go_wp2_with (at_builtin; refine wpList_append_own _ rfl _ _ 44 rfl W.heap.size 48 i0 _ 3 24 Try.underlying44 Hi.out.1 Hi.out.2.1 Hi.out.2.2.1 Hi.out.2.2.2 rfl (by decide) _ _ _ rfl (Hown1.out.alloc _) ⟨Y.heap.size, 0, none⟩ 1 1 [.int .i64 a, .int .i64 b1, .int .i64 fe] rfl rfl ?c1 ?c2 ?c3 ?c4 ?c5 ?_)
              case c1 => exact World.news_of_block (cs := #[.int .i64 a, .int .i64 b1, .int .i64 fe]) (t := 48) (fr := (0, 0)) (heap_alloc_new _ _)
              case c2 => simp [Value.oneCell']
              case c3 => unfold maxLen; omega
              case c4 => omega
              case c5 => simp; omega
              intro v' w2 hown2 hgrow _
              have hb4 := (hbY2.alloc hY1 (Obj.cells #[.int .i64 a, .int .i64 b1, .int .i64 fe] 48)).grown hgrow (by simp; omega) (fun g hg => (ownsRow_block Hown1.out g hg).1)
              have Hown2 := Lib.hid hown2
              clear hown2 hgrow
              go_wp2
              refine ⟨⟨k + 1, by omega, by go_num, ?_, hb4⟩, by simp [intOf]; omega⟩
              rw [HU2.out, List.length_append, List.flatMap_append]
              exact Hown2.out
            · have hlt3 : decide (a < b1) = false := decide_eq_false hlt2
              have HU2 := Lib.hid (show rfeesUpto l s f t (k + 1) = rfeesUpto l s f t k by rw [HU3.out, if_neg hlt2, List.append_nil])
              go_wp2
              exact ⟨⟨k + 1, by omega, by go_num, by rw [HU2.out]; exact Hown1.out, hbY2⟩, by simp [intOf]; omega⟩
          | false =>
            have hG2 : (nn.data.toList == s.data.toList) = false := by have h := hG; rw [Lib.toList_data, Lib.toList_data] at h; exact h
            have HU3 := Lib.hid (show rfeesUpto l s f t (k + 1) = rfeesUpto l s f t k ++ (if a < t then [(a, t, fe)] else []) by rw [HU.out, if_neg (show ¬ eqS nn s = true from fun h => by rw [show eqS nn s = false from hG] at h; cases h)])
            by_cases hlt2 : a < t
            · have hlt3 : decide (a < t) = true := decide_eq_true hlt2
              obtain ⟨i0, hi, hz0, hz1, hz2'⟩ := info_parts Try.pricedInfo
              have Hi := Lib.hid (And.intro hi (And.intro hz0 (And.intro hz1 hz2')))
              have HU2 := Lib.hid (show rfeesUpto l s f t (k + 1) = rfeesUpto l s f t k ++ [(a, t, fe)] by rw [HU3.out, if_pos hlt2])
              clear hi hz0 hz1 hz2'
              go_wp2_with (at_builtin; refine wpList_append_own _ rfl _ _ 44 rfl W.heap.size 48 i0 _ 3 24 Try.underlying44 Hi.out.1 Hi.out.2.1 Hi.out.2.2.1 Hi.out.2.2.2 rfl (by decide) _ _ _ rfl (Hown1.out.alloc _) ⟨Y.heap.size, 0, none⟩ 1 1 [.int .i64 a, .int .i64 t, .int .i64 fe] rfl rfl ?c1 ?c2 ?c3 ?c4 ?c5 ?_)
              case c1 => exact World.news_of_block (cs := #[.int .i64 a, .int .i64 t, .int .i64 fe]) (t := 48) (fr := (0, 0)) (heap_alloc_new _ _)
              case c2 => simp [Value.oneCell']
              case c3 => unfold maxLen; omega
              case c4 => omega
              case c5 => simp; omega
              intro v' w2 hown2 hgrow _
              have hb4 := (hbY2.alloc hY1 (Obj.cells #[.int .i64 a, .int .i64 t, .int .i64 fe] 48)).grown hgrow (by simp; omega) (fun g hg => (ownsRow_block Hown1.out g hg).1)
              have Hown2 := Lib.hid hown2
              clear hown2 hgrow
              go_wp2
              refine ⟨⟨k + 1, by omega, by go_num, ?_, hb4⟩, by simp [intOf]; omega⟩
              rw [HU2.out, List.length_append, List.flatMap_append]
              exact Hown2.out
            · have hlt3 : decide (a < t) = false := decide_eq_false hlt2
              have HU2 := Lib.hid (show rfeesUpto l s f t (k + 1) = rfeesUpto l s f t k by rw [HU3.out, if_neg hlt2, List.append_nil])
              go_wp2
              exact ⟨⟨k + 1, by omega, by go_num, by rw [HU2.out]; exact Hown1.out, hbY2⟩, by simp [intOf]; omega⟩
        · rw [dif_neg hn] at hU
          have HU3 := Lib.hid hU
          have hn1 : decide ((k : Int) + 1 < (l.length : Int)) = false := decide_eq_false (by omega)
          have HA := Lib.hid (show a = max fm f by rw [ha, Int.max_def]; split <;> split <;> omega)
          clear hs hU ha
          go_wp2_with fail
          go_quiet (fail)
          rw [← HA.out]
          obtain ⟨Y, hY⟩ : ∃ Y, Y = wr.drewN nq := ⟨_, rfl⟩
          have hbY : Below wr.heap.size wr Y := by rw [hY]; exact below_drewN (Below.refl _ _) _
          rw [← hY]
          clear hY
          have hbY2 : Below W.heap.size W Y := hb.trans (hbY.mono hbz)
          have hY1 : W.heap.size ≤ Y.heap.size := hbY2.size
          have Hown1 := Lib.hid (ownsRow_below Hown.out hbY)
          have e2 : Y.cell? ⟨b, o + k * 6 + 2, none⟩ = some (.int .i64 fe) := (hbY.cell (p := ⟨b, o + k * 6 + 2, none⟩) hB).trans c2
          clear c0 c1 c2 p0 p1
          by_cases hlt2 : a < t
          · have hlt3 : decide (a < t) = true := decide_eq_true hlt2
            obtain ⟨i0, hi, hz0, hz1, hz2'⟩ := info_parts Try.pricedInfo
            have Hi := Lib.hid (And.intro hi (And.intro hz0 (And.intro hz1 hz2')))
            have HU2 := Lib.hid (show rfeesUpto l s f t (k + 1) = rfeesUpto l s f t k ++ [(a, t, fe)] by rw [HU3.out, if_pos hlt2])
            clear hi hz0 hz1 hz2'
            go_wp2_with (at_builtin; refine wpList_append_own _ rfl _ _ 44 rfl W.heap.size 48 i0 _ 3 24 Try.underlying44 Hi.out.1 Hi.out.2.1 Hi.out.2.2.1 Hi.out.2.2.2 rfl (by decide) _ _ _ rfl (Hown1.out.alloc _) ⟨Y.heap.size, 0, none⟩ 1 1 [.int .i64 a, .int .i64 t, .int .i64 fe] rfl rfl ?c1 ?c2 ?c3 ?c4 ?c5 ?_)
            case c1 => exact World.news_of_block (cs := #[.int .i64 a, .int .i64 t, .int .i64 fe]) (t := 48) (fr := (0, 0)) (heap_alloc_new _ _)
            case c2 => simp [Value.oneCell']
            case c3 => unfold maxLen; omega
            case c4 => omega
            case c5 => simp; omega
            intro v' w2 hown2 hgrow _
            have hb4 := (hbY2.alloc hY1 (Obj.cells #[.int .i64 a, .int .i64 t, .int .i64 fe] 48)).grown hgrow (by simp; omega) (fun g hg => (ownsRow_block Hown1.out g hg).1)
            have Hown2 := Lib.hid hown2
            clear hown2 hgrow
            go_wp2
            refine ⟨⟨k + 1, by omega, by go_num, ?_, hb4⟩, by simp [intOf]; omega⟩
            rw [HU2.out, List.length_append, List.flatMap_append]
            exact Hown2.out
          · have hlt3 : decide (a < t) = false := decide_eq_false hlt2
            have HU2 := Lib.hid (show rfeesUpto l s f t (k + 1) = rfeesUpto l s f t k by rw [HU3.out, if_neg hlt2, List.append_nil])
            go_wp2
            exact ⟨⟨k + 1, by omega, by go_num, by rw [HU2.out]; exact Hown1.out, hbY2⟩, by simp [intOf]; omega⟩
    · have hall : rfeesUpto l s f t k = rfeesL l s f t := by rw [show k = l.length by omega]; rfl
      rw [hall] at hown
      obtain ⟨ao, co, rfl, -, -⟩ := own_shape hown
      have Hown := Lib.hid hown
      clear hown hall
      go_wp2
      go_ret
      exact ⟨_, rfl, ⟨Hown.out.1, Hown.out.2.imp id (fun ⟨g, c, cur, h1, h2, h3⟩ => ⟨g, c, cur, h1, Nat.le_trans hw0.size h2, h3⟩)⟩, hw0.trans (hb.mono hw0.size)⟩
end Go.Proofs.Ytmijdmchhlcblaa
