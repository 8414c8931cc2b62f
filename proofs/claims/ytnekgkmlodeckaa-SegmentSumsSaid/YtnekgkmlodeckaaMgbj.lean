/-
  The walk of bands.Cut.
-/
import Derived.Test.YtnekgkmlodeckaaMgbi
import Derived.Test.YtnekgkmlodeckaaMgag
import Derived.Test.YtnekgkmlodeckaaMgaj
import Derived.Deep.DeepCutAuto
import Derived.Deep.RegionHeld3
import Derived.Deep.RegionWith
namespace Go.Proofs.Ytnekgkmlodeckaa
open Go.RowKit

theorem Try.pcInfo : (Try.prog.info? 66).map (fun i => (i.zero, i.size, i.bytes)) = some (some (.agg #[.string { data := #[] }, .int .i64 0, .int .i64 0]), 3, 32) := by kernel_rfl

theorem clamp_part (a x u v : Int) (ha : a < x) (huv : u < v) : (max u a < min v x → max u a = clampI a x u ∧ min v x = clampI a x v) ∧ (¬ max u a < min v x → clampI a x u = clampI a x v) := by
  unfold clampI
  omega

theorem pc_set (M : List Pc) (q : Pc) (y : Int) : ((M ++ [q]).flatMap pcCells).set (M.length * 3 + 2) (.int .i64 y) = (M ++ [(q.1, q.2.1, y)]).flatMap pcCells := by
  rw [List.flatMap_append, List.flatMap_append, List.set_append_right _ _ (by rw [flat_length pcCells 3 (fun _ => rfl)]; omega), flat_length pcCells 3 (fun _ => rfl)]
  congr 1
  rw [Nat.add_sub_cancel_left]
  rfl
/-- The pieces of a period. -/
def PcsTo (g : Int → ByteArray) (a x : Int) (w : World) (e : Ending) (w' : World) : Prop :=
  ∃ (L : List Pc) (v' : Value), e = .returned v' ∧ PcsAt w' v' L ∧ Rle g a x L ∧ Below w.heap.size w w'
def NoPcs (w : World) (e : Ending) (w' : World) : Prop :=
  e = .returned (.slice none 0 0) ∧ Below w.heap.size w w'

/-- Numbers stay where their block stays. -/
theorem ics_keep {w w' : World} {v : Value} {K : List Int} (h : IcsAt w v K) (hs : w.heap.size ≤ w'.heap.size) (hb : ∀ g, v.ownBlock = some g → w'.heap[g]? = w.heap[g]?) : IcsAt w' v K := by
  obtain ⟨av, cap, rfl, hl, hm, hc⟩ := h
  refine ⟨av, cap, rfl, hl, hm, fun hne => ?_⟩
  obtain ⟨b, o, rfl, hB, hx⟩ := hc hne
  refine ⟨b, o, rfl, Nat.lt_of_lt_of_le hB hs, fun i hi => ?_⟩
  have h1 := hx i hi
  have h2 := hb b rfl
  unfold IntC at *
  rw [← h1]
  simp only [World.cell?, h2]

theorem box3 (w : World) (a b c : Value) (t : TypeId) : (w.alloc (Obj.cells #[a, b, c] t)).cell? ⟨w.heap.size, 0, none⟩ = some a ∧ (w.alloc (Obj.cells #[a, b, c] t)).cell? ⟨w.heap.size, 1, none⟩ = some b ∧ (w.alloc (Obj.cells #[a, b, c] t)).cell? ⟨w.heap.size, 2, none⟩ = some c :=
  ⟨cell_of_row _ _ 0 _ _ _ (heap_alloc_new _ _), cell_of_row _ _ 1 _ _ _ (heap_alloc_new _ _), cell_of_row _ _ 2 _ _ _ (heap_alloc_new _ _)⟩
theorem set3 (w : World) (g : Nat) (a b c x y z : Value) (h0 : w.cell? ⟨g, 0, none⟩ = some a) (h1 : w.cell? ⟨g, 1, none⟩ = some b) (h2 : w.cell? ⟨g, 2, none⟩ = some c) :
    (((w.setCell ⟨g, 0, none⟩ x).setCell ⟨g, 1, none⟩ y).setCell ⟨g, 2, none⟩ z).cell? ⟨g, 0, none⟩ = some x ∧ (((w.setCell ⟨g, 0, none⟩ x).setCell ⟨g, 1, none⟩ y).setCell ⟨g, 2, none⟩ z).cell? ⟨g, 1, none⟩ = some y ∧ (((w.setCell ⟨g, 0, none⟩ x).setCell ⟨g, 1, none⟩ y).setCell ⟨g, 2, none⟩ z).cell? ⟨g, 2, none⟩ = some z := by
  have a1 := World.cell?_setCell_same w ⟨g, 0, none⟩ x h0
  have b1 := (World.cell?_setCell_other w ⟨g, 0, none⟩ ⟨g, 1, none⟩ x (by intro h; cases h)).trans h1
  have c1 := (World.cell?_setCell_other w ⟨g, 0, none⟩ ⟨g, 2, none⟩ x (by intro h; cases h)).trans h2
  have a2 := (World.cell?_setCell_other (w.setCell ⟨g, 0, none⟩ x) ⟨g, 1, none⟩ ⟨g, 0, none⟩ y (by intro h; cases h)).trans a1
  have b2 := World.cell?_setCell_same (w.setCell ⟨g, 0, none⟩ x) ⟨g, 1, none⟩ y b1
  have c2 := (World.cell?_setCell_other (w.setCell ⟨g, 0, none⟩ x) ⟨g, 1, none⟩ ⟨g, 2, none⟩ y (by intro h; cases h)).trans c1
  exact ⟨(World.cell?_setCell_other _ ⟨g, 2, none⟩ ⟨g, 0, none⟩ z (by intro h; cases h)).trans a2, (World.cell?_setCell_other _ ⟨g, 2, none⟩ ⟨g, 1, none⟩ z (by intro h; cases h)).trans b2, World.cell?_setCell_same _ ⟨g, 2, none⟩ z c2⟩

/-- The step of a day's part. -/
theorem part_step (l : List Bn) (hol : List Int) (K : List Int) (q : Nat) (day pf pt : Int) (hq : q = bitQ hol day) (hM : Mins K (fun s => s.1 / 2 ^ q % 2 = 1) l) (hp : pf < pt) (n : Nat) (hn : n < K.length) (L : List Pc)
    (hR : Rle (bandAt l hol) pf (clampI pf pt (day * 86400 + 60 * K.getD n 1440)) L) (m nx : Int) (hm : m = K.getD n 1440) (hnx : nx = K.getD (n + 1) 1440) :
    (0 ≤ m ∧ m < nx ∧ m < 1440 ∧ nx ≤ 1440) ∧ (¬ max (day * 86400 + 60 * m) pf < min (day * 86400 + 60 * nx) pt → Rle (bandAt l hol) pf (clampI pf pt (day * 86400 + 60 * K.getD (n + 1) 1440)) L) ∧
    (max (day * 86400 + 60 * m) pf < min (day * 86400 + 60 * nx) pt → Rle (bandAt l hol) pf (clampI pf pt (day * 86400 + 60 * K.getD (n + 1) 1440)) (pushP L (findB (lastB l) q m l) (max (day * 86400 + 60 * m) pf) (min (day * 86400 + 60 * nx) pt))) := by
  have hM' := hM
  obtain ⟨h1, h2, h3, h4⟩ := hM
  have e1 : K.getD n 1440 = K[n] := by simp [List.getD, hn]
  have b1 := h3 K[n] (List.getElem_mem hn)
  have b2 : m < nx ∧ nx ≤ 1440 := by
    by_cases hi2 : n + 1 < K.length
    · have e2 : K.getD (n + 1) 1440 = K[n + 1] := by simp [List.getD, hi2]
      have h5 := h3 K[n + 1] (List.getElem_mem hi2)
      have h6 := List.pairwise_iff_getElem.1 h1 n (n + 1) hn hi2 (by omega)
      omega
    · have : K.getD (n + 1) 1440 = 1440 := by simp [List.getD, hi2]
      omega
  have hcl := clamp_part pf pt (day * 86400 + 60 * m) (day * 86400 + 60 * nx) hp (by omega)
  rw [← hm] at hR
  rw [← hnx]
  refine ⟨⟨by omega, b2.1, by omega, b2.2⟩, fun h => ?_, fun h => ?_⟩
  · rw [← hcl.2 h]; exact hR
  · obtain ⟨c1, c2⟩ := hcl.1 h
    rw [← c1] at hR
    rw [← c2]
    refine rle_push h (fun t ht1 ht2 => ?_) L pf hR
    subst hq
    exact bandAt_part l hol K _ day hM' (fun s hs => hs) n hn t m (by omega) (by omega) (by omega) (by omega)

set_option maxRecDepth 100000 in
set_option maxHeartbeats 12800000 in
theorem cut5_calls (v vh : Value) (l : List Bn) (hol : List Int) (pf pt : Int) (w : World) (h : BnsAt w v l) (hh : IcsAt w vh hol) (hz : checkB l = 0) (hv : validB pf pt = true) (hsp : pt - pf ≤ 2678400) :
    Calls Try.prog 31 #[v, vh, .agg #[.int .i64 pf, .int .i64 pt]] w (PcsTo (bandAt l hol) pf pt w) := by
  obtain ⟨W, hW⟩ : ∃ W, W = w.alloc (Obj.cells #[Value.int .i64 pf, Value.int .i64 pt] 59) := ⟨_, rfl⟩
  have hw0 : Below w.heap.size w W := by rw [hW]; exact (Below.refl _ _).alloc (Nat.le_refl _) _
  have rW : W.heap[w.heap.size]? = some (Obj.cells #[Value.int .i64 pf, Value.int .i64 pt] 59) := by rw [hW]; exact heap_alloc_new _ _
  have hzW : w.heap.size < W.heap.size := by rw [hW]; simp
  have HM := Lib.hid (show ∀ w', Below W.heap.size W w' → w'.cell? ⟨w.heap.size, 0, none⟩ = some (.int .i64 pf) ∧ w'.cell? ⟨w.heap.size, 1, none⟩ = some (.int .i64 pt) from fun w' hb => by
    have q := (hb.block _ hzW).trans rW
    exact ⟨cell_of_row w' _ 0 _ _ _ q, cell_of_row w' _ 1 _ _ _ q⟩)
  have HW := Lib.hid hW
  have HC := Lib.hid (check_calls v l W (h.below hw0))
  have Hv := Lib.hid (fun w1 => valid_calls pf pt w1)
  obtain ⟨hn, hl64, hall, -⟩ := checkB_ok hz
  have HB := Lib.hid (fun w1 (hb : Below W.heap.size W w1) d h0 h1 => bit_calls vh hol d w1 ((hh.below hw0).below hb) h0 h1)
  have HL := Lib.hid (fun w1 (hb : Below W.heap.size W w1) q hq => limits5_calls v l q w1 ((h.below hw0).below hb) hq (fun b hb => (hall b hb).2) hl64)
  have HF := Lib.hid (fun w1 (hb : Below W.heap.size W w1) q m hq => find_calls v l q m w1 ((h.below hw0).below hb) hq (fun b hb => (hall b hb).2.1) hn)
  obtain ⟨av, cap, rfl, -, -, -⟩ := h
  obtain ⟨avh, caph, rfl, -, -, -⟩ := hh
  obtain ⟨v0, v1, v2⟩ := (validB_iff pf pt).1 hv
  rw [hz] at HC
  rw [hv] at Hv
  clear hz hv hW rW hn hl64 hall
  obtain ⟨m0, m1⟩ := HM.out W (Below.refl _ _)
  have hq1 : pf.tdiv 86400 = pf / 86400 := Int.tdiv_eq_ediv_of_nonneg (by omega)
  have hq2 : IntKind.i64.wrap (pf / 86400) = pf / 86400 := IntWalk.i64_in _ (by omega)
  have hq3 : IntKind.i64.wrap (pt - pf) = pt - pf := IntWalk.i64_in _ (by omega)
  go_enter Try.func31, Try.ntmps31
  go_upto_region 1 with (fail)
  rw [← HW.out]
  go_wp2_with fail
  refine HC.out.mono ?_
  rintro e w1 ⟨rfl, hb1⟩
  clear m0 m1
  obtain ⟨m0, m1⟩ := HM.out w1 hb1
  go_wp2_with fail
  refine (Hv.out w1).mono ?_
  rintro e w2 ⟨rfl, hbx⟩
  have hb2 := hb1.trans (hbx.mono hb1.size)
  clear m0 m1 hbx hb1
  obtain ⟨m0, m1⟩ := HM.out w2 hb2
  go_wp2_with fail
  clear m0 m1 hq1 hq2 hq3
  have HM2 := Lib.hid (show ∀ w', Below w2.heap.size w2 w' → w'.cell? ⟨w.heap.size, 0, none⟩ = some (.int .i64 pf) ∧ w'.cell? ⟨w.heap.size, 1, none⟩ = some (.int .i64 pt) from fun w' hb => HM.out w' (hb2.trans (hb.mono hb2.size)))
  go_loopw [7, 8] (fun v d wr => ∃ (day : Int) (L : List Pc), d = .int .i64 day ∧ 0 ≤ day ∧ day ≤ (pt - 1) / 86400 + 1 ∧ Rle (bandAt l hol) pf (clampI pf pt (day * 86400)) L ∧ wr.ownsRow w2.heap.size 66 3 v L.length (L.flatMap pcCells) ∧ Below w2.heap.size w2 wr) (fun _ d _ => ((pt - 1) / 86400 + 1 - intOf d).toNat)
  case atStart =>
    refine ⟨pf / 86400, [], rfl, by omega, by omega, ?_, ⟨rfl, Or.inl ⟨rfl, rfl⟩⟩, Below.refl _ _⟩
    show pf = _
    unfold clampI
    omega
  case round =>
    obtain ⟨day, L, rfl, hd0, hd1, hR, hown, hb⟩ := hrel
    obtain ⟨wq, rfl⟩ : ∃ wq : World, wq = wr := ⟨_, rfl⟩
    obtain ⟨ao, co, rfl, hco, -⟩ := own_shape hown
    have Hown := Lib.hid hown
    have HR := Lib.hid hR
    clear hown hR
    obtain ⟨m0, m1⟩ := HM2.out wq hb
    have hq4 : IntKind.i64.wrap (pt - 1) = pt - 1 := IntWalk.i64_in _ (by omega)
    have hq5 : (pt - 1).tdiv 86400 = (pt - 1) / 86400 := Int.tdiv_eq_ediv_of_nonneg (by omega)
    have hq6 : IntKind.i64.wrap ((pt - 1) / 86400) = (pt - 1) / 86400 := IntWalk.i64_in _ (by omega)
    by_cases hday : day ≤ (pt - 1) / 86400
    · have hd2 : day < 146097 := by omega
      obtain ⟨q, hq⟩ : ∃ q, q = bitQ hol day := ⟨_, rfl⟩
      have Hq8 := Lib.hid (show q < 8 by rw [hq]; exact bitQ_lt _ _)
      have HBc := Lib.hid (HB.out wq (hb2.trans (hb.mono hb2.size)) day hd0 hd2)
      rw [← hq] at HBc
      have Hq := Lib.hid hq
      obtain ⟨bq, hbq⟩ : ∃ bq : Int, bq = 2 ^ q := ⟨_, rfl⟩
      have HLc := Lib.hid (fun w1 hb => HL.out w1 hb q Hq8.out)
      have HFc := Lib.hid (fun w1 hb m => HF.out w1 hb q m Hq8.out)
      rw [← hbq] at HBc HLc HFc
      clear hq hbq
      go_wp2_with fail
      refine HBc.out.mono ?_
      rintro e w3 ⟨rfl, hb3⟩
      have hbw3 := hb.trans (hb3.mono hb.size)
      clear m0 m1
      go_wp2_with fail
      refine (HLc.out w3 (hb2.trans (hbw3.mono hb2.size))).mono ?_
      rintro e w4 ⟨K, vK, rfl, hK, hMi, hKl, hb4, hKf⟩
      have hbq4 := hb3.trans (hb4.mono hb3.size)
      have hbw4 := hb.trans (hbq4.mono hb.size)
      have Hown4 := Lib.hid (ownsRow_below Hown.out hbq4)
      have Hfr := Lib.hid (show ∀ g g2, (Value.slice ao L.length co).ownBlock = some g → vK.ownBlock = some g2 → g ≠ g2 from fun g g2 h1 h2 => by
        have h3 := (ownsRow_block Hown.out g h1).2
        have h4 := hKf g2 h2
        have h5 := hb3.size
        omega)
      have HMi := Lib.hid hMi
      have HK := Lib.hid hK
      have hK0 : 0 < K.length := by
        rcases Nat.eq_zero_or_pos K.length with h0 | h0
        · have := hMi.2.1
          rw [List.length_eq_zero_iff.1 h0] at this; cases this
        · exact h0
      have HK0 := Lib.hid (show K.getD 0 1440 = 0 by rw [List.getD, hMi.2.1]; rfl)
      have HPS := Lib.hid (fun n (hn : n < K.length) L hR m nx hm hnx => part_step l hol K q day pf pt Hq.out hMi v1 n hn L hR m nx hm hnx)
      have HKm := Lib.hid hMi.2.2.1
      obtain ⟨aK, cK, rfl, hKc, hKm, hKx⟩ := hK
      obtain ⟨gK, oK, rfl, -, -⟩ := hKx (by rintro rfl; cases hK0)
      have hKm := hKm.1
      unfold maxLen at hKm
      clear hMi hb3 hbw3 hb4 hKf hbq4 hb Hown hco
      go_wp2_with fail
      go_loopw [7, 53] (fun v i wr => ∃ (n : Nat) (L : List Pc), n ≤ K.length ∧ i = .int .i64 n ∧ Rle (bandAt l hol) pf (clampI pf pt (day * 86400 + 60 * K.getD n 1440)) L ∧ wr.ownsRow w2.heap.size 66 3 v L.length (L.flatMap pcCells) ∧ Below w2.heap.size w2 wr ∧ IcsAt wr (.slice (some ⟨gK, oK, none⟩) K.length cK) K ∧ (∀ g, v.ownBlock = some g → g ≠ gK)) (fun _ i _ => K.length - (intOf i).toNat)
      case atStart =>
        refine ⟨0, L, Nat.zero_le _, rfl, ?_, Hown4.out, hbw4, HK.out, fun g hg => Hfr.out g gK hg rfl⟩
        rw [HK0.out, Int.mul_zero, Int.add_zero]
        exact HR.out
      case round =>
        clear Hown4 Hfr HR HK HK0 hbw4
        obtain ⟨n, L, hn, rfl, hR, hown, hb, hKI, hfr⟩ := hrel
        obtain ⟨ao, co, rfl, hco, -⟩ := own_shape hown
        have hLl := rle_len L pf hR
        have hcl : clampI pf pt (day * 86400 + 60 * K.getD n 1440) ≤ pt := by unfold clampI; omega
        have hLb : L.length ≤ 2678400 := by omega
        have Hown := Lib.hid hown
        have HR := Lib.hid hR
        have HKI := Lib.hid hKI
        have Hfr := Lib.hid hfr
        clear hown hR hLl hcl hfr
        by_cases hlt : n < K.length
        · obtain ⟨m, hm⟩ : ∃ m, m = K.getD n 1440 := ⟨_, rfl⟩
          obtain ⟨nx, hnx⟩ : ∃ nx, nx = K.getD (n + 1) 1440 := ⟨_, rfl⟩
          obtain ⟨⟨b0, b1, b2, b3⟩, HNo, HYes⟩ := HPS.out n hlt L HR.out m nx hm hnx
          have HNo := Lib.hid HNo
          have HYes := Lib.hid HYes
          obtain ⟨aK2, cK2, eK, -, -, hx⟩ := hKI
          cases eK
          obtain ⟨b, o, eB, hgK, hx⟩ := hx (by rintro rfl; cases hlt)
          cases eB
          have c0 : wr.cell? ⟨gK, oK + n, none⟩ = some (.int .i64 m) := by
            have := hx n hlt
            unfold IntC at this
            rw [Nat.mul_one] at this
            rw [this, hm, getD_at K n 1440 hlt]
          have HC1 := Lib.hid (show ∀ (h : n + 1 < K.length), wr.cell? ⟨gK, oK + (n + 1), none⟩ = some (.int .i64 nx) from fun h => by
            have := hx (n + 1) h
            unfold IntC at this
            rw [Nat.mul_one] at this
            rw [this, hnx, getD_at K (n + 1) 1440 h])
          have HC2 := Lib.hid (show ¬ n + 1 < K.length → nx = 1440 from fun h => by rw [hnx]; simp [List.getD, h])
          clear hx hm hnx
          have hk0 : (0 : Int) ≤ (n : Int) := Int.natCast_nonneg _
          have hk1 : (n : Int) < (K.length : Int) := by omega
          obtain ⟨A, hA⟩ : ∃ A, A = day * 86400 + 60 * m := ⟨_, rfl⟩
          obtain ⟨T, hT⟩ : ∃ T, T = day * 86400 + 60 * nx := ⟨_, rfl⟩
          rw [← hA, ← hT] at HNo HYes
          have a1 : IntKind.i64.wrap (day * 86400) = day * 86400 := IntWalk.i64_in _ (by omega)
          have a2 : IntKind.i64.wrap (60 * m) = 60 * m := IntWalk.i64_in _ (by omega)
          have a3 : IntKind.i64.wrap (day * 86400 + 60 * m) = A := by rw [← hA]; exact IntWalk.i64_in _ (by omega)
          have a4 : IntKind.i64.wrap (day + 1) = day + 1 := IntWalk.i64_in _ (by omega)
          have a5 : IntKind.i64.wrap ((day + 1) * 86400) = (day + 1) * 86400 := IntWalk.i64_in _ (by omega)
          have hA0 : 0 ≤ A ∧ A < T ∧ T ≤ 12622780800 := by omega
          have Hmt := Lib.hid (show meetB A T pf pt = true ↔ max A pf < min T pt by
            rw [meetB_iff, validB_iff, validB_iff]
            omega)
          have HAe := Lib.hid hA
          have HTe := Lib.hid hT
          clear hT
          obtain ⟨X, hX⟩ : ∃ X, X = wr.alloc (Obj.cells #[Value.int .i64 (day * 86400 + 60 * m), Value.int .i64 ((day + 1) * 86400)] 59) := ⟨_, rfl⟩
          have hbX : Below wr.heap.size wr X := by rw [hX]; exact (Below.refl _ _).alloc (Nat.le_refl _) _
          have rX : X.heap[wr.heap.size]? = some (Obj.cells #[Value.int .i64 A, Value.int .i64 ((day + 1) * 86400)] 59) := by rw [hX, hA]; exact heap_alloc_new _ _
          have hzX : X.heap.size = wr.heap.size + 1 := by rw [hX]; simp
          have HX := Lib.hid hX
          have x0 := cell_of_row X _ 0 _ _ _ rX
          have x1 := cell_of_row X _ 1 _ _ _ rX
          have fr1 : X.frozen? ⟨wr.heap.size, 1, none⟩ = false := by simp [World.frozen?, rX]
          have hgX : gK < X.heap.size := by omega
          clear hX rX
          go_upto_region 13 with (fail)
          rw [← HX.out]
          clear a1 a2 a3 a4 a5 hA c0
          by_cases hnx : n + 1 < K.length
          · have c1 := (hbX.cell (p := ⟨gK, oK + (n + 1), none⟩) hgK).trans (HC1.out hnx)
            have j1 : (n : Int) + 1 < (K.length : Int) := by omega
            have j2 : ((n : Int) + 1).toNat = n + 1 := by omega
            have j3 : (0 : Int) ≤ (n : Int) + 1 := by omega
            have j4 : IntKind.i64.wrap ((n : Int) + 1) = (n : Int) + 1 := IntWalk.i64_in _ (by omega)
            have a1 : IntKind.i64.wrap (day * 86400) = day * 86400 := IntWalk.i64_in _ (by omega)
            have a2 : IntKind.i64.wrap (60 * nx) = 60 * nx := IntWalk.i64_in _ (by omega)
            have a3 : IntKind.i64.wrap (day * 86400 + 60 * nx) = day * 86400 + 60 * nx := IntWalk.i64_in _ (by have := HTe.out; omega)
            obtain ⟨Y, hY⟩ : ∃ Y, Y = X.setCell ⟨wr.heap.size, 1, none⟩ (Value.int .i64 (day * 86400 + 60 * nx)) := ⟨_, rfl⟩
            have y0 : Y.cell? ⟨wr.heap.size, 0, none⟩ = some (.int .i64 A) := by rw [hY]; exact (World.cell?_setCell_other _ _ _ _ (by intro h; cases h)).trans x0
            have y1 : Y.cell? ⟨wr.heap.size, 1, none⟩ = some (.int .i64 T) := by rw [hY, HTe.out]; exact World.cell?_setCell_same _ _ _ x1
            have hbY : Below wr.heap.size wr Y := by rw [hY]; exact hbX.setCell (Nat.le_refl _) _
            have hzY : Y.heap.size = wr.heap.size + 1 := by rw [hY]; simpa using hzX
            have HY := Lib.hid hY
            clear hY
            go_upto_region 15 with (fail)
            rw [← HY.out]
            clear j1 j2 j3 j4 a1 a2 a3 c1 x0 x1 fr1 hbX hzX hgX
            obtain ⟨p0, p1⟩ := HM2.out Y (hb.trans (hbY.mono hb.size))
            have HI := Lib.hid (intersect_calls A T pf pt Y)
            cases hmt : meetB A T pf pt with
            | false =>
              have hmv : meetV A T pf pt = .agg #[.int .i64 0, .int .i64 0] := by unfold meetV; rw [if_neg (by rw [hmt]; decide)]
              rw [hmv, hmt] at HI
              have HRn := Lib.hid (HNo.out (by
                have : ¬ max A pf < min T pt := fun h => by rw [Hmt.out.2 h] at hmt; cases hmt
                omega))
              clear hmt hmv
              go_wp2_with fail
              refine HI.out.mono ?_
              rintro e w5 ⟨rfl, hb5⟩
              have hQ : ∀ o, Below wr.heap.size wr (w5.alloc o) := fun o => (hbY.trans (hb5.mono hbY.size)).alloc (Nat.le_trans hbY.size hb5.size) o
              have HQ := Lib.hid hQ
              clear y0 y1 p0 p1 hQ
              go_wp2
              exact ⟨⟨n + 1, L, by omega, by go_num, HRn.out, ownsRow_below Hown.out (HQ.out _), hb.trans ((HQ.out _).mono hb.size), HKI.out.below (HQ.out _), Hfr.out⟩, by simp [intOf]; omega⟩
            | true =>
              have hmv : meetV A T pf pt = .agg #[.int .i64 (max A pf), .int .i64 (min T pt)] := by unfold meetV; rw [if_pos hmt]
              rw [hmv, hmt] at HI
              have HRy := Lib.hid (HYes.out (Hmt.out.1 hmt))
              clear hmt hmv
              generalize max A pf = qf at HI HRy
              generalize min T pt = qt at HI HRy
              obtain ⟨bnd, hbnd⟩ : ∃ bnd, bnd = findB (lastB l) q m l := ⟨_, rfl⟩
              rw [← hbnd] at HRy
              have Hbnd := Lib.hid hbnd
              clear hbnd
              go_wp2_with fail
              refine HI.out.mono ?_
              rintro e w5 ⟨rfl, hb5⟩
              clear y0 y1 p0 p1
              obtain ⟨Q, hQ⟩ : ∃ Q, Q = w5.alloc (Obj.cells #[Value.int .i64 qf, .int .i64 qt] 59) := ⟨_, rfl⟩
              have rQ : Q.heap[w5.heap.size]? = some (Obj.cells #[Value.int .i64 qf, .int .i64 qt] 59) := by rw [hQ]; exact heap_alloc_new _ _
              have hbr5 := hbY.trans (hb5.mono hbY.size)
              have hbQ : Below wr.heap.size wr Q := by rw [hQ]; exact hbr5.alloc hbr5.size _
              have hzQ : Q.heap.size = w5.heap.size + 1 := by rw [hQ]; simp
              have HMQ := Lib.hid (show ∀ w', Below Q.heap.size Q w' → w'.cell? ⟨w5.heap.size, 0, none⟩ = some (.int .i64 qf) ∧ w'.cell? ⟨w5.heap.size, 1, none⟩ = some (.int .i64 qt) from fun w' hb => by
                have q := (hb.block _ (by omega)).trans rQ
                exact ⟨cell_of_row w' _ 0 _ _ _ q, cell_of_row w' _ 1 _ _ _ q⟩)
              have HQ := Lib.hid hQ
              have HzQ := Lib.hid hzQ
              clear hQ rQ hzQ
              go_upto_region 17 with (fail)
              rw [← HQ.out]
              have hrQ := Below.refl Q.heap.size Q
              have hWQ := hb2.trans ((hb.trans (hbQ.mono hb.size)).mono hb2.size)
              have Mk := Lib.hid (show ∀ w' : World, Below Q.heap.size Q w' → Below Q.heap.size Q w' ∧ w'.cell? ⟨w5.heap.size, 0, none⟩ = some (.int .i64 qf) ∧ w'.cell? ⟨w5.heap.size, 1, none⟩ = some (.int .i64 qt) from fun w' h => ⟨h, HMQ.out w' h⟩)
              obtain ⟨k0, k1⟩ := HMQ.out Q hrQ
              go_cut [16] (fun s16 wx => ∃ bx : Nat, s16 = .pointer (some ⟨bx, 0, none⟩) ∧ Q.heap.size ≤ bx ∧ bx < wx.heap.size ∧ Below Q.heap.size Q wx ∧ wx.cell? ⟨bx, 0, none⟩ = some (.string bnd) ∧ wx.cell? ⟨bx, 1, none⟩ = some (.int .i64 qf) ∧ wx.cell? ⟨bx, 2, none⟩ = some (.int .i64 qt))
              case first =>
                go_region_held3 (fun w' : World => Below Q.heap.size Q w' ∧ w'.cell? ⟨w5.heap.size, 0, none⟩ = some (.int .i64 qf) ∧ w'.cell? ⟨w5.heap.size, 1, none⟩ = some (.int .i64 qt))
                  (first
                    | exact Mk.out _ (by assumption)
                    | exact Mk.out _ (Below.drew (by assumption))
                    | exact Mk.out _ (Below.alloc (And.left (by assumption)) (Below.size (And.left (by assumption))) _)
                    | exact Mk.out _ (Below.alloc hY6 hY6.size _)
                    | exact Mk.out _ (Below.setCell (Below.setCell (Below.setCell hY6 (by first | omega | (simp; done)) _) (by first | omega | (simp; done)) _) (by first | omega | (simp; done)) _))
                  (first
                    | (go_at_call 58
                       refine (HFc.out _ (hWQ.trans (Below.mono (And.left (by assumption)) hWQ.size)) m).mono ?_
                       rintro e w6 ⟨he, hb6⟩
                       obtain rfl : e = .returned (.string bnd) := he.trans (by rw [Hbnd.out])
                       have hY6 : Below Q.heap.size Q w6 := Below.trans (And.left (by assumption)) (hb6.mono (Below.size (And.left (by assumption))))
                       have hz6 := hY6.size
                       (first
                         | (refine (fun (z0 : w6.cell? ⟨Q.heap.size, 0, none⟩ = some (.string { data := #[] })) => ?_) ((hb6.cell (p := ⟨Q.heap.size, 0, none⟩) ?_).trans ?_)
                            rotate_left
                            · (simp; done)
                            · (simp [go_sem]; done))
                         | skip)
                       (first
                         | (refine (fun (z1 : w6.cell? ⟨Q.heap.size, 1, none⟩ = some (.int .i64 0)) => ?_) ((hb6.cell (p := ⟨Q.heap.size, 1, none⟩) ?_).trans ?_)
                            rotate_left
                            · (simp; done)
                            · (simp [go_sem]; done))
                         | skip)
                       (first
                         | (refine (fun (z2 : w6.cell? ⟨Q.heap.size, 2, none⟩ = some (.int .i64 0)) => ?_) ((hb6.cell (p := ⟨Q.heap.size, 2, none⟩) ?_).trans ?_)
                            rotate_left
                            · (simp; done)
                            · (simp [go_sem]; done))
                         | skip)
                       (first
                         | (refine (fun (f0 : w6.frozen? ⟨Q.heap.size, 0, none⟩ = false) => ?_) ((hb6.frozen (p := ⟨Q.heap.size, 0, none⟩) ?_).trans ?_)
                            rotate_left
                            · (simp; done)
                            · (simp [go_sem]; done))
                         | skip)
                       (first
                         | (refine (fun (f1 : w6.frozen? ⟨Q.heap.size, 1, none⟩ = false) => ?_) ((hb6.frozen (p := ⟨Q.heap.size, 1, none⟩) ?_).trans ?_)
                            rotate_left
                            · (simp; done)
                            · (simp [go_sem]; done))
                         | skip)
                       (first
                         | (refine (fun (f2 : w6.frozen? ⟨Q.heap.size, 2, none⟩ = false) => ?_) ((hb6.frozen (p := ⟨Q.heap.size, 2, none⟩) ?_).trans ?_)
                            rotate_left
                            · (simp; done)
                            · (simp [go_sem]; done))
                         | skip)
                       clear hb6))
                all_goals
                  go_wp2_with fail
                  go_meet
                  first
                    | exact ⟨w6.heap.size, rfl, hz6, by simp, hY6.alloc hz6 _, box3 w6 _ _ _ _⟩
                    | exact ⟨Q.heap.size, rfl, Nat.le_refl _, by have := World.block_lt_of_cell? w6 _ z0; simpa using this, Below.setCell (Below.setCell (Below.setCell hY6 (Nat.le_refl _) _) (Nat.le_refl _) _) (Nat.le_refl _) _, set3 w6 _ _ _ _ _ _ _ z0 z1 z2⟩
              case rest =>
                obtain ⟨bx, rfl, hbx, hbx2, hQV, v0', v1', v2'⟩ := hcut
                clear Mk k0 k1
                have hrc : Below wr.heap.size wr wc := hbQ.trans (hQV.mono hbQ.size)
                have hwc := hb.trans (hrc.mono hb.size)
                have HMV := Lib.hid (show ∀ w', Below wc.heap.size wc w' → w'.cell? ⟨bx, 0, none⟩ = some (.string bnd) ∧ w'.cell? ⟨bx, 1, none⟩ = some (.int .i64 qf) ∧ w'.cell? ⟨bx, 2, none⟩ = some (.int .i64 qt) from fun w' h =>
                  ⟨(h.cell (p := ⟨bx, 0, none⟩) hbx2).trans v0', (h.cell (p := ⟨bx, 1, none⟩) hbx2).trans v1', (h.cell (p := ⟨bx, 2, none⟩) hbx2).trans v2'⟩)
                have HMQc := Lib.hid (show ∀ w', Below wc.heap.size wc w' → w'.cell? ⟨w5.heap.size, 0, none⟩ = some (.int .i64 qf) ∧ w'.cell? ⟨w5.heap.size, 1, none⟩ = some (.int .i64 qt) from fun w' h => HMQ.out w' (hQV.trans (h.mono hQV.size)))
                obtain ⟨k0, k1⟩ := HMQc.out wc (Below.refl _ _)
                have HKc := Lib.hid (HKI.out.below hrc)
                by_cases hL0 : L = []
                · subst hL0
                  have Hoc := Lib.hid (show wc.ownsRow w2.heap.size 66 3 (.slice ao 0 co) 0 [] from ownsRow_below Hown.out hrc)
                  have hl0 : (([] : List Pc).length : Int) = 0 := rfl
                  have HRy := Lib.hid (show Rle (bandAt l hol) pf (clampI pf pt (day * 86400 + 60 * K.getD (n + 1) 1440)) [(bnd, qf, qt)] from HRy.out)
                  have Hfr := Lib.hid (show ∀ g, (Value.slice ao 0 co).ownBlock = some g → g ≠ gK from Hfr.out)
                  simp only [List.length_nil] at hco hLb ⊢
                  clear hl0
                  obtain ⟨i0, hi, hi1, hi2, hi3⟩ := info_parts Try.pcInfo
                  have Hi := Lib.hid (And.intro hi (And.intro hi1 (And.intro hi2 hi3)))
                  clear hi hi1 hi2 hi3
                  go_upto_region 19 with (fail)
                  go_big_quiet (fail)
                  go_upto_region 21 with (fail)
                  obtain ⟨V, hV⟩ : ∃ V, V = wc.drewN nq := ⟨_, rfl⟩
                  have hbV : Below wc.heap.size wc V := by rw [hV]; exact below_drewN5 (Below.refl _ _) _
                  rw [← hV]
                  clear hV
                  obtain ⟨y0, y1, y2⟩ := HMV.out V hbV
                  have hwV := hwc.trans (hbV.mono hwc.size)
                  have hwVz := hwV.size
                  have HoV := Lib.hid (ownsRow_below Hoc.out hbV)
                  have HKV := Lib.hid (HKc.out.below hbV)
                  have HgV := Lib.hid (Nat.lt_of_lt_of_le hgK (Nat.le_trans hrc.size hbV.size))
                  clear v0' v1' v2' k0 k1 
                  go_wp2_with (at_builtin; refine wpList_append_lies _ rfl _ _ 62 rfl w2.heap.size 66 i0 _ 3 32 Try.underlying62 Hi.out.1 Hi.out.2.1 Hi.out.2.2.1 Hi.out.2.2.2 rfl (by decide) _ _ _ rfl (HoV.out.alloc _) ⟨V.heap.size, 0, none⟩ 1 1 [.string bnd, .int .i64 qf, .int .i64 qt] rfl rfl (World.news_of_block (cs := #[.string bnd, .int .i64 qf, .int .i64 qt]) (t := 66) (fr := (0, 0)) (heap_alloc_new _ _)) ?aq2 (by decide) ?aq3 ?aq4 ?aq5 _ rfl ?_)
                  case aq2 => simp [Value.oneCell']
                  case aq3 => unfold maxLen; omega
                  case aq4 => omega
                  case aq5 => (try simp); omega
                  intro g3 cap3 w8 hown8 hgrow8 hat8 hlt8
                  have Hbl := Lib.hid (fun g hg => ownsRow_block HoV.out g hg)
                  have hb8 := (hwV.alloc hwVz (Obj.cells #[.string bnd, .int .i64 qf, .int .i64 qt] 66)).grown hgrow8 (by simp; omega) (fun g hg => (Hbl.out g hg).1)
                  have HK8 := Lib.hid (ics_keep (HKV.out.below ((Below.refl V.heap.size V).alloc (Nat.le_refl _) (Obj.cells #[.string bnd, .int .i64 qf, .int .i64 qt] 66))) hgrow8.size (fun g hg => hgrow8.block g (Nat.lt_of_lt_of_le (by cases hg; exact HgV.out) (by simp)) (fun h => Hfr.out g h.symm (Option.some.inj hg).symm)))
                  have Hfr8 := Lib.hid (show ∀ g, (Value.slice (some ⟨g3, 0, none⟩) (0 + 1) cap3).ownBlock = some g → g ≠ gK from fun g hg => by
                    cases hg
                    rcases hat8 with h | h
                    · exact Hfr.out _ h
                    · have h' : g3 = V.heap.size + 1 := by first | exact h | (rw [h]; simp)
                      have := HgV.out
                      show g3 ≠ gK
                      omega)
                  have Hown8 := Lib.hid hown8
                  clear hown8 hgrow8 hat8
                  go_wp2
                  refine ⟨⟨n + 1, _, by omega, by go_num, HRy.out, ?_, hb8, HK8.out, Hfr8.out⟩, by simp [intOf]; omega⟩
                  exact Hown8.out
                · obtain ⟨M, z, rfl⟩ : ∃ M z, L = M ++ [z] := ⟨_, _, (List.dropLast_concat_getLast hL0).symm⟩
                  obtain ⟨z1, zf, zt⟩ := z
                  clear hL0
                  obtain ⟨g0, cg, hvv, hgB, hgl, hcell0, hcell2⟩ : ∃ g cap, (Value.slice ao (M ++ [(z1, zf, zt)]).length co) = .slice (some ⟨g, 0, none⟩) (M ++ [(z1, zf, zt)]).length cap ∧ w2.heap.size ≤ g ∧ g < wr.heap.size ∧ wr.cell? ⟨g, M.length * 3, none⟩ = some (.string z1) ∧ wr.cell? ⟨g, M.length * 3 + 2, none⟩ = some (.int .i64 zt) := by
                    have h0 := Hown.out
                    rcases h0.2 with ⟨-, h1⟩ | ⟨g, cap, cur, hv, hB, hh, -⟩
                    · simp at h1
                    · rw [hv] at h0
                      refine ⟨g, cap, hv, hB, (Array.getElem?_eq_some_iff.1 hh).1, ?_, ?_⟩
                      · rw [h0.cellAt (M.length * 3) (by simp <;> omega), List.flatMap_append, List.getElem?_append_right (Nat.le_of_eq (flat_length pcCells 3 (fun _ => rfl) M)), flat_length pcCells 3 (fun _ => rfl)]
                        simp [pcCells]
                      · rw [h0.cellAt (M.length * 3 + 2) (by simp; omega), List.flatMap_append, List.getElem?_append_right (by rw [flat_length pcCells 3 (fun _ => rfl)]; omega), flat_length pcCells 3 (fun _ => rfl)]
                        simp [pcCells]
                  simp only [Value.slice.injEq] at hvv
                  obtain ⟨rfl, -, rfl⟩ := hvv
                  have hlenM : (M ++ [(z1, zf, zt)]).length = M.length + 1 := by simp
                  have Hoc := Lib.hid (show wc.ownsRow w2.heap.size 66 3 (.slice (some ⟨g0, 0, none⟩) (M.length + 1) co) (M.length + 1) ((M ++ [(z1, zf, zt)]).flatMap pcCells) by have h := ownsRow_below Hown.out hrc; rwa [hlenM] at h)
                  have Hg0 := Lib.hid (Hfr.out g0 rfl)
                  have Hfr := Lib.hid (show ∀ g, (Value.slice (some ⟨g0, 0, none⟩) (M.length + 1) co).ownBlock = some g → g ≠ gK from Hfr.out)
                  rw [hlenM] at hLb hco ⊢
                  have e0 := (hrc.cell (p := ⟨g0, M.length * 3, none⟩) hgl).trans hcell0
                  have He2 := Lib.hid ((hrc.cell (p := ⟨g0, M.length * 3 + 2, none⟩) hgl).trans hcell2)
                  have hglc := Nat.lt_of_lt_of_le hgl hrc.size
                  clear Hown hlenM hcell0 hcell2
                  have hj1 : IntKind.i64.wrap ((M.length : Int) + 1 - 1) = (M.length : Int) := by rw [Int.add_sub_cancel]; exact IntWalk.i64_in _ (by omega)
                  have hj2 : (0 : Int) < (M.length : Int) + 1 := by omega
                  have hj3 : ((M.length : Int) + 1).toNat = M.length + 1 := by omega
                  have hj4 : IntKind.i64.wrap (M.length : Int) = (M.length : Int) := IntWalk.i64_in _ (by omega)
                  have hj5 : (0 : Int) ≤ (M.length : Int) := Int.natCast_nonneg _
                  have hj6 : (M.length : Int) < (M.length : Int) + 1 := by omega
                  have J := Lib.hid (And.intro hj1 (And.intro hj2 (And.intro hj3 (And.intro hj4 (And.intro hj5 hj6)))))
                  by_cases hzb : z1 = bnd
                  · have hzq : (z1.toList == bnd.toList) = true := (sameS_iff z1 bnd).2 hzb
                    have HRy := Lib.hid (show Rle (bandAt l hol) pf (clampI pf pt (day * 86400 + 60 * K.getD (n + 1) 1440)) (M ++ [(z1, zf, qt)]) by rw [← pushP_eq M (z1, zf, zt) bnd qf qt hzb]; exact HRy.out)
                    clear hzb
                    go_upto_region 19 with (fail)
                    go_big_quiet (fail)
                    go_upto_region 20 with (fail)
                    obtain ⟨V, hV⟩ : ∃ V, V = wc.drewN nq := ⟨_, rfl⟩
                    have hbV : Below wc.heap.size wc V := by rw [hV]; exact below_drewN5 (Below.refl _ _) _
                    rw [← hV]
                    clear hV
                    have hwV := hwc.trans (hbV.mono hwc.size)
                    have HoV := Lib.hid (ownsRow_below Hoc.out hbV)
                    have HKV := Lib.hid (HKc.out.below hbV)
                    clear v0' v1' v2' k0 k1 hj1 hj2 hj3 hj4 hj5 hj6 e0 hzq
                    obtain ⟨k0, k1⟩ := HMQc.out V hbV
                    have e2 : V.cell? ⟨g0, M.length * 3 + 2, none⟩ = some (.int .i64 zt) := (hbV.cell (p := ⟨g0, M.length * 3 + 2, none⟩) hglc).trans He2.out
                    have e3 : V.frozen? ⟨g0, M.length * 3 + 2, none⟩ = false := HoV.out.frozenAt _
                    have Hst := Lib.hid (HoV.out.stored (M.length * 3 + 2) (.int .i64 qt)).1
                    have HKs := Lib.hid (show IcsAt (V.setCell ⟨g0, M.length * 3 + 2, none⟩ (.int .i64 qt)) (.slice (some ⟨gK, oK, none⟩) K.length cK) K from ics_keep HKV.out (by simp) (fun g hg => Below.heap_setCell _ _ _ _ (by cases hg; exact fun h => Hg0.out h.symm)))
                    have HbS := Lib.hid (hwV.setCell hgB (p := ⟨g0, M.length * 3 + 2, none⟩) (Value.int .i64 qt))
                    obtain ⟨hj1, hj2, hj3, hj4, hj5, hj6⟩ := J.out
                    go_wp2
                    refine ⟨⟨n + 1, M ++ [(z1, zf, qt)], by omega, by go_num, HRy.out, ?_, HbS.out, HKs.out, Hfr.out⟩, by simp [intOf]; omega⟩
                    have h := Hst.out
                    rw [pc_set] at h
                    rw [List.length_append]
                    exact h
                  · have hzq : (z1.toList == bnd.toList) = false := by
                      cases hc : (z1.toList == bnd.toList) with
                      | false => rfl
                      | true => exact absurd ((sameS_iff z1 bnd).1 hc) hzb
                    have HRy := Lib.hid (show Rle (bandAt l hol) pf (clampI pf pt (day * 86400 + 60 * K.getD (n + 1) 1440)) (M ++ [(z1, zf, zt)] ++ [(bnd, qf, qt)]) by rw [← pushP_ne M (z1, zf, zt) bnd qf qt hzb]; exact HRy.out)
                    clear hzb
                    obtain ⟨i0, hi, hi1, hi2, hi3⟩ := info_parts Try.pcInfo
                    have Hi := Lib.hid (And.intro hi (And.intro hi1 (And.intro hi2 hi3)))
                    clear hi hi1 hi2 hi3
                    go_upto_region 19 with (fail)
                    go_big_quiet (fail)
                    go_upto_region 21 with (fail)
                    obtain ⟨V, hV⟩ : ∃ V, V = wc.drewN nq := ⟨_, rfl⟩
                    have hbV : Below wc.heap.size wc V := by rw [hV]; exact below_drewN5 (Below.refl _ _) _
                    rw [← hV]
                    clear hV
                    obtain ⟨y0, y1, y2⟩ := HMV.out V hbV
                    have hwV := hwc.trans (hbV.mono hwc.size)
                    have hwVz := hwV.size
                    have HoV := Lib.hid (ownsRow_below Hoc.out hbV)
                    have HKV := Lib.hid (HKc.out.below hbV)
                    have HgV := Lib.hid (Nat.lt_of_lt_of_le hgK (Nat.le_trans hrc.size hbV.size))
                    clear v0' v1' v2' k0 k1 hj1 hj2 hj3 hj4 hj5 hj6 e0 hzq
                    go_wp2_with (at_builtin; refine wpList_append_lies _ rfl _ _ 62 rfl w2.heap.size 66 i0 _ 3 32 Try.underlying62 Hi.out.1 Hi.out.2.1 Hi.out.2.2.1 Hi.out.2.2.2 rfl (by decide) _ _ _ rfl (HoV.out.alloc _) ⟨V.heap.size, 0, none⟩ 1 1 [.string bnd, .int .i64 qf, .int .i64 qt] rfl rfl (World.news_of_block (cs := #[.string bnd, .int .i64 qf, .int .i64 qt]) (t := 66) (fr := (0, 0)) (heap_alloc_new _ _)) ?aq2 (by decide) ?aq3 ?aq4 ?aq5 _ rfl ?_)
                    case aq2 => simp [Value.oneCell']
                    case aq3 => unfold maxLen; omega
                    case aq4 => omega
                    case aq5 => (try simp); omega
                    intro g3 cap3 w8 hown8 hgrow8 hat8 hlt8
                    have Hbl := Lib.hid (fun g hg => ownsRow_block HoV.out g hg)
                    have hb8 := (hwV.alloc hwVz (Obj.cells #[.string bnd, .int .i64 qf, .int .i64 qt] 66)).grown hgrow8 (by simp; omega) (fun g hg => (Hbl.out g hg).1)
                    have HK8 := Lib.hid (ics_keep (HKV.out.below ((Below.refl V.heap.size V).alloc (Nat.le_refl _) (Obj.cells #[.string bnd, .int .i64 qf, .int .i64 qt] 66))) hgrow8.size (fun g hg => hgrow8.block g (Nat.lt_of_lt_of_le (by cases hg; exact HgV.out) (by simp)) (fun h => Hfr.out g h.symm (Option.some.inj hg).symm)))
                    have Hfr8 := Lib.hid (show ∀ g, (Value.slice (some ⟨g3, 0, none⟩) (M.length + 1 + 1) cap3).ownBlock = some g → g ≠ gK from fun g hg => by
                      cases hg
                      rcases hat8 with h | h
                      · exact Hfr.out _ h
                      · have h' : g3 = V.heap.size + 1 := by first | exact h | (rw [h]; simp)
                        have := HgV.out
                        show g3 ≠ gK
                        omega)
                    have Hown8 := Lib.hid hown8
                    clear hown8 hgrow8 hat8
                    go_wp2
                    refine ⟨⟨n + 1, _, by omega, by go_num, HRy.out, ?_, hb8, HK8.out, Hfr8.out⟩, by simp [intOf]; omega⟩
                    rw [List.length_append, List.flatMap_append]
                    have h := Hown8.out
                    simpa [pcCells] using h
          · have hnx2 := HC2.out hnx
            have j1 : ¬ (n : Int) + 1 < (K.length : Int) := by omega
            have j4 : IntKind.i64.wrap ((n : Int) + 1) = (n : Int) + 1 := IntWalk.i64_in _ (by omega)
            obtain ⟨Y, hY⟩ : ∃ Y, Y = X := ⟨_, rfl⟩
            have y0 : Y.cell? ⟨wr.heap.size, 0, none⟩ = some (.int .i64 A) := by rw [hY]; exact x0
            have y1 : Y.cell? ⟨wr.heap.size, 1, none⟩ = some (.int .i64 T) := by rw [hY, HTe.out, hnx2, x1, show day * 86400 + 60 * 1440 = (day + 1) * 86400 by omega]; rfl
            have hbY : Below wr.heap.size wr Y := by rw [hY]; exact hbX
            have hzY : Y.heap.size = wr.heap.size + 1 := by rw [hY]; exact hzX
            have HY := Lib.hid hY
            clear hY
            go_upto_region 15 with (fail)
            rw [← HY.out]
            clear j1 j4 hnx2 x0 x1 fr1 hbX hzX hgX
            obtain ⟨p0, p1⟩ := HM2.out Y (hb.trans (hbY.mono hb.size))
            have HI := Lib.hid (intersect_calls A T pf pt Y)
            cases hmt : meetB A T pf pt with
            | false =>
              have hmv : meetV A T pf pt = .agg #[.int .i64 0, .int .i64 0] := by unfold meetV; rw [if_neg (by rw [hmt]; decide)]
              rw [hmv, hmt] at HI
              have HRn := Lib.hid (HNo.out (by
                have : ¬ max A pf < min T pt := fun h => by rw [Hmt.out.2 h] at hmt; cases hmt
                omega))
              clear hmt hmv
              go_wp2_with fail
              refine HI.out.mono ?_
              rintro e w5 ⟨rfl, hb5⟩
              have hQ : ∀ o, Below wr.heap.size wr (w5.alloc o) := fun o => (hbY.trans (hb5.mono hbY.size)).alloc (Nat.le_trans hbY.size hb5.size) o
              have HQ := Lib.hid hQ
              clear y0 y1 p0 p1 hQ
              go_wp2
              exact ⟨⟨n + 1, L, by omega, by go_num, HRn.out, ownsRow_below Hown.out (HQ.out _), hb.trans ((HQ.out _).mono hb.size), HKI.out.below (HQ.out _), Hfr.out⟩, by simp [intOf]; omega⟩
            | true =>
              have hmv : meetV A T pf pt = .agg #[.int .i64 (max A pf), .int .i64 (min T pt)] := by unfold meetV; rw [if_pos hmt]
              rw [hmv, hmt] at HI
              have HRy := Lib.hid (HYes.out (Hmt.out.1 hmt))
              clear hmt hmv
              generalize max A pf = qf at HI HRy
              generalize min T pt = qt at HI HRy
              obtain ⟨bnd, hbnd⟩ : ∃ bnd, bnd = findB (lastB l) q m l := ⟨_, rfl⟩
              rw [← hbnd] at HRy
              have Hbnd := Lib.hid hbnd
              clear hbnd
              go_wp2_with fail
              refine HI.out.mono ?_
              rintro e w5 ⟨rfl, hb5⟩
              clear y0 y1 p0 p1
              obtain ⟨Q, hQ⟩ : ∃ Q, Q = w5.alloc (Obj.cells #[Value.int .i64 qf, .int .i64 qt] 59) := ⟨_, rfl⟩
              have rQ : Q.heap[w5.heap.size]? = some (Obj.cells #[Value.int .i64 qf, .int .i64 qt] 59) := by rw [hQ]; exact heap_alloc_new _ _
              have hbr5 := hbY.trans (hb5.mono hbY.size)
              have hbQ : Below wr.heap.size wr Q := by rw [hQ]; exact hbr5.alloc hbr5.size _
              have hzQ : Q.heap.size = w5.heap.size + 1 := by rw [hQ]; simp
              have HMQ := Lib.hid (show ∀ w', Below Q.heap.size Q w' → w'.cell? ⟨w5.heap.size, 0, none⟩ = some (.int .i64 qf) ∧ w'.cell? ⟨w5.heap.size, 1, none⟩ = some (.int .i64 qt) from fun w' hb => by
                have q := (hb.block _ (by omega)).trans rQ
                exact ⟨cell_of_row w' _ 0 _ _ _ q, cell_of_row w' _ 1 _ _ _ q⟩)
              have HQ := Lib.hid hQ
              have HzQ := Lib.hid hzQ
              clear hQ rQ hzQ
              go_upto_region 17 with (fail)
              rw [← HQ.out]
              have hrQ := Below.refl Q.heap.size Q
              have hWQ := hb2.trans ((hb.trans (hbQ.mono hb.size)).mono hb2.size)
              have Mk := Lib.hid (show ∀ w' : World, Below Q.heap.size Q w' → Below Q.heap.size Q w' ∧ w'.cell? ⟨w5.heap.size, 0, none⟩ = some (.int .i64 qf) ∧ w'.cell? ⟨w5.heap.size, 1, none⟩ = some (.int .i64 qt) from fun w' h => ⟨h, HMQ.out w' h⟩)
              obtain ⟨k0, k1⟩ := HMQ.out Q hrQ
              go_cut [16] (fun s16 wx => ∃ bx : Nat, s16 = .pointer (some ⟨bx, 0, none⟩) ∧ Q.heap.size ≤ bx ∧ bx < wx.heap.size ∧ Below Q.heap.size Q wx ∧ wx.cell? ⟨bx, 0, none⟩ = some (.string bnd) ∧ wx.cell? ⟨bx, 1, none⟩ = some (.int .i64 qf) ∧ wx.cell? ⟨bx, 2, none⟩ = some (.int .i64 qt))
              case first =>
                go_region_held3 (fun w' : World => Below Q.heap.size Q w' ∧ w'.cell? ⟨w5.heap.size, 0, none⟩ = some (.int .i64 qf) ∧ w'.cell? ⟨w5.heap.size, 1, none⟩ = some (.int .i64 qt))
                  (first
                    | exact Mk.out _ (by assumption)
                    | exact Mk.out _ (Below.drew (by assumption))
                    | exact Mk.out _ (Below.alloc (And.left (by assumption)) (Below.size (And.left (by assumption))) _)
                    | exact Mk.out _ (Below.alloc hY6 hY6.size _)
                    | exact Mk.out _ (Below.setCell (Below.setCell (Below.setCell hY6 (by first | omega | (simp; done)) _) (by first | omega | (simp; done)) _) (by first | omega | (simp; done)) _))
                  (first
                    | (go_at_call 58
                       refine (HFc.out _ (hWQ.trans (Below.mono (And.left (by assumption)) hWQ.size)) m).mono ?_
                       rintro e w6 ⟨he, hb6⟩
                       obtain rfl : e = .returned (.string bnd) := he.trans (by rw [Hbnd.out])
                       have hY6 : Below Q.heap.size Q w6 := Below.trans (And.left (by assumption)) (hb6.mono (Below.size (And.left (by assumption))))
                       have hz6 := hY6.size
                       (first
                         | (refine (fun (z0 : w6.cell? ⟨Q.heap.size, 0, none⟩ = some (.string { data := #[] })) => ?_) ((hb6.cell (p := ⟨Q.heap.size, 0, none⟩) ?_).trans ?_)
                            rotate_left
                            · (simp; done)
                            · (simp [go_sem]; done))
                         | skip)
                       (first
                         | (refine (fun (z1 : w6.cell? ⟨Q.heap.size, 1, none⟩ = some (.int .i64 0)) => ?_) ((hb6.cell (p := ⟨Q.heap.size, 1, none⟩) ?_).trans ?_)
                            rotate_left
                            · (simp; done)
                            · (simp [go_sem]; done))
                         | skip)
                       (first
                         | (refine (fun (z2 : w6.cell? ⟨Q.heap.size, 2, none⟩ = some (.int .i64 0)) => ?_) ((hb6.cell (p := ⟨Q.heap.size, 2, none⟩) ?_).trans ?_)
                            rotate_left
                            · (simp; done)
                            · (simp [go_sem]; done))
                         | skip)
                       (first
                         | (refine (fun (f0 : w6.frozen? ⟨Q.heap.size, 0, none⟩ = false) => ?_) ((hb6.frozen (p := ⟨Q.heap.size, 0, none⟩) ?_).trans ?_)
                            rotate_left
                            · (simp; done)
                            · (simp [go_sem]; done))
                         | skip)
                       (first
                         | (refine (fun (f1 : w6.frozen? ⟨Q.heap.size, 1, none⟩ = false) => ?_) ((hb6.frozen (p := ⟨Q.heap.size, 1, none⟩) ?_).trans ?_)
                            rotate_left
                            · (simp; done)
                            · (simp [go_sem]; done))
                         | skip)
                       (first
                         | (refine (fun (f2 : w6.frozen? ⟨Q.heap.size, 2, none⟩ = false) => ?_) ((hb6.frozen (p := ⟨Q.heap.size, 2, none⟩) ?_).trans ?_)
                            rotate_left
                            · (simp; done)
                            · (simp [go_sem]; done))
                         | skip)
                       clear hb6))
                all_goals
                  go_wp2_with fail
                  go_meet
                  first
                    | exact ⟨w6.heap.size, rfl, hz6, by simp, hY6.alloc hz6 _, box3 w6 _ _ _ _⟩
                    | exact ⟨Q.heap.size, rfl, Nat.le_refl _, by have := World.block_lt_of_cell? w6 _ z0; simpa using this, Below.setCell (Below.setCell (Below.setCell hY6 (Nat.le_refl _) _) (Nat.le_refl _) _) (Nat.le_refl _) _, set3 w6 _ _ _ _ _ _ _ z0 z1 z2⟩
              case rest =>
                obtain ⟨bx, rfl, hbx, hbx2, hQV, v0', v1', v2'⟩ := hcut
                clear Mk k0 k1
                have hrc : Below wr.heap.size wr wc := hbQ.trans (hQV.mono hbQ.size)
                have hwc := hb.trans (hrc.mono hb.size)
                have HMV := Lib.hid (show ∀ w', Below wc.heap.size wc w' → w'.cell? ⟨bx, 0, none⟩ = some (.string bnd) ∧ w'.cell? ⟨bx, 1, none⟩ = some (.int .i64 qf) ∧ w'.cell? ⟨bx, 2, none⟩ = some (.int .i64 qt) from fun w' h =>
                  ⟨(h.cell (p := ⟨bx, 0, none⟩) hbx2).trans v0', (h.cell (p := ⟨bx, 1, none⟩) hbx2).trans v1', (h.cell (p := ⟨bx, 2, none⟩) hbx2).trans v2'⟩)
                have HMQc := Lib.hid (show ∀ w', Below wc.heap.size wc w' → w'.cell? ⟨w5.heap.size, 0, none⟩ = some (.int .i64 qf) ∧ w'.cell? ⟨w5.heap.size, 1, none⟩ = some (.int .i64 qt) from fun w' h => HMQ.out w' (hQV.trans (h.mono hQV.size)))
                obtain ⟨k0, k1⟩ := HMQc.out wc (Below.refl _ _)
                have HKc := Lib.hid (HKI.out.below hrc)
                by_cases hL0 : L = []
                · subst hL0
                  have Hoc := Lib.hid (show wc.ownsRow w2.heap.size 66 3 (.slice ao 0 co) 0 [] from ownsRow_below Hown.out hrc)
                  have hl0 : (([] : List Pc).length : Int) = 0 := rfl
                  have HRy := Lib.hid (show Rle (bandAt l hol) pf (clampI pf pt (day * 86400 + 60 * K.getD (n + 1) 1440)) [(bnd, qf, qt)] from HRy.out)
                  have Hfr := Lib.hid (show ∀ g, (Value.slice ao 0 co).ownBlock = some g → g ≠ gK from Hfr.out)
                  simp only [List.length_nil] at hco hLb ⊢
                  clear hl0
                  obtain ⟨i0, hi, hi1, hi2, hi3⟩ := info_parts Try.pcInfo
                  have Hi := Lib.hid (And.intro hi (And.intro hi1 (And.intro hi2 hi3)))
                  clear hi hi1 hi2 hi3
                  go_upto_region 19 with (fail)
                  go_big_quiet (fail)
                  go_upto_region 21 with (fail)
                  obtain ⟨V, hV⟩ : ∃ V, V = wc.drewN nq := ⟨_, rfl⟩
                  have hbV : Below wc.heap.size wc V := by rw [hV]; exact below_drewN5 (Below.refl _ _) _
                  rw [← hV]
                  clear hV
                  obtain ⟨y0, y1, y2⟩ := HMV.out V hbV
                  have hwV := hwc.trans (hbV.mono hwc.size)
                  have hwVz := hwV.size
                  have HoV := Lib.hid (ownsRow_below Hoc.out hbV)
                  have HKV := Lib.hid (HKc.out.below hbV)
                  have HgV := Lib.hid (Nat.lt_of_lt_of_le hgK (Nat.le_trans hrc.size hbV.size))
                  clear v0' v1' v2' k0 k1 
                  go_wp2_with (at_builtin; refine wpList_append_lies _ rfl _ _ 62 rfl w2.heap.size 66 i0 _ 3 32 Try.underlying62 Hi.out.1 Hi.out.2.1 Hi.out.2.2.1 Hi.out.2.2.2 rfl (by decide) _ _ _ rfl (HoV.out.alloc _) ⟨V.heap.size, 0, none⟩ 1 1 [.string bnd, .int .i64 qf, .int .i64 qt] rfl rfl (World.news_of_block (cs := #[.string bnd, .int .i64 qf, .int .i64 qt]) (t := 66) (fr := (0, 0)) (heap_alloc_new _ _)) ?aq2 (by decide) ?aq3 ?aq4 ?aq5 _ rfl ?_)
                  case aq2 => simp [Value.oneCell']
                  case aq3 => unfold maxLen; omega
                  case aq4 => omega
                  case aq5 => (try simp); omega
                  intro g3 cap3 w8 hown8 hgrow8 hat8 hlt8
                  have Hbl := Lib.hid (fun g hg => ownsRow_block HoV.out g hg)
                  have hb8 := (hwV.alloc hwVz (Obj.cells #[.string bnd, .int .i64 qf, .int .i64 qt] 66)).grown hgrow8 (by simp; omega) (fun g hg => (Hbl.out g hg).1)
                  have HK8 := Lib.hid (ics_keep (HKV.out.below ((Below.refl V.heap.size V).alloc (Nat.le_refl _) (Obj.cells #[.string bnd, .int .i64 qf, .int .i64 qt] 66))) hgrow8.size (fun g hg => hgrow8.block g (Nat.lt_of_lt_of_le (by cases hg; exact HgV.out) (by simp)) (fun h => Hfr.out g h.symm (Option.some.inj hg).symm)))
                  have Hfr8 := Lib.hid (show ∀ g, (Value.slice (some ⟨g3, 0, none⟩) (0 + 1) cap3).ownBlock = some g → g ≠ gK from fun g hg => by
                    cases hg
                    rcases hat8 with h | h
                    · exact Hfr.out _ h
                    · have h' : g3 = V.heap.size + 1 := by first | exact h | (rw [h]; simp)
                      have := HgV.out
                      show g3 ≠ gK
                      omega)
                  have Hown8 := Lib.hid hown8
                  clear hown8 hgrow8 hat8
                  go_wp2
                  refine ⟨⟨n + 1, _, by omega, by go_num, HRy.out, ?_, hb8, HK8.out, Hfr8.out⟩, by simp [intOf]; omega⟩
                  exact Hown8.out
                · obtain ⟨M, z, rfl⟩ : ∃ M z, L = M ++ [z] := ⟨_, _, (List.dropLast_concat_getLast hL0).symm⟩
                  obtain ⟨z1, zf, zt⟩ := z
                  clear hL0
                  obtain ⟨g0, cg, hvv, hgB, hgl, hcell0, hcell2⟩ : ∃ g cap, (Value.slice ao (M ++ [(z1, zf, zt)]).length co) = .slice (some ⟨g, 0, none⟩) (M ++ [(z1, zf, zt)]).length cap ∧ w2.heap.size ≤ g ∧ g < wr.heap.size ∧ wr.cell? ⟨g, M.length * 3, none⟩ = some (.string z1) ∧ wr.cell? ⟨g, M.length * 3 + 2, none⟩ = some (.int .i64 zt) := by
                    have h0 := Hown.out
                    rcases h0.2 with ⟨-, h1⟩ | ⟨g, cap, cur, hv, hB, hh, -⟩
                    · simp at h1
                    · rw [hv] at h0
                      refine ⟨g, cap, hv, hB, (Array.getElem?_eq_some_iff.1 hh).1, ?_, ?_⟩
                      · rw [h0.cellAt (M.length * 3) (by simp <;> omega), List.flatMap_append, List.getElem?_append_right (Nat.le_of_eq (flat_length pcCells 3 (fun _ => rfl) M)), flat_length pcCells 3 (fun _ => rfl)]
                        simp [pcCells]
                      · rw [h0.cellAt (M.length * 3 + 2) (by simp; omega), List.flatMap_append, List.getElem?_append_right (by rw [flat_length pcCells 3 (fun _ => rfl)]; omega), flat_length pcCells 3 (fun _ => rfl)]
                        simp [pcCells]
                  simp only [Value.slice.injEq] at hvv
                  obtain ⟨rfl, -, rfl⟩ := hvv
                  have hlenM : (M ++ [(z1, zf, zt)]).length = M.length + 1 := by simp
                  have Hoc := Lib.hid (show wc.ownsRow w2.heap.size 66 3 (.slice (some ⟨g0, 0, none⟩) (M.length + 1) co) (M.length + 1) ((M ++ [(z1, zf, zt)]).flatMap pcCells) by have h := ownsRow_below Hown.out hrc; rwa [hlenM] at h)
                  have Hg0 := Lib.hid (Hfr.out g0 rfl)
                  have Hfr := Lib.hid (show ∀ g, (Value.slice (some ⟨g0, 0, none⟩) (M.length + 1) co).ownBlock = some g → g ≠ gK from Hfr.out)
                  rw [hlenM] at hLb hco ⊢
                  have e0 := (hrc.cell (p := ⟨g0, M.length * 3, none⟩) hgl).trans hcell0
                  have He2 := Lib.hid ((hrc.cell (p := ⟨g0, M.length * 3 + 2, none⟩) hgl).trans hcell2)
                  have hglc := Nat.lt_of_lt_of_le hgl hrc.size
                  clear Hown hlenM hcell0 hcell2
                  have hj1 : IntKind.i64.wrap ((M.length : Int) + 1 - 1) = (M.length : Int) := by rw [Int.add_sub_cancel]; exact IntWalk.i64_in _ (by omega)
                  have hj2 : (0 : Int) < (M.length : Int) + 1 := by omega
                  have hj3 : ((M.length : Int) + 1).toNat = M.length + 1 := by omega
                  have hj4 : IntKind.i64.wrap (M.length : Int) = (M.length : Int) := IntWalk.i64_in _ (by omega)
                  have hj5 : (0 : Int) ≤ (M.length : Int) := Int.natCast_nonneg _
                  have hj6 : (M.length : Int) < (M.length : Int) + 1 := by omega
                  have J := Lib.hid (And.intro hj1 (And.intro hj2 (And.intro hj3 (And.intro hj4 (And.intro hj5 hj6)))))
                  by_cases hzb : z1 = bnd
                  · have hzq : (z1.toList == bnd.toList) = true := (sameS_iff z1 bnd).2 hzb
                    have HRy := Lib.hid (show Rle (bandAt l hol) pf (clampI pf pt (day * 86400 + 60 * K.getD (n + 1) 1440)) (M ++ [(z1, zf, qt)]) by rw [← pushP_eq M (z1, zf, zt) bnd qf qt hzb]; exact HRy.out)
                    clear hzb
                    go_upto_region 19 with (fail)
                    go_big_quiet (fail)
                    go_upto_region 20 with (fail)
                    obtain ⟨V, hV⟩ : ∃ V, V = wc.drewN nq := ⟨_, rfl⟩
                    have hbV : Below wc.heap.size wc V := by rw [hV]; exact below_drewN5 (Below.refl _ _) _
                    rw [← hV]
                    clear hV
                    have hwV := hwc.trans (hbV.mono hwc.size)
                    have HoV := Lib.hid (ownsRow_below Hoc.out hbV)
                    have HKV := Lib.hid (HKc.out.below hbV)
                    clear v0' v1' v2' k0 k1 hj1 hj2 hj3 hj4 hj5 hj6 e0 hzq
                    obtain ⟨k0, k1⟩ := HMQc.out V hbV
                    have e2 : V.cell? ⟨g0, M.length * 3 + 2, none⟩ = some (.int .i64 zt) := (hbV.cell (p := ⟨g0, M.length * 3 + 2, none⟩) hglc).trans He2.out
                    have e3 : V.frozen? ⟨g0, M.length * 3 + 2, none⟩ = false := HoV.out.frozenAt _
                    have Hst := Lib.hid (HoV.out.stored (M.length * 3 + 2) (.int .i64 qt)).1
                    have HKs := Lib.hid (show IcsAt (V.setCell ⟨g0, M.length * 3 + 2, none⟩ (.int .i64 qt)) (.slice (some ⟨gK, oK, none⟩) K.length cK) K from ics_keep HKV.out (by simp) (fun g hg => Below.heap_setCell _ _ _ _ (by cases hg; exact fun h => Hg0.out h.symm)))
                    have HbS := Lib.hid (hwV.setCell hgB (p := ⟨g0, M.length * 3 + 2, none⟩) (Value.int .i64 qt))
                    obtain ⟨hj1, hj2, hj3, hj4, hj5, hj6⟩ := J.out
                    go_wp2
                    refine ⟨⟨n + 1, M ++ [(z1, zf, qt)], by omega, by go_num, HRy.out, ?_, HbS.out, HKs.out, Hfr.out⟩, by simp [intOf]; omega⟩
                    have h := Hst.out
                    rw [pc_set] at h
                    rw [List.length_append]
                    exact h
                  · have hzq : (z1.toList == bnd.toList) = false := by
                      cases hc : (z1.toList == bnd.toList) with
                      | false => rfl
                      | true => exact absurd ((sameS_iff z1 bnd).1 hc) hzb
                    have HRy := Lib.hid (show Rle (bandAt l hol) pf (clampI pf pt (day * 86400 + 60 * K.getD (n + 1) 1440)) (M ++ [(z1, zf, zt)] ++ [(bnd, qf, qt)]) by rw [← pushP_ne M (z1, zf, zt) bnd qf qt hzb]; exact HRy.out)
                    clear hzb
                    obtain ⟨i0, hi, hi1, hi2, hi3⟩ := info_parts Try.pcInfo
                    have Hi := Lib.hid (And.intro hi (And.intro hi1 (And.intro hi2 hi3)))
                    clear hi hi1 hi2 hi3
                    go_upto_region 19 with (fail)
                    go_big_quiet (fail)
                    go_upto_region 21 with (fail)
                    obtain ⟨V, hV⟩ : ∃ V, V = wc.drewN nq := ⟨_, rfl⟩
                    have hbV : Below wc.heap.size wc V := by rw [hV]; exact below_drewN5 (Below.refl _ _) _
                    rw [← hV]
                    clear hV
                    obtain ⟨y0, y1, y2⟩ := HMV.out V hbV
                    have hwV := hwc.trans (hbV.mono hwc.size)
                    have hwVz := hwV.size
                    have HoV := Lib.hid (ownsRow_below Hoc.out hbV)
                    have HKV := Lib.hid (HKc.out.below hbV)
                    have HgV := Lib.hid (Nat.lt_of_lt_of_le hgK (Nat.le_trans hrc.size hbV.size))
                    clear v0' v1' v2' k0 k1 hj1 hj2 hj3 hj4 hj5 hj6 e0 hzq
                    go_wp2_with (at_builtin; refine wpList_append_lies _ rfl _ _ 62 rfl w2.heap.size 66 i0 _ 3 32 Try.underlying62 Hi.out.1 Hi.out.2.1 Hi.out.2.2.1 Hi.out.2.2.2 rfl (by decide) _ _ _ rfl (HoV.out.alloc _) ⟨V.heap.size, 0, none⟩ 1 1 [.string bnd, .int .i64 qf, .int .i64 qt] rfl rfl (World.news_of_block (cs := #[.string bnd, .int .i64 qf, .int .i64 qt]) (t := 66) (fr := (0, 0)) (heap_alloc_new _ _)) ?aq2 (by decide) ?aq3 ?aq4 ?aq5 _ rfl ?_)
                    case aq2 => simp [Value.oneCell']
                    case aq3 => unfold maxLen; omega
                    case aq4 => omega
                    case aq5 => (try simp); omega
                    intro g3 cap3 w8 hown8 hgrow8 hat8 hlt8
                    have Hbl := Lib.hid (fun g hg => ownsRow_block HoV.out g hg)
                    have hb8 := (hwV.alloc hwVz (Obj.cells #[.string bnd, .int .i64 qf, .int .i64 qt] 66)).grown hgrow8 (by simp; omega) (fun g hg => (Hbl.out g hg).1)
                    have HK8 := Lib.hid (ics_keep (HKV.out.below ((Below.refl V.heap.size V).alloc (Nat.le_refl _) (Obj.cells #[.string bnd, .int .i64 qf, .int .i64 qt] 66))) hgrow8.size (fun g hg => hgrow8.block g (Nat.lt_of_lt_of_le (by cases hg; exact HgV.out) (by simp)) (fun h => Hfr.out g h.symm (Option.some.inj hg).symm)))
                    have Hfr8 := Lib.hid (show ∀ g, (Value.slice (some ⟨g3, 0, none⟩) (M.length + 1 + 1) cap3).ownBlock = some g → g ≠ gK from fun g hg => by
                      cases hg
                      rcases hat8 with h | h
                      · exact Hfr.out _ h
                      · have h' : g3 = V.heap.size + 1 := by first | exact h | (rw [h]; simp)
                        have := HgV.out
                        show g3 ≠ gK
                        omega)
                    have Hown8 := Lib.hid hown8
                    clear hown8 hgrow8 hat8
                    go_wp2
                    refine ⟨⟨n + 1, _, by omega, by go_num, HRy.out, ?_, hb8, HK8.out, Hfr8.out⟩, by simp [intOf]; omega⟩
                    rw [List.length_append, List.flatMap_append]
                    have h := Hown8.out
                    simpa [pcCells] using h
        · have HE := Lib.hid (show day * 86400 + 60 * K.getD n 1440 = (day + 1) * 86400 by rw [show K.getD n 1440 = 1440 by simp [List.getD, hlt]]; omega)
          have hq9 : IntKind.i64.wrap (day + 1) = day + 1 := IntWalk.i64_in _ (by omega)
          go_wp2
          exact ⟨⟨day + 1, L, rfl, by omega, by omega, by rw [← HE.out]; exact HR.out, Hown.out, hb⟩, by simp [intOf]; omega⟩
    · have HE := Lib.hid (show clampI pf pt (day * 86400) = pt by unfold clampI; omega)
      have hbw := hw0.trans ((hb2.trans (hb.mono hb2.size)).mono hw0.size)
      go_wp2
      go_ret
      exact ⟨L, _, rfl, PcsAt.own Hown.out, by rw [← HE.out]; exact HR.out, hbw⟩
end Go.Proofs.Ytnekgkmlodeckaa
