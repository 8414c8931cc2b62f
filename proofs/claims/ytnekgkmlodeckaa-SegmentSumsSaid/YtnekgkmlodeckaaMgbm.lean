/-
  The walk of the reference's Cut of bands.
-/
import Derived.Test.YtnekgkmlodeckaaMgbj
import Derived.Test.YtnekgkmlodeckaaMgbk
import Derived.Test.YtnekgkmlodeckaaMgax
import Derived.Test.YtnekgkmlodeckaaMgay
import Derived.Deep.DeepCutAuto
import Derived.Deep.RegionHeld3
namespace Go.Proofs.Ytnekgkmlodeckaa
open Go.RowKit

theorem mins_mono {K : List Int} {on on' : Sl → Prop} {l : List Bn} (h : Mins K on l) (ho : ∀ s, on' s → on s) : Mins K on' l :=
  ⟨h.1, h.2.1, h.2.2.1, fun b hb s hs hn => h.2.2.2 b hb s hs (ho s hn)⟩

set_option maxRecDepth 100000 in
set_option maxHeartbeats 12800000 in
theorem rcut5_calls (v vh : Value) (l : List Bn) (hol : List Int) (pf pt : Int) (w : World) (h : BnsAt w v l) (hh : IcsAt w vh hol) (hz : checkB l = 0) (hv : validB pf pt = true) (hsp : pt - pf ≤ 2678400) :
    Calls Try.prog 56 #[v, vh, .agg #[.int .i64 pf, .int .i64 pt]] w (PcsTo (bandAt l hol) pf pt w) := by
  obtain ⟨W, hW⟩ : ∃ W, W = w.alloc (Obj.cells #[Value.int .i64 pf, Value.int .i64 pt] 59) := ⟨_, rfl⟩
  have hw0 : Below w.heap.size w W := by rw [hW]; exact (Below.refl _ _).alloc (Nat.le_refl _) _
  have rW : W.heap[w.heap.size]? = some (Obj.cells #[Value.int .i64 pf, Value.int .i64 pt] 59) := by rw [hW]; exact heap_alloc_new _ _
  have hzW : w.heap.size < W.heap.size := by rw [hW]; simp
  have HM := Lib.hid (show ∀ w', Below W.heap.size W w' → w'.cell? ⟨w.heap.size, 0, none⟩ = some (.int .i64 pf) ∧ w'.cell? ⟨w.heap.size, 1, none⟩ = some (.int .i64 pt) from fun w' hb => by
    have q := (hb.block _ hzW).trans rW
    exact ⟨cell_of_row w' _ 0 _ _ _ q, cell_of_row w' _ 1 _ _ _ q⟩)
  have HW := Lib.hid hW
  have HC := Lib.hid (rcheck_calls v l W (h.below hw0))
  have Hv := Lib.hid (fun w1 => rvalid_calls pf pt w1)
  obtain ⟨hn, hl64, hall, -⟩ := checkB_ok hz
  have HMn := Lib.hid (fun w1 (hb : Below W.heap.size W w1) => minutes_calls v l w1 ((h.below hw0).below hb))
  have HAt := Lib.hid (fun w1 (hb : Below W.heap.size W w1) t h0 h1 => rat_calls v vh l hol t w1 ((h.below hw0).below hb) ((hh.below hw0).below hb) (fun b hb => (hall b hb).2.1) hn h0 h1)
  have HMi := Lib.hid (minsU_mins l (fun b hb => (hall b hb).2.1))
  have hKl := minsU_len l 1440
  obtain ⟨K, hKe⟩ : ∃ K, K = minsU l 1440 := ⟨_, rfl⟩
  unfold MinTo at HMn
  rw [← hKe] at HMn HMi hKl
  obtain ⟨av, cap, rfl, -, -, -⟩ := h
  obtain ⟨avh, caph, rfl, -, -, -⟩ := hh
  obtain ⟨v0, v1, v2⟩ := (validB_iff pf pt).1 hv
  rw [hz] at HC
  rw [hv] at Hv
  have Hw0 := Lib.hid hw0
  clear hz hv hW rW hn hl64 hall hKe hw0
  obtain ⟨m0, m1⟩ := HM.out W (Below.refl _ _)
  have hq1 : pf.tdiv 86400 = pf / 86400 := Int.tdiv_eq_ediv_of_nonneg (by omega)
  have hq2 : IntKind.i64.wrap (pf / 86400) = pf / 86400 := IntWalk.i64_in _ (by omega)
  have hq3 : IntKind.i64.wrap (pt - pf) = pt - pf := IntWalk.i64_in _ (by omega)
  go_enter Try.func56, Try.ntmps56
  go_upto_region 1 with (fail)
  rw [← HW.out]
  go_wp2_with fail
  refine HC.out.mono ?_
  rintro e w1 ⟨rfl, hb1⟩
  clear m0 m1
  obtain ⟨m0, m1⟩ := HM.out w1 hb1
  go_wp2_with fail
  refine (Hv.out w1).mono ?_
  rintro e w2 ⟨rfl, hbx⟩
  have hb2 := hb1.trans (hbx.mono hb1.size)
  clear m0 m1 hbx hb1
  obtain ⟨m0, m1⟩ := HM.out w2 hb2
  go_wp2_with fail
  refine (HMn.out w2 hb2).mono ?_
  rintro e w3 ⟨vK, rfl, hK, hbx⟩
  have hb3 := hb2.trans (hbx.mono hb2.size)
  clear m0 m1 hbx hb2
  obtain ⟨m0, m1⟩ := HM.out w3 hb3
  have hK0 : 0 < K.length := by
    rcases Nat.eq_zero_or_pos K.length with h0 | h0
    · have := HMi.out.2.1
      rw [List.length_eq_zero_iff.1 h0] at this; cases this
    · exact h0
  have HK0 := Lib.hid (show K.getD 0 1440 = 0 by rw [List.getD, HMi.out.2.1]; rfl)
  obtain ⟨aK, cK, rfl, hKc, hKm, hKx⟩ := hK
  obtain ⟨gK, oK, rfl, hgK, hKx⟩ := hKx (by rintro rfl; cases hK0)
  have hKm := hKm.1
  unfold maxLen at hKm
  have HKc := Lib.hid (show ∀ w', Below w3.heap.size w3 w' → ∀ i (hi : i < K.length), w'.cell? ⟨gK, oK + i, none⟩ = some (.int .i64 (K.getD i 1440)) from fun w' hw i hi => by
    have h1 := IntC.stays _ _ _ _ _ hw hgK (hKx i hi)
    unfold IntC at h1
    rw [Nat.mul_one] at h1
    rw [getD_at K i 1440 hi]
    exact h1)
  clear hKx
  go_wp2_with fail
  clear m0 m1 hq1 hq2 hq3
  have HM3 := Lib.hid (show ∀ w', Below w3.heap.size w3 w' → w'.cell? ⟨w.heap.size, 0, none⟩ = some (.int .i64 pf) ∧ w'.cell? ⟨w.heap.size, 1, none⟩ = some (.int .i64 pt) from fun w' hb => HM.out w' (hb3.trans (hb.mono hb3.size)))
  go_loopw [7, 9] (fun v d wr => ∃ (day : Int) (L : List Pc), d = .int .i64 day ∧ 0 ≤ day ∧ day ≤ (pt - 1) / 86400 + 1 ∧ Rle (bandAt l hol) pf (clampI pf pt (day * 86400)) L ∧ wr.ownsRow w3.heap.size 66 3 v L.length (L.flatMap pcCells) ∧ Below w3.heap.size w3 wr) (fun _ d _ => ((pt - 1) / 86400 + 1 - intOf d).toNat)
  case atStart =>
    refine ⟨pf / 86400, [], rfl, by omega, by omega, ?_, ⟨rfl, Or.inl ⟨rfl, rfl⟩⟩, Below.refl _ _⟩
    show pf = _
    unfold clampI
    omega
  case round =>
    obtain ⟨day, L, rfl, hd0, hd1, hR, hown, hb⟩ := hrel
    obtain ⟨wq, rfl⟩ : ∃ wq : World, wq = wr := ⟨_, rfl⟩
    obtain ⟨ao, co, rfl, hco, -⟩ := own_shape hown
    have Hown := Lib.hid hown
    have HR := Lib.hid hR
    clear hown hR
    obtain ⟨m0, m1⟩ := HM3.out wq hb
    have a1 : IntKind.i64.wrap (day * 86400) = day * 86400 := IntWalk.i64_in _ (by omega)
    by_cases hday : day * 86400 < pt
    · have hd2 : day < 146097 := by omega
      have hd3 : day ≤ (pt - 1) / 86400 := by omega
      have Hpart := Lib.hid (fun n (hn : n < K.length) L hR m nx hm hnx => part_step l hol K (bitQ hol day) day pf pt rfl (mins_mono HMi.out (fun _ _ => trivial)) v1 n hn L hR m nx hm hnx)
      have Hband := Lib.hid (fun n (hn : n < K.length) t m h1 h2 h3 h4 => bandAt_part l hol K (fun _ => True) day HMi.out (fun _ _ => trivial) n hn t m h1 h2 h3 h4)
      go_wp2_with fail
      go_loopw [7, 10] (fun v i wr => ∃ (n : Nat) (L : List Pc), n ≤ K.length ∧ i = .int .i64 n ∧ Rle (bandAt l hol) pf (clampI pf pt (day * 86400 + 60 * K.getD n 1440)) L ∧ wr.ownsRow w3.heap.size 66 3 v L.length (L.flatMap pcCells) ∧ Below w3.heap.size w3 wr) (fun _ i _ => K.length - (intOf i).toNat)
      case atStart =>
        refine ⟨0, L, Nat.zero_le _, rfl, ?_, Hown.out, hb⟩
        rw [HK0.out, Int.mul_zero, Int.add_zero]
        exact HR.out
      case round =>
        clear Hown HR hb m0 m1
        obtain ⟨n, L, hn, rfl, hR, hown, hb⟩ := hrel
        obtain ⟨ao, co, rfl, hco, -⟩ := own_shape hown
        have hLl := rle_len L pf hR
        have hcl : clampI pf pt (day * 86400 + 60 * K.getD n 1440) ≤ pt := by unfold clampI; omega
        have hLb : L.length ≤ 2678400 := by omega
        have Hown := Lib.hid hown
        have HR := Lib.hid hR
        clear hown hR hLl hcl
        by_cases hlt : n < K.length
        · obtain ⟨m, hm⟩ : ∃ m, m = K.getD n 1440 := ⟨_, rfl⟩
          obtain ⟨nx, hnx⟩ : ∃ nx, nx = K.getD (n + 1) 1440 := ⟨_, rfl⟩
          obtain ⟨⟨b0, b1, b2, b3⟩, HNo, HYes⟩ := Hpart.out n hlt L HR.out m nx hm hnx
          have HNo := Lib.hid HNo
          have HYes := Lib.hid HYes
          have HBd := Lib.hid (fun t h1 h2 => Hband.out n hlt t m h1 h2 (by rw [hm]; exact Int.le_refl _) (by rw [← hnx]; exact b1))
          rw [← hm, ← hnx] at HBd
          have c0 := HKc.out wr hb n hlt
          rw [← hm] at c0
          have Hc0 := Lib.hid (show ∀ w', Below wr.heap.size wr w' → w'.cell? ⟨gK, oK + n, none⟩ = some (.int .i64 m) from fun w' hw => by rw [hm]; exact HKc.out w' (hb.trans (hw.mono hb.size)) n hlt)
          have HC1 := Lib.hid (show ∀ (h : n + 1 < K.length), wr.cell? ⟨gK, oK + (n + 1), none⟩ = some (.int .i64 nx) from fun h => by rw [hnx]; exact HKc.out wr hb (n + 1) h)
          have HC2 := Lib.hid (show ¬ n + 1 < K.length → nx = 1440 from fun h => by rw [hnx]; simp [List.getD, h])
          clear hm hnx
          have hk0 : (0 : Int) ≤ (n : Int) := Int.natCast_nonneg _
          have hk1 : (n : Int) < (K.length : Int) := by omega
          have j2 : ((n : Int) + 1).toNat = n + 1 := by omega
          have j3 : (0 : Int) ≤ (n : Int) + 1 := by omega
          have j4 : IntKind.i64.wrap ((n : Int) + 1) = (n : Int) + 1 := IntWalk.i64_in _ (by omega)
          have J := Lib.hid (And.intro j2 (And.intro j3 j4))
          clear j2 j3 j4
          have a2 : IntKind.i64.wrap (m * 60) = m * 60 := IntWalk.i64_in _ (by omega)
          have a3 : IntKind.i64.wrap (nx * 60) = nx * 60 := IntWalk.i64_in _ (by omega)
          have a4 : IntKind.i64.wrap (day * 86400 + m * 60) = day * 86400 + m * 60 := IntWalk.i64_in _ (by omega)
          have a5 : IntKind.i64.wrap (day * 86400 + nx * 60) = day * 86400 + nx * 60 := IntWalk.i64_in _ (by omega)
          obtain ⟨p0, p1⟩ := HM3.out wr hb
          have hrr := Below.refl wr.heap.size wr
          have Mk := Lib.hid (show ∀ w' : World, Below wr.heap.size wr w' → Below wr.heap.size wr w' ∧ w'.cell? ⟨w.heap.size, 0, none⟩ = some (.int .i64 pf) ∧ w'.cell? ⟨w.heap.size, 1, none⟩ = some (.int .i64 pt) ∧ w'.cell? ⟨gK, oK + n, none⟩ = some (.int .i64 m) from fun w' h => by
            obtain ⟨z0, z1⟩ := HM3.out w' (hb.trans (h.mono hb.size))
            exact ⟨h, z0, z1, Hc0.out w' h⟩)
          by_cases hnx : n + 1 < K.length
          · have c1 := HC1.out hnx
            have j1 : (n : Int) + 1 < (K.length : Int) := by omega
            obtain ⟨j2, j3, j4⟩ := J.out
            go_upto_region 14 with (fail)
            clear c1 j1 j2 j3 j4
            go_cut [12, 13] (fun s12 s13 wx => s12 = .int .i64 (max pf (day * 86400 + m * 60)) ∧ s13 = .int .i64 (min pt (day * 86400 + nx * 60)) ∧ wx = wr.drew)
            case first =>
              go_region_held3 (fun w' : World => Below wr.heap.size wr w' ∧ w'.cell? ⟨w.heap.size, 0, none⟩ = some (.int .i64 pf) ∧ w'.cell? ⟨w.heap.size, 1, none⟩ = some (.int .i64 pt) ∧ w'.cell? ⟨gK, oK + n, none⟩ = some (.int .i64 m))
                (first
                  | exact Mk.out _ (by assumption)
                  | exact Mk.out _ (Below.drew (by assumption)))
                (fail)
              all_goals
                go_wp2_with fail
                go_meet
                exact ⟨rfl, by first | rfl | (simp; done), rfl⟩
            case rest =>
              obtain ⟨rfl, rfl, hwc⟩ := hcut
              have hbV : Below wr.heap.size wr wc := by rw [hwc]; exact hrr.drew
              have hwV := hb.trans (hbV.mono hb.size)
              have hWV := hb3.trans (hwV.mono hb3.size)
              have HoV := Lib.hid (ownsRow_below Hown.out hbV)
              have hzV := hwV.size
              clear hwc c0 p0 p1 a2 a3 a4 a5 Mk Hown
              have hmx : max pf (day * 86400 + m * 60) = max (day * 86400 + 60 * m) pf := by omega
              have hmn : min pt (day * 86400 + nx * 60) = min (day * 86400 + 60 * nx) pt := by omega
              rw [hmx, hmn]
              obtain ⟨qf, hqf⟩ : ∃ qf, qf = max (day * 86400 + 60 * m) pf := ⟨_, rfl⟩
              obtain ⟨qt, hqt⟩ : ∃ qt, qt = min (day * 86400 + 60 * nx) pt := ⟨_, rfl⟩
              rw [← hqf, ← hqt] at HNo HYes ⊢
              obtain ⟨bnd, hbnd⟩ : ∃ bnd, bnd = findB (lastB l) (bitQ hol day) m l := ⟨_, rfl⟩
              rw [← hbnd] at HYes HBd
              by_cases hlq : qf < qt
              · have hnl : ¬ qt ≤ qf := by omega
                have HRy := Lib.hid (HYes.out hlq)
                have HAq := Lib.hid (HAt.out wc hWV qf (by omega) (by omega))
                rw [HBd.out qf (by omega) (by omega)] at HAq
                clear hmx hmn hqf hqt hbnd
                go_wp2_with fail
                refine HAq.out.mono ?_
                rintro e w5 ⟨rfl, hb5⟩
                have hw5 := hwV.trans (hb5.mono hzV)
                have hz5 := hw5.size
                have Ho5 := Lib.hid (ownsRow_below HoV.out hb5)
                by_cases hL0 : L = []
                · subst hL0
                  have Hoc := Lib.hid (show w5.ownsRow w3.heap.size 66 3 (.slice ao 0 co) 0 [] from Ho5.out)
                  have HRy := Lib.hid (show Rle (bandAt l hol) pf (clampI pf pt (day * 86400 + 60 * K.getD (n + 1) 1440)) [(bnd, qf, qt)] from HRy.out)
                  simp only [List.length_nil] at hco hLb ⊢
                  obtain ⟨i0, hi, hi1, hi2, hi3⟩ := info_parts Try.pcInfo
                  have Hi := Lib.hid (And.intro hi (And.intro hi1 (And.intro hi2 hi3)))
                  clear hi hi1 hi2 hi3
                  go_wp2_with (at_builtin; refine wpList_append_own _ rfl _ _ 62 rfl w3.heap.size 66 i0 _ 3 32 Try.underlying62 Hi.out.1 Hi.out.2.1 Hi.out.2.2.1 Hi.out.2.2.2 rfl (by decide) _ _ _ rfl (Hoc.out.alloc _) ⟨w5.heap.size, 0, none⟩ 1 1 [.string bnd, .int .i64 qf, .int .i64 qt] rfl rfl (World.news_of_block (cs := #[.string bnd, .int .i64 qf, .int .i64 qt]) (t := 66) (fr := (0, 0)) (heap_alloc_new _ _)) ?aq2 ?aq3 ?aq4 ?aq5 ?_)
                  case aq2 => simp [Value.oneCell']
                  case aq3 => unfold maxLen; omega
                  case aq4 => omega
                  case aq5 => (try simp); omega
                  intro v8 w8 hown8 hgrow8 _
                  have Hbl := Lib.hid (fun g hg => ownsRow_block Hoc.out g hg)
                  have hb8 := (hw5.alloc hz5 (Obj.cells #[.string bnd, .int .i64 qf, .int .i64 qt] 66)).grown hgrow8 (by simp; omega) (fun g hg => (Hbl.out g hg).1)
                  have Hown8 := Lib.hid hown8
                  clear hown8 hgrow8
                  obtain ⟨ao8, co8, rfl, -, -⟩ := own_shape Hown8.out
                  go_wp2
                  refine ⟨⟨n + 1, _, by omega, by go_num, HRy.out, ?_, hb8⟩, by simp [intOf]; omega⟩
                  exact Hown8.out
                · obtain ⟨M, z, rfl⟩ : ∃ M z, L = M ++ [z] := ⟨_, _, (List.dropLast_concat_getLast hL0).symm⟩
                  obtain ⟨z1, zf, zt⟩ := z
                  clear hL0
                  obtain ⟨g0, cg, hvv, hgB, hgl, hcell0, hcell2⟩ : ∃ g cap, (Value.slice ao (M ++ [(z1, zf, zt)]).length co) = .slice (some ⟨g, 0, none⟩) (M ++ [(z1, zf, zt)]).length cap ∧ w3.heap.size ≤ g ∧ g < w5.heap.size ∧ w5.cell? ⟨g, M.length * 3, none⟩ = some (.string z1) ∧ w5.cell? ⟨g, M.length * 3 + 2, none⟩ = some (.int .i64 zt) := by
                    have h0 := Ho5.out
                    rcases h0.2 with ⟨-, h1⟩ | ⟨g, cap, cur, hv, hB, hh, -⟩
                    · simp at h1
                    · rw [hv] at h0
                      refine ⟨g, cap, hv, hB, (Array.getElem?_eq_some_iff.1 hh).1, ?_, ?_⟩
                      · rw [h0.cellAt (M.length * 3) (by simp <;> omega), List.flatMap_append, List.getElem?_append_right (Nat.le_of_eq (flat_length pcCells 3 (fun _ => rfl) M)), flat_length pcCells 3 (fun _ => rfl)]
                        simp [pcCells]
                      · rw [h0.cellAt (M.length * 3 + 2) (by simp; omega), List.flatMap_append, List.getElem?_append_right (by rw [flat_length pcCells 3 (fun _ => rfl)]; omega), flat_length pcCells 3 (fun _ => rfl)]
                        simp [pcCells]
                  simp only [Value.slice.injEq] at hvv
                  obtain ⟨rfl, -, rfl⟩ := hvv
                  have hlenM : (M ++ [(z1, zf, zt)]).length = M.length + 1 := by simp
                  have Hoc := Lib.hid (show w5.ownsRow w3.heap.size 66 3 (.slice (some ⟨g0, 0, none⟩) (M.length + 1) co) (M.length + 1) ((M ++ [(z1, zf, zt)]).flatMap pcCells) by have h := Ho5.out; rwa [hlenM] at h)
                  rw [hlenM] at hLb hco ⊢
                  have e0 := hcell0
                  have e2 := hcell2
                  clear Ho5 HoV hlenM hcell0 hcell2
                  have hj1 : IntKind.i64.wrap ((M.length : Int) + 1 - 1) = (M.length : Int) := by rw [Int.add_sub_cancel]; exact IntWalk.i64_in _ (by omega)
                  have hj2 : (0 : Int) < (M.length : Int) + 1 := by omega
                  have hj3 : ((M.length : Int) + 1).toNat = M.length + 1 := by omega
                  have hj4 : IntKind.i64.wrap (M.length : Int) = (M.length : Int) := IntWalk.i64_in _ (by omega)
                  have hj5 : (0 : Int) ≤ (M.length : Int) := Int.natCast_nonneg _
                  have hj6 : (M.length : Int) < (M.length : Int) + 1 := by omega
                  by_cases hzb : z1 = bnd
                  · have hzq : (z1.toList == bnd.toList) = true := (sameS_iff z1 bnd).2 hzb
                    have HRy := Lib.hid (show Rle (bandAt l hol) pf (clampI pf pt (day * 86400 + 60 * K.getD (n + 1) 1440)) (M ++ [(z1, zf, qt)]) by rw [← pushP_eq M (z1, zf, zt) bnd qf qt hzb]; exact HRy.out)
                    clear hzb
                    have e3 : w5.frozen? ⟨g0, M.length * 3 + 2, none⟩ = false := Hoc.out.frozenAt _
                    have Hst := Lib.hid (Hoc.out.stored (M.length * 3 + 2) (.int .i64 qt)).1
                    have HbS := Lib.hid (hw5.setCell hgB (p := ⟨g0, M.length * 3 + 2, none⟩) (Value.int .i64 qt))
                    go_wp2
                    refine ⟨⟨n + 1, M ++ [(z1, zf, qt)], by omega, by go_num, HRy.out, ?_, HbS.out⟩, by simp [intOf]; omega⟩
                    have h := Hst.out
                    rw [pc_set] at h
                    rw [List.length_append]
                    exact h
                  · have hzq : (z1.toList == bnd.toList) = false := by
                      cases hc : (z1.toList == bnd.toList) with
                      | false => rfl
                      | true => exact absurd ((sameS_iff z1 bnd).1 hc) hzb
                    have HRy := Lib.hid (show Rle (bandAt l hol) pf (clampI pf pt (day * 86400 + 60 * K.getD (n + 1) 1440)) (M ++ [(z1, zf, zt)] ++ [(bnd, qf, qt)]) by rw [← pushP_ne M (z1, zf, zt) bnd qf qt hzb]; exact HRy.out)
                    clear hzb
                    obtain ⟨i0, hi, hi1, hi2, hi3⟩ := info_parts Try.pcInfo
                    have Hi := Lib.hid (And.intro hi (And.intro hi1 (And.intro hi2 hi3)))
                    clear hi hi1 hi2 hi3
                    go_wp2_with (at_builtin; refine wpList_append_own _ rfl _ _ 62 rfl w3.heap.size 66 i0 _ 3 32 Try.underlying62 Hi.out.1 Hi.out.2.1 Hi.out.2.2.1 Hi.out.2.2.2 rfl (by decide) _ _ _ rfl (Hoc.out.alloc _) ⟨w5.heap.size, 0, none⟩ 1 1 [.string bnd, .int .i64 qf, .int .i64 qt] rfl rfl (World.news_of_block (cs := #[.string bnd, .int .i64 qf, .int .i64 qt]) (t := 66) (fr := (0, 0)) (heap_alloc_new _ _)) ?aq2 ?aq3 ?aq4 ?aq5 ?_)
                    case aq2 => simp [Value.oneCell']
                    case aq3 => unfold maxLen; omega
                    case aq4 => omega
                    case aq5 => (try simp); omega
                    intro v8 w8 hown8 hgrow8 _
                    have Hbl := Lib.hid (fun g hg => ownsRow_block Hoc.out g hg)
                    have hb8 := (hw5.alloc hz5 (Obj.cells #[.string bnd, .int .i64 qf, .int .i64 qt] 66)).grown hgrow8 (by simp; omega) (fun g hg => (Hbl.out g hg).1)
                    have Hown8 := Lib.hid hown8
                    clear hown8 hgrow8
                    obtain ⟨ao8, co8, rfl, -, -⟩ := own_shape Hown8.out
                    go_wp2
                    refine ⟨⟨n + 1, _, by omega, by go_num, HRy.out, ?_, hb8⟩, by simp [intOf]; omega⟩
                    rw [List.length_append, List.flatMap_append]
                    have h := Hown8.out
                    simpa [pcCells] using h
              · have hnl : qt ≤ qf := by omega
                have HRn := Lib.hid (HNo.out (by omega))
                clear hmx hmn hqf hqt hbnd
                go_wp2
                exact ⟨⟨n + 1, L, by omega, by go_num, HRn.out, HoV.out, hwV⟩, by simp [intOf]; omega⟩
          · have hnx2 := HC2.out hnx
            subst hnx2
            have j1 : ¬ (n : Int) + 1 < (K.length : Int) := by omega
            obtain ⟨-, -, j4⟩ := J.out
            have a6 : IntKind.i64.wrap 86400 = 86400 := by decide
            have a7 : IntKind.i64.wrap (day * 86400 + 86400) = day * 86400 + 86400 := IntWalk.i64_in _ (by omega)
            go_upto_region 14 with (fail)
            clear j1 j4
            go_cut [12, 13] (fun s12 s13 wx => s12 = .int .i64 (max pf (day * 86400 + m * 60)) ∧ s13 = .int .i64 (min pt (day * 86400 + 1440 * 60)) ∧ wx = wr.drew)
            case first =>
              go_region_held3 (fun w' : World => Below wr.heap.size wr w' ∧ w'.cell? ⟨w.heap.size, 0, none⟩ = some (.int .i64 pf) ∧ w'.cell? ⟨w.heap.size, 1, none⟩ = some (.int .i64 pt) ∧ w'.cell? ⟨gK, oK + n, none⟩ = some (.int .i64 m))
                (first
                  | exact Mk.out _ (by assumption)
                  | exact Mk.out _ (Below.drew (by assumption)))
                (fail)
              all_goals
                go_wp2_with fail
                go_meet
                exact ⟨rfl, by first | rfl | (simp; done), rfl⟩
            case rest =>
              obtain ⟨rfl, rfl, hwc⟩ := hcut
              have hbV : Below wr.heap.size wr wc := by rw [hwc]; exact hrr.drew
              have hwV := hb.trans (hbV.mono hb.size)
              have hWV := hb3.trans (hwV.mono hb3.size)
              have HoV := Lib.hid (ownsRow_below Hown.out hbV)
              have hzV := hwV.size
              clear hwc c0 p0 p1 a2 a3 a4 a5 Mk Hown
              have hmx : max pf (day * 86400 + m * 60) = max (day * 86400 + 60 * m) pf := by omega
              have hmn : min pt (day * 86400 + 1440 * 60) = min (day * 86400 + 60 * 1440) pt := by omega
              rw [hmx, hmn]
              obtain ⟨qf, hqf⟩ : ∃ qf, qf = max (day * 86400 + 60 * m) pf := ⟨_, rfl⟩
              obtain ⟨qt, hqt⟩ : ∃ qt, qt = min (day * 86400 + 60 * 1440) pt := ⟨_, rfl⟩
              rw [← hqf, ← hqt] at HNo HYes ⊢
              obtain ⟨bnd, hbnd⟩ : ∃ bnd, bnd = findB (lastB l) (bitQ hol day) m l := ⟨_, rfl⟩
              rw [← hbnd] at HYes HBd
              by_cases hlq : qf < qt
              · have hnl : ¬ qt ≤ qf := by omega
                have HRy := Lib.hid (HYes.out hlq)
                have HAq := Lib.hid (HAt.out wc hWV qf (by omega) (by omega))
                rw [HBd.out qf (by omega) (by omega)] at HAq
                clear hmx hmn hqf hqt hbnd
                go_wp2_with fail
                refine HAq.out.mono ?_
                rintro e w5 ⟨rfl, hb5⟩
                have hw5 := hwV.trans (hb5.mono hzV)
                have hz5 := hw5.size
                have Ho5 := Lib.hid (ownsRow_below HoV.out hb5)
                by_cases hL0 : L = []
                · subst hL0
                  have Hoc := Lib.hid (show w5.ownsRow w3.heap.size 66 3 (.slice ao 0 co) 0 [] from Ho5.out)
                  have HRy := Lib.hid (show Rle (bandAt l hol) pf (clampI pf pt (day * 86400 + 60 * K.getD (n + 1) 1440)) [(bnd, qf, qt)] from HRy.out)
                  simp only [List.length_nil] at hco hLb ⊢
                  obtain ⟨i0, hi, hi1, hi2, hi3⟩ := info_parts Try.pcInfo
                  have Hi := Lib.hid (And.intro hi (And.intro hi1 (And.intro hi2 hi3)))
                  clear hi hi1 hi2 hi3
                  go_wp2_with (at_builtin; refine wpList_append_own _ rfl _ _ 62 rfl w3.heap.size 66 i0 _ 3 32 Try.underlying62 Hi.out.1 Hi.out.2.1 Hi.out.2.2.1 Hi.out.2.2.2 rfl (by decide) _ _ _ rfl (Hoc.out.alloc _) ⟨w5.heap.size, 0, none⟩ 1 1 [.string bnd, .int .i64 qf, .int .i64 qt] rfl rfl (World.news_of_block (cs := #[.string bnd, .int .i64 qf, .int .i64 qt]) (t := 66) (fr := (0, 0)) (heap_alloc_new _ _)) ?aq2 ?aq3 ?aq4 ?aq5 ?_)
                  case aq2 => simp [Value.oneCell']
                  case aq3 => unfold maxLen; omega
                  case aq4 => omega
                  case aq5 => (try simp); omega
                  intro v8 w8 hown8 hgrow8 _
                  have Hbl := Lib.hid (fun g hg => ownsRow_block Hoc.out g hg)
                  have hb8 := (hw5.alloc hz5 (Obj.cells #[.string bnd, .int .i64 qf, .int .i64 qt] 66)).grown hgrow8 (by simp; omega) (fun g hg => (Hbl.out g hg).1)
                  have Hown8 := Lib.hid hown8
                  clear hown8 hgrow8
                  obtain ⟨ao8, co8, rfl, -, -⟩ := own_shape Hown8.out
                  go_wp2
                  refine ⟨⟨n + 1, _, by omega, by go_num, HRy.out, ?_, hb8⟩, by simp [intOf]; omega⟩
                  exact Hown8.out
                · obtain ⟨M, z, rfl⟩ : ∃ M z, L = M ++ [z] := ⟨_, _, (List.dropLast_concat_getLast hL0).symm⟩
                  obtain ⟨z1, zf, zt⟩ := z
                  clear hL0
                  obtain ⟨g0, cg, hvv, hgB, hgl, hcell0, hcell2⟩ : ∃ g cap, (Value.slice ao (M ++ [(z1, zf, zt)]).length co) = .slice (some ⟨g, 0, none⟩) (M ++ [(z1, zf, zt)]).length cap ∧ w3.heap.size ≤ g ∧ g < w5.heap.size ∧ w5.cell? ⟨g, M.length * 3, none⟩ = some (.string z1) ∧ w5.cell? ⟨g, M.length * 3 + 2, none⟩ = some (.int .i64 zt) := by
                    have h0 := Ho5.out
                    rcases h0.2 with ⟨-, h1⟩ | ⟨g, cap, cur, hv, hB, hh, -⟩
                    · simp at h1
                    · rw [hv] at h0
                      refine ⟨g, cap, hv, hB, (Array.getElem?_eq_some_iff.1 hh).1, ?_, ?_⟩
                      · rw [h0.cellAt (M.length * 3) (by simp <;> omega), List.flatMap_append, List.getElem?_append_right (Nat.le_of_eq (flat_length pcCells 3 (fun _ => rfl) M)), flat_length pcCells 3 (fun _ => rfl)]
                        simp [pcCells]
                      · rw [h0.cellAt (M.length * 3 + 2) (by simp; omega), List.flatMap_append, List.getElem?_append_right (by rw [flat_length pcCells 3 (fun _ => rfl)]; omega), flat_length pcCells 3 (fun _ => rfl)]
                        simp [pcCells]
                  simp only [Value.slice.injEq] at hvv
                  obtain ⟨rfl, -, rfl⟩ := hvv
                  have hlenM : (M ++ [(z1, zf, zt)]).length = M.length + 1 := by simp
                  have Hoc := Lib.hid (show w5.ownsRow w3.heap.size 66 3 (.slice (some ⟨g0, 0, none⟩) (M.length + 1) co) (M.length + 1) ((M ++ [(z1, zf, zt)]).flatMap pcCells) by have h := Ho5.out; rwa [hlenM] at h)
                  rw [hlenM] at hLb hco ⊢
                  have e0 := hcell0
                  have e2 := hcell2
                  clear Ho5 HoV hlenM hcell0 hcell2
                  have hj1 : IntKind.i64.wrap ((M.length : Int) + 1 - 1) = (M.length : Int) := by rw [Int.add_sub_cancel]; exact IntWalk.i64_in _ (by omega)
                  have hj2 : (0 : Int) < (M.length : Int) + 1 := by omega
                  have hj3 : ((M.length : Int) + 1).toNat = M.length + 1 := by omega
                  have hj4 : IntKind.i64.wrap (M.length : Int) = (M.length : Int) := IntWalk.i64_in _ (by omega)
                  have hj5 : (0 : Int) ≤ (M.length : Int) := Int.natCast_nonneg _
                  have hj6 : (M.length : Int) < (M.length : Int) + 1 := by omega
                  by_cases hzb : z1 = bnd
                  · have hzq : (z1.toList == bnd.toList) = true := (sameS_iff z1 bnd).2 hzb
                    have HRy := Lib.hid (show Rle (bandAt l hol) pf (clampI pf pt (day * 86400 + 60 * K.getD (n + 1) 1440)) (M ++ [(z1, zf, qt)]) by rw [← pushP_eq M (z1, zf, zt) bnd qf qt hzb]; exact HRy.out)
                    clear hzb
                    have e3 : w5.frozen? ⟨g0, M.length * 3 + 2, none⟩ = false := Hoc.out.frozenAt _
                    have Hst := Lib.hid (Hoc.out.stored (M.length * 3 + 2) (.int .i64 qt)).1
                    have HbS := Lib.hid (hw5.setCell hgB (p := ⟨g0, M.length * 3 + 2, none⟩) (Value.int .i64 qt))
                    go_wp2
                    refine ⟨⟨n + 1, M ++ [(z1, zf, qt)], by omega, by go_num, HRy.out, ?_, HbS.out⟩, by simp [intOf]; omega⟩
                    have h := Hst.out
                    rw [pc_set] at h
                    rw [List.length_append]
                    exact h
                  · have hzq : (z1.toList == bnd.toList) = false := by
                      cases hc : (z1.toList == bnd.toList) with
                      | false => rfl
                      | true => exact absurd ((sameS_iff z1 bnd).1 hc) hzb
                    have HRy := Lib.hid (show Rle (bandAt l hol) pf (clampI pf pt (day * 86400 + 60 * K.getD (n + 1) 1440)) (M ++ [(z1, zf, zt)] ++ [(bnd, qf, qt)]) by rw [← pushP_ne M (z1, zf, zt) bnd qf qt hzb]; exact HRy.out)
                    clear hzb
                    obtain ⟨i0, hi, hi1, hi2, hi3⟩ := info_parts Try.pcInfo
                    have Hi := Lib.hid (And.intro hi (And.intro hi1 (And.intro hi2 hi3)))
                    clear hi hi1 hi2 hi3
                    go_wp2_with (at_builtin; refine wpList_append_own _ rfl _ _ 62 rfl w3.heap.size 66 i0 _ 3 32 Try.underlying62 Hi.out.1 Hi.out.2.1 Hi.out.2.2.1 Hi.out.2.2.2 rfl (by decide) _ _ _ rfl (Hoc.out.alloc _) ⟨w5.heap.size, 0, none⟩ 1 1 [.string bnd, .int .i64 qf, .int .i64 qt] rfl rfl (World.news_of_block (cs := #[.string bnd, .int .i64 qf, .int .i64 qt]) (t := 66) (fr := (0, 0)) (heap_alloc_new _ _)) ?aq2 ?aq3 ?aq4 ?aq5 ?_)
                    case aq2 => simp [Value.oneCell']
                    case aq3 => unfold maxLen; omega
                    case aq4 => omega
                    case aq5 => (try simp); omega
                    intro v8 w8 hown8 hgrow8 _
                    have Hbl := Lib.hid (fun g hg => ownsRow_block Hoc.out g hg)
                    have hb8 := (hw5.alloc hz5 (Obj.cells #[.string bnd, .int .i64 qf, .int .i64 qt] 66)).grown hgrow8 (by simp; omega) (fun g hg => (Hbl.out g hg).1)
                    have Hown8 := Lib.hid hown8
                    clear hown8 hgrow8
                    obtain ⟨ao8, co8, rfl, -, -⟩ := own_shape Hown8.out
                    go_wp2
                    refine ⟨⟨n + 1, _, by omega, by go_num, HRy.out, ?_, hb8⟩, by simp [intOf]; omega⟩
                    rw [List.length_append, List.flatMap_append]
                    have h := Hown8.out
                    simpa [pcCells] using h
              · have hnl : qt ≤ qf := by omega
                have HRn := Lib.hid (HNo.out (by omega))
                clear hmx hmn hqf hqt hbnd
                go_wp2
                exact ⟨⟨n + 1, L, by omega, by go_num, HRn.out, HoV.out, hwV⟩, by simp [intOf]; omega⟩
        · have HE := Lib.hid (show day * 86400 + 60 * K.getD n 1440 = (day + 1) * 86400 by rw [show K.getD n 1440 = 1440 by simp [List.getD, hlt]]; omega)
          have hnk : ¬ (n : Int) < (K.length : Int) := by omega
          have hq9 : IntKind.i64.wrap (day + 1) = day + 1 := IntWalk.i64_in _ (by omega)
          go_wp2
          exact ⟨⟨day + 1, L, rfl, by omega, by omega, by rw [← HE.out]; exact HR.out, Hown.out, hb⟩, by simp [intOf]; omega⟩
    · have HE := Lib.hid (show clampI pf pt (day * 86400) = pt by unfold clampI; omega)
      have hbw := Hw0.out.trans ((hb3.trans (hb.mono hb3.size)).mono Hw0.out.size)
      go_wp2
      go_ret
      exact ⟨L, _, rfl, PcsAt.own Hown.out, by rw [← HE.out]; exact HR.out, hbw⟩
end Go.Proofs.Ytnekgkmlodeckaa
