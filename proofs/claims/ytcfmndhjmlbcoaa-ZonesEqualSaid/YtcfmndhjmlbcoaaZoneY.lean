/-
  The walk of the laws' awake of zones.
-/
import Derived.Test.YtcfmndhjmlbcoaaZoneJ
namespace Go.Proofs.Ytcfmndhjmlbcoaa
open Go.RowKit Go.Sort

theorem rows3 {w W : World} {a b c : Obj} (hW : W = ((w.alloc a).alloc b).alloc c) : Below w.heap.size w W ∧ W.heap.size = w.heap.size + 3 ∧ W.heap[w.heap.size]? = some a ∧ W.heap[w.heap.size + 1]? = some b ∧ W.heap[w.heap.size + 2]? = some c := by
  subst hW
  have h1 : (w.alloc a).heap.size = w.heap.size + 1 := by simp
  have h2 : ((w.alloc a).alloc b).heap.size = w.heap.size + 2 := by simp
  refine ⟨(((Below.refl w.heap.size w).alloc (Nat.le_refl _) a).alloc (by simp) b).alloc (by simp; omega) c, by simp, ?_, ?_, ?_⟩
  · rw [Below.heap_alloc _ _ _ (by omega), Below.heap_alloc _ _ _ (by omega)]
    exact heap_alloc_new _ _
  · rw [Below.heap_alloc _ _ _ (by omega), ← h1]
    exact heap_alloc_new _ _
  · rw [← h2]
    exact heap_alloc_new _ _

theorem strs_two {w : World} {v : Value} {a b : ByteArray} (h : StrsAt w v [a, b]) : ∃ bn on cn, v = .slice (some ⟨bn, on, none⟩) 2 cn ∧ 2 ≤ cn ∧ cn ≤ maxLen ∧ bn < w.heap.size ∧ w.cell? ⟨bn, on, none⟩ = some (.string a) := by
  obtain ⟨av, cap, rfl, hl, hm, hx⟩ := h
  obtain ⟨bn, on, rfl, hB, hx⟩ := hx (by simp)
  have h0 := (hx 0 (by simp)).1
  simp only [Nat.zero_mul, Nat.add_zero, List.getElem_cons_zero] at h0
  exact ⟨bn, on, cap, rfl, hl, hm.1, hB, h0⟩
theorem strs_one {w : World} {v : Value} {a : ByteArray} (h : StrsAt w v [a]) : ∃ bn on cn, v = .slice (some ⟨bn, on, none⟩) 1 cn ∧ 1 ≤ cn ∧ cn ≤ maxLen ∧ bn < w.heap.size ∧ w.cell? ⟨bn, on, none⟩ = some (.string a) := by
  obtain ⟨av, cap, rfl, hl, hm, hx⟩ := h
  obtain ⟨bn, on, rfl, hB, hx⟩ := hx (by simp)
  have h0 := (hx 0 (by simp)).1
  simp only [Nat.zero_mul, Nat.add_zero, List.getElem_cons_zero] at h0
  exact ⟨bn, on, cap, rfl, hl, hm.1, hB, h0⟩
theorem zns_two {w : World} {v : Value} {x y : Zn} (h : ZnsAt w v [x, y]) : ∃ bn on cn sv, v = .slice (some ⟨bn, on, none⟩) 2 cn ∧ 2 ≤ cn ∧ cn ≤ maxLen ∧ bn < w.heap.size ∧ w.cell? ⟨bn, on, none⟩ = some (.string x.1) ∧ w.cell? ⟨bn, on + 1, none⟩ = some sv ∧ StrsAt w sv x.2 := by
  obtain ⟨av, cap, rfl, hl, hm, hx⟩ := h
  obtain ⟨bn, on, rfl, hB, hx⟩ := hx (by simp)
  obtain ⟨⟨h0, -⟩, sv, h1, h2⟩ := hx 0 (by simp)
  simp only [Nat.zero_mul, Nat.add_zero, List.getElem_cons_zero] at h0 h1 h2
  exact ⟨bn, on, cap, sv, rfl, hl, hm.1, hB, h0, h1, h2⟩

set_option maxRecDepth 100000 in
set_option maxHeartbeats 6400000 in
theorem zawake_calls (w : World) : Calls Try.prog 29 #[] w (BoolTo true w) := by
  obtain ⟨W1, hW1⟩ : ∃ W1, W1 = ((w.alloc (Obj.cells #[.string t49, .string t4930] 9)).alloc (Obj.cells #[.string t4915] 9)).alloc (Obj.cells #[.string tHome, .slice (some ⟨w.heap.size, 0, none⟩) 2 2, .string tMob, .slice (some ⟨w.heap.size + 1, 0, none⟩) 1 1] 62) := ⟨_, rfl⟩
  obtain ⟨hb1, hz1, r0, r1, r2⟩ := rows3 hW1
  have ZL : ZnsAt W1 (.slice (some ⟨w.heap.size + 2, 0, none⟩) 2 2) exL := zns2_block (tHome, [t49, t4930]) (tMob, [t4915]) _ _ r2 (strs_block _ r0 (by decide) (by decide) _ rfl) (strs_block _ r1 (by decide) (by decide) _ rfl) (by decide) (by decide)
  have HZL := Lib.hid (fun w1 (hb : Below W1.heap.size W1 w1) => ZL.below hb)
  have HW1 := Lib.hid hW1
  have Hb1 := Lib.hid hb1
  clear r0 r1 r2 hW1 ZL
  go_enter Try.func29, Try.ntmps29
  go_upto_region 2 with (fail)
  rw [← HW1.out]
  go_wp2_with fail
  refine (zfind_calls _ exL _ W1 (HZL.out _ (Below.refl _ _)) (by decide)).mono ?_
  rintro e w2 ⟨rfl, hb2⟩
  rw [ex_f1]
  go_wp2_with fail
  refine (zfind_calls _ exL _ w2 (HZL.out _ hb2) (by decide)).mono ?_
  rintro e w3 ⟨rfl, hb3⟩
  have hb3 := hb2.trans (hb3.mono hb2.size)
  rw [ex_f2]
  go_wp2_with fail
  refine (zfind_calls _ exL _ w3 (HZL.out _ hb3) (by decide)).mono ?_
  rintro e w4 ⟨rfl, hb4⟩
  have hb4 := hb3.trans (hb4.mono hb3.size)
  rw [ex_f3]
  go_wp2_with fail
  refine (zmin_calls _ exL w4 (HZL.out _ hb4)).mono ?_
  rintro e w5 ⟨v5, M, rfl, hM, hMO, hb5⟩
  have hb5 := hb4.trans (hb5.mono hb4.size)
  rw [hMO.one ex_m] at hM
  clear hMO
  obtain ⟨bm, om, cm, sm, rfl, hcm, hcm2, hBm, m0, m1, hsm⟩ := zns_two hM
  obtain ⟨bs, os, cs, rfl, hcs, hcs2, hBs, p0⟩ := strs_one hsm
  clear hM hsm
  obtain ⟨W6, hW6⟩ : ∃ W6, W6 = ((w5.alloc (Obj.cells #[.string t4915] 9)).alloc (Obj.cells #[.string t49] 9)).alloc (Obj.cells #[.string tMob, .slice (some ⟨w5.heap.size, 0, none⟩) 1 1, .string tHome, .slice (some ⟨w5.heap.size + 1, 0, none⟩) 1 1] 62) := ⟨_, rfl⟩
  obtain ⟨hb6, hz6, r0, r1, r2⟩ := rows3 hW6
  have ZK : ZnsAt W6 (.slice (some ⟨w5.heap.size + 2, 0, none⟩) 2 2) exK := zns2_block (tMob, [t4915]) (tHome, [t49]) _ _ r2 (strs_block _ r0 (by decide) (by decide) _ rfl) (strs_block _ r1 (by decide) (by decide) _ rfl) (by decide) (by decide)
  have HW6 := Lib.hid hW6
  clear r0 r1 r2 hW6
  obtain ⟨W7, hW7⟩ : ∃ W7, W7 = ((W6.alloc (Obj.cells #[.string t49, .string t4930, .string t4915] 9)).alloc (Obj.cells #[.string t4915] 9)).alloc (Obj.cells #[.string tHome, .slice (some ⟨w5.heap.size + 3, 0, none⟩) 3 3, .string tMob, .slice (some ⟨w5.heap.size + 3 + 1, 0, none⟩) 1 1] 62) := ⟨_, rfl⟩
  obtain ⟨hb7, hz7, r0, r1, r2⟩ := rows3 hW7
  rw [hz6] at r0 r1 r2
  have ZT : ZnsAt W7 (.slice (some ⟨w5.heap.size + 3 + 2, 0, none⟩) 2 2) exT := zns2_block (tHome, [t49, t4930, t4915]) (tMob, [t4915]) _ _ r2 (strs_block _ r0 (by decide) (by decide) _ rfl) (strs_block _ r1 (by decide) (by decide) _ rfl) (by decide) (by decide)
  have HW7 := Lib.hid hW7
  have HZK := Lib.hid (fun w1 (hb : Below W7.heap.size W7 w1) => (ZK.below hb7).below hb)
  have HZT := Lib.hid (fun w1 (hb : Below W7.heap.size W7 w1) => ZT.below hb)
  have h57 : Below w5.heap.size w5 W7 := hb6.trans (hb7.mono hb6.size)
  have Hb17 := Lib.hid (hb5.trans (h57.mono hb5.size))
  have HM := Lib.hid (show ∀ w1, Below W7.heap.size W7 w1 → w1.cell? ⟨bm, om, none⟩ = some (.string tHome) ∧ w1.cell? ⟨bm, om + 1, none⟩ = some (.slice (some ⟨bs, os, none⟩) 1 cs) ∧ w1.cell? ⟨bs, os, none⟩ = some (.string t49) from fun w1 hb => by
    have h := h57.trans (hb.mono h57.size)
    exact ⟨(h.cell (p := ⟨bm, _, none⟩) hBm).trans m0, (h.cell (p := ⟨bm, _, none⟩) hBm).trans m1, (h.cell (p := ⟨bs, _, none⟩) hBs).trans p0⟩)
  clear r0 r1 r2 hW7 ZT ZK hb6 hb7 h57 m0 m1 p0 hb2 hb3 hb4 hb5
  go_upto_region 7 with (fail)
  rw [← HW6.out]
  go_upto_region 8 with (fail)
  rw [← HW7.out]
  go_wp2_with fail
  refine (znames_calls _ exK W7 (HZK.out _ (Below.refl _ _))).mono ?_
  rintro e w8 ⟨v8, rfl, hv8, hb8⟩
  rw [ex_n] at hv8
  have Hv8 := Lib.hid hv8
  obtain ⟨bn, on, cn, rfl, hcn, hcn2, hBn, -⟩ := strs_two hv8
  obtain ⟨q0, q1, q2⟩ := HM.out w8 hb8
  clear hv8
  go_wp2_with fail
  refine (zequal_calls _ _ exL exK w8 (HZL.out _ (Hb17.out.trans (hb8.mono Hb17.out.size))) (HZK.out _ hb8)).mono ?_
  rintro e w9 ⟨rfl, hb9⟩
  have Hb910 := fun w10 (h : Below w9.heap.size w9 w10) => hb9.trans (h.mono hb9.size)
  have hb9 := hb8.trans (hb9.mono hb8.size)
  rw [ex_e]
  go_wp2_with fail
  refine (zcheck_calls _ exT w9 (HZT.out _ hb9)).mono ?_
  rintro e w10 ⟨rfl, hb10⟩
  rw [ex_t]
  have hb910 := Hb910 w10 hb10
  obtain ⟨bn', on', cn', e2, -, -, hBn', n0⟩ := strs_two (Hv8.out.below hb910)
  cases e2
  have H10 := Lib.hid (Hb17.out.trans ((hb9.trans (hb10.mono hb9.size)).mono Hb17.out.size))
  have H11 := Lib.hid (Hb1.out.trans (H10.out.mono Hb1.out.size))
  go_wp2
  go_ret
  exact ⟨rfl, H11.out⟩
end Go.Proofs.Ytcfmndhjmlbcoaa
