/-
  The walk of the law BandsSeconds.
-/
import Derived.Test.YtcfmndhjmlbcoaaLight05
namespace Go.Proofs.Ytcfmndhjmlbcoaa
open Go.RowKit

theorem psec_ok (v vh : Value) (l : List Bn) (hol : List Int) (pf pt : Int) (nm : ByteArray) (L : List Pc) (hok : cutOk l pf pt) (hR : Rle (bandAt l hol) pf pt L) (w : World) (h : BnsAt w v l) (hh : IcsAt w vh hol) :
    Calls Try.prog 24 #[v, vh, .agg #[.int .i64 pf, .int .i64 pt], .string nm] w (IntTo (secP nm L) w) := by
  refine (psec_calls v vh l hol pf pt nm w h hh).mono ?_
  rintro e w' ⟨L', he, hR', hb⟩
  have : L' = L := rle_unique _ _ pf (hR'.1 hok) hR
  subst this
  exact ⟨he, hb⟩

theorem sumN_snoc (L : List Pc) (N : List ByteArray) (n : ByteArray) : sumN L (N ++ [n]) = sumN L N + secP n L := by
  induction N with
  | nil => simp [sumN]
  | cons a N ih => rw [List.cons_append, sumN, sumN, ih]; omega
theorem sumN_take (L : List Pc) (l : List Bn) (k : Nat) (h : k < l.length) : sumN L ((l.take (k + 1)).map (·.1)) = sumN L ((l.take k).map (·.1)) + secP l[k].1 L := by
  rw [List.take_succ_eq_append_getElem h, List.map_append, List.map_cons, List.map_nil, sumN_snoc]

/-- The bands' names are names, each once; so the seconds of all add up. -/
theorem seconds_all {l : List Bn} {hol : List Int} {pf pt : Int} {L : List Pc} (hz : checkB l = 0) (hR : Rle (bandAt l hol) pf pt L) : sumN L (l.map (·.1)) = pt - pf ∧ secP { data := #[] } L = 0 := by
  obtain ⟨hn, -, hall, hpw⟩ := checkB_ok hz
  have hmem : ∀ p ∈ L, ∃ b ∈ l, p.1 = b.1 := fun p hp => by
    obtain ⟨i, hi, rfl⟩ := List.getElem_of_mem hp
    obtain ⟨g1, g2, -, g4, -⟩ := rle_get L pf hR i hi
    obtain ⟨b, hb, he⟩ := bandAt_mem l hol L[i].2.1 hn
    exact ⟨b, hb, (g4 _ (Int.le_refl _) g2).symm.trans he⟩
  refine ⟨?_, ?_⟩
  · rw [sumN_all _ (List.pairwise_map.2 hpw) L (fun p hp => by
      obtain ⟨b, hb, he⟩ := hmem p hp
      rw [he]; exact List.mem_map.2 ⟨b, hb, rfl⟩), rle_all L pf hR]
  · refine secP_zero _ L fun p hp he => ?_
    obtain ⟨b, hb, hb2⟩ := hmem p hp
    have := (hall b hb).1
    rw [← hb2, he] at this
    revert this
    decide

theorem rle_exists (g : Int → ByteArray) (a : Int) : ∀ n : Nat, ∃ L, Rle g a (a + n) L
  | 0 => ⟨[], by show a = a + ((0 : Nat) : Int); omega⟩
  | n + 1 => by
    obtain ⟨L, hL⟩ := rle_exists g a n
    refine ⟨pushP L (g (a + n)) (a + n) (a + ((n + 1 : Nat) : Int)), rle_push (by omega) (fun t h1 h2 => ?_) L a hL⟩
    have : t = a + n := by omega
    rw [this]
theorem secP_nonneg (nm : ByteArray) : ∀ (L : List Pc), (∀ p ∈ L, p.2.1 ≤ p.2.2) → 0 ≤ secP nm L
  | [], _ => Int.le_refl _
  | p :: L, h => by
    have h1 := secP_nonneg nm L (fun q hq => h q (by simp [hq]))
    have h2 := h p (by simp)
    rw [secP]
    split <;> omega
theorem sumN_app (L : List Pc) : ∀ (A B : List ByteArray), sumN L (A ++ B) = sumN L A + sumN L B
  | [], B => by simp [sumN]
  | a :: A, B => by rw [List.cons_append, sumN, sumN, sumN_app L A B]; omega
theorem sumN_nonneg (L : List Pc) (h : ∀ p ∈ L, p.2.1 ≤ p.2.2) : ∀ N : List ByteArray, 0 ≤ sumN L N
  | [] => Int.le_refl _
  | n :: N => by
    have := sumN_nonneg L h N
    have := secP_nonneg n L h
    rw [sumN]; omega
theorem sumN_part {l : List Bn} {hol : List Int} {pf pt : Int} {L : List Pc} (hz : checkB l = 0) (hR : Rle (bandAt l hol) pf pt L) (k : Nat) : 0 ≤ sumN L ((l.take k).map (·.1)) ∧ sumN L ((l.take k).map (·.1)) ≤ pt - pf := by
  have hp : ∀ p ∈ L, p.2.1 ≤ p.2.2 := fun p hp => by
    obtain ⟨i, hi, rfl⟩ := List.getElem_of_mem hp
    obtain ⟨g1, g2, -⟩ := rle_get L pf hR i hi
    omega
  have h1 := (seconds_all hz hR).1
  rw [← List.take_append_drop k l, List.map_append, sumN_app] at h1
  have h2 := sumN_nonneg L hp ((l.take k).map (·.1))
  have h3 := sumN_nonneg L hp ((l.drop k).map (·.1))
  omega

set_option maxRecDepth 100000 in
set_option maxHeartbeats 12800000 in
theorem seconds05_law (bv hv : Value) (l : List Bn) (hol : List Int) (pf pt : Int) (w : World) (h : BnsAt w bv l) (hh : IcsAt w hv hol) :
    Calls Try.prog 7 #[.agg #[bv, hv], .agg #[.int .i64 pf, .int .i64 pt]] w fun e w' => e = .returned (.bool true) ∧ Below w.heap.size w w' := by
  obtain ⟨X, hX⟩ : ∃ X, X = w.alloc (Obj.cells #[bv, hv] 32) := ⟨_, rfl⟩
  obtain ⟨W, hW⟩ : ∃ W, W = X.alloc (Obj.cells #[Value.int .i64 pf, .int .i64 pt] 37) := ⟨_, rfl⟩
  have hwX : Below w.heap.size w X := by rw [hX]; exact (Below.refl _ _).alloc (Nat.le_refl _) _
  have hXW : Below X.heap.size X W := by rw [hW]; exact (Below.refl _ _).alloc (Nat.le_refl _) _
  have hw0 := hwX.trans (hXW.mono hwX.size)
  have hzX : X.heap.size = w.heap.size + 1 := by rw [hX]; simp
  have hzW : X.heap.size < W.heap.size := by rw [hW]; simp
  have rX : X.heap[w.heap.size]? = some (Obj.cells #[bv, hv] 32) := by rw [hX]; exact heap_alloc_new _ _
  have rW : W.heap[X.heap.size]? = some (Obj.cells #[Value.int .i64 pf, .int .i64 pt] 37) := by rw [hW]; exact heap_alloc_new _ _
  have rX2 := (hXW.block _ (by omega)).trans rX
  rw [hzX] at rW hzW
  have HM := Lib.hid (show ∀ w', Below W.heap.size W w' → (w'.cell? ⟨w.heap.size, 0, none⟩ = some bv ∧ w'.cell? ⟨w.heap.size, 1, none⟩ = some hv) ∧ w'.cell? ⟨w.heap.size + 1, 0, none⟩ = some (.int .i64 pf) ∧ w'.cell? ⟨w.heap.size + 1, 1, none⟩ = some (.int .i64 pt) from fun w' hb => by
    have q := (hb.block _ (by omega)).trans rX2
    have q2 := (hb.block _ hzW).trans rW
    exact ⟨⟨cell_of_row w' _ 0 _ _ _ q, cell_of_row w' _ 1 _ _ _ q⟩, cell_of_row w' _ 0 _ _ _ q2, cell_of_row w' _ 1 _ _ _ q2⟩)
  have HW := Lib.hid (show W = (w.alloc (Obj.cells #[bv, hv] 32)).alloc (Obj.cells #[Value.int .i64 pf, .int .i64 pt] 37) by rw [hW, hX])
  have HB := Lib.hid (fun w1 (hb : Below W.heap.size W w1) => (h.below hw0).below hb)
  have HH := Lib.hid (fun w1 (hb : Below W.heap.size W w1) => (hh.below hw0).below hb)
  have HL := Lib.hid (light_calls bv hv l hol W (h.below hw0) (hh.below hw0))
  have HC := Lib.hid (fun w1 (hb : Below W.heap.size W w1) => check_calls bv l w1 ((h.below hw0).below hb))
  have HV := Lib.hid (fun w1 => rvalid_calls pf pt w1)
  have Hw0 := Lib.hid hw0
  have hBB := h
  obtain ⟨av, cap, rfl, hlc, hm, -⟩ := h
  obtain ⟨avh, caph, rfl, -, -, -⟩ := hh
  have hm := hm.1
  unfold maxLen at hm
  clear hX hW hwX hXW hzX hzW rX rW rX2 hw0
  obtain ⟨⟨m0, m1⟩, m2, m3⟩ := HM.out W (Below.refl _ _)
  go_enter Try.func7, Try.ntmps7
  go_upto_region 1 with (fail)
  rw [← HW.out]
  go_wp2_with fail
  refine HL.out.mono ?_
  rintro e w1 ⟨r, rfl, hb1⟩
  clear m0 m1 m2 m3
  obtain ⟨⟨m0, m1⟩, m2, m3⟩ := HM.out w1 hb1
  cases r with
  | false =>
    go_wp2_with fail
    refine (awake05_calls w1).mono ?_
    rintro e w2 ⟨rfl, hbx⟩
    have hb2 := hb1.trans (hbx.mono hb1.size)
    go_wp2
    go_ret
    exact ⟨rfl, Hw0.out.trans (hb2.mono Hw0.out.size)⟩
  | true =>
    by_cases hz : checkB l = 0
    · have HC1 := Lib.hid (HC.out w1 hb1)
      rw [hz] at HC1
      go_wp2_with fail
      refine HC1.out.mono ?_
      rintro e w2 ⟨rfl, hbx⟩
      have hb2 := hb1.trans (hbx.mono hb1.size)
      clear m0 m1 m2 m3
      obtain ⟨⟨m0, m1⟩, m2, m3⟩ := HM.out w2 hb2
      cases hv2 : validB pf pt with
      | false =>
        rw [hv2] at HV
        clear hz hv2
        go_wp2_with fail
        refine (HV.out w2).mono ?_
        rintro e w3 ⟨rfl, hbx⟩
        have hb3 := hb2.trans (hbx.mono hb2.size)
        go_wp2_with fail
        refine (awake05_calls w3).mono ?_
        rintro e w4 ⟨rfl, hbx⟩
        have hb4 := hb3.trans (hbx.mono hb3.size)
        go_wp2
        go_ret
        exact ⟨rfl, Hw0.out.trans (hb4.mono Hw0.out.size)⟩
      | true =>
        rw [hv2] at HV
        obtain ⟨v0, v1, v2⟩ := (validB_iff pf pt).1 hv2
        have a1 : IntKind.i64.wrap (pt - pf) = pt - pf := IntWalk.i64_in _ (by omega)
        by_cases hs : pt - pf ≤ 2678400
        · have hok : cutOk l pf pt := ⟨hz, hv2, hs⟩
          have hs2 : ¬ 2678400 < pt - pf := by omega
          obtain ⟨L, hR⟩ := rle_exists (bandAt l hol) pf (pt - pf).toNat
          rw [show pf + ((pt - pf).toNat : Int) = pt by omega] at hR
          have HS := Lib.hid (fun w1 (hb : Below W.heap.size W w1) nm => psec_ok _ _ l hol pf pt nm L hok hR w1 (HB.out w1 hb) (HH.out w1 hb))
          have HSA := Lib.hid (seconds_all hz hR)
          have HSP := Lib.hid (sumN_part (l := l) (hol := hol) hz hR)
          have Hok := Lib.hid hok
          clear hz hv2 hR hok
          go_wp2_with fail
          refine (HV.out w2).mono ?_
          rintro e w3 ⟨rfl, hbx⟩
          have hb3 := hb2.trans (hbx.mono hb2.size)
          clear m0 m1 m2 m3 hbx
          obtain ⟨⟨m0, m1⟩, m2, m3⟩ := HM.out w3 hb3
          go_wp2_with fail
          clear m0 m1 m2 m3
          go_loopw [5, 6] (fun n i wr => ∃ k : Nat, k ≤ l.length ∧ i = .int .i64 k ∧ n = .int .i64 (sumN L ((l.take k).map (·.1))) ∧ Below W.heap.size W wr) (fun _ i _ => l.length - (intOf i).toNat)
          case atStart => exact ⟨0, Nat.zero_le _, rfl, rfl, hb3⟩
          case round =>
            obtain ⟨k, hk, rfl, rfl, hb⟩ := hrel
            obtain ⟨s0, s1⟩ := HSP.out k
            obtain ⟨⟨m0, m1⟩, m2, m3⟩ := HM.out wr hb
            by_cases hlt : k < l.length
            · have hBw := HB.out wr hb
              obtain ⟨av2, cap2, e2, -, -, hx⟩ := hBw
              cases e2
              obtain ⟨b, o, rfl, hBb, hx⟩ := hx (by rintro rfl; cases hlt)
              obtain ⟨⟨c0, -⟩, -⟩ := hx k hlt
              have HT := Lib.hid (sumN_take L l k hlt)
              obtain ⟨s2, s3⟩ := HSP.out (k + 1)
              rw [HT.out] at s2 s3
              have hk0 : (0 : Int) ≤ (k : Int) := Int.natCast_nonneg _
              have hk1 : (k : Int) < (l.length : Int) := by omega
              clear hx
              generalize l[k] = y at *
              obtain ⟨nm, ss⟩ := y
              dsimp only at c0 HT s2 s3
              have HSk := Lib.hid (fun w1 (hb : Below W.heap.size W w1) => HS.out w1 hb nm)
              generalize secP nm L = d at *
              generalize sumN L ((l.take k).map (·.1)) = s at *
              have a2 : IntKind.i64.wrap (s + d) = s + d := IntWalk.i64_in _ (by omega)
              have hrr := Below.refl wr.heap.size wr
              have Mk := Lib.hid (show ∀ w' : World, Below wr.heap.size wr w' → Below wr.heap.size wr w' ∧ w'.cell? ⟨w.heap.size, 0, none⟩ = some (.slice (some ⟨b, o, none⟩) l.length cap) ∧ w'.cell? ⟨w.heap.size, 1, none⟩ = some (.slice avh hol.length caph) ∧ w'.cell? ⟨w.heap.size + 1, 0, none⟩ = some (.int .i64 pf) ∧ w'.cell? ⟨w.heap.size + 1, 1, none⟩ = some (.int .i64 pt) ∧ w'.cell? ⟨b, o + k * 2, none⟩ = some (.string nm) from fun w' h => by
                obtain ⟨⟨z0, z1⟩, z2, z3⟩ := HM.out w' (hb.trans (h.mono hb.size))
                exact ⟨h, z0, z1, z2, z3, (h.cell (p := ⟨b, _, none⟩) hBb).trans c0⟩)
              go_upto_region 7 with (fail)
              go_region_held3 (fun w' : World => Below wr.heap.size wr w' ∧ w'.cell? ⟨w.heap.size, 0, none⟩ = some (.slice (some ⟨b, o, none⟩) l.length cap) ∧ w'.cell? ⟨w.heap.size, 1, none⟩ = some (.slice avh hol.length caph) ∧ w'.cell? ⟨w.heap.size + 1, 0, none⟩ = some (.int .i64 pf) ∧ w'.cell? ⟨w.heap.size + 1, 1, none⟩ = some (.int .i64 pt) ∧ w'.cell? ⟨b, o + k * 2, none⟩ = some (.string nm))
                (first
                  | exact Mk.out _ (by assumption)
                  | exact Mk.out _ (Below.drew (by assumption)))
                (first
                  | (go_at_call 24
                     refine (HSk.out _ (hb.trans (Below.mono (And.left (by assumption)) hb.size))).mono ?_
                     rintro e w5 ⟨rfl, hb5⟩
                     have hY5 : Below wr.heap.size wr w5 := Below.trans (And.left (by assumption)) (hb5.mono (Below.size (And.left (by assumption))))
                     clear hb5))
              go_wp2
              exact ⟨⟨k + 1, by omega, by go_num, by rw [HT.out], hb.trans (hY5.mono hb.size)⟩, by simp [intOf]; omega⟩
            · have hsum : sumN L ((l.take k).map (·.1)) = pt - pf := by rw [List.take_of_length_le (by omega)]; exact HSA.out.1
              rw [hsum]
              have HS0 := Lib.hid (HS.out wr hb { data := #[] })
              rw [HSA.out.2] at HS0
              clear hsum s0 s1
              go_wp2_with fail
              refine HS0.out.mono ?_
              rintro e w5 ⟨rfl, hbx⟩
              have hb5 := hb.trans (hbx.mono hb.size)
              go_wp2_with fail
              refine (awake05_calls w5).mono ?_
              rintro e w4 ⟨rfl, hbx⟩
              have hb4 := hb5.trans (hbx.mono hb5.size)
              go_wp2
              go_ret
              exact ⟨rfl, Hw0.out.trans (hb4.mono Hw0.out.size)⟩
        · have hs2 : 2678400 < pt - pf := by omega
          clear hz hv2
          go_wp2_with fail
          refine (HV.out w2).mono ?_
          rintro e w3 ⟨rfl, hbx⟩
          have hb3 := hb2.trans (hbx.mono hb2.size)
          clear m0 m1 m2 m3
          obtain ⟨⟨m0, m1⟩, m2, m3⟩ := HM.out w3 hb3
          go_wp2_with fail
          refine (awake05_calls w3).mono ?_
          rintro e w4 ⟨rfl, hbx⟩
          have hb4 := hb3.trans (hbx.mono hb3.size)
          go_wp2
          go_ret
          exact ⟨rfl, Hw0.out.trans (hb4.mono Hw0.out.size)⟩
    · have HC1 := Lib.hid (HC.out w1 hb1)
      have hz2 : (checkB l != 0) = true := bne_iff_ne.2 hz
      clear hz
      go_wp2_with fail
      refine HC1.out.mono ?_
      rintro e w2 ⟨rfl, hbx⟩
      have hb2 := hb1.trans (hbx.mono hb1.size)
      go_wp2_with fail
      refine (awake05_calls w2).mono ?_
      rintro e w4 ⟨rfl, hbx⟩
      have hb4 := hb2.trans (hbx.mono hb2.size)
      go_wp2
      go_ret
      exact ⟨rfl, Hw0.out.trans (hb4.mono Hw0.out.size)⟩
end Go.Proofs.Ytcfmndhjmlbcoaa
