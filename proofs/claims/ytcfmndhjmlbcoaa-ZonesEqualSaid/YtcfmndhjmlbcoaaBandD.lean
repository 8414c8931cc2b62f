/-
  The walk of bands.Check.
-/
import Derived.Test.YtcfmndhjmlbcoaaBandC
import Derived.Shelf.Abstract
namespace Go.Proofs.Ytcfmndhjmlbcoaa
open Go.RowKit

theorem check1_calls (x : Bn) (sv : Value) (nm : ByteArray) (B : Nat) (W : World) (hB : B < W.heap.size) (hc : W.cell? ⟨B, 0, none⟩ = some (.string nm)) :
    Calls Try.prog 52 #[.agg #[.string x.1, sv], .pointer (some ⟨B, 0, none⟩)] W fun e w' => e = .returned (.bool (sameS x.1 nm)) ∧ Below W.heap.size W w' := by
  have hne : ¬ B = W.heap.size := by omega
  have Ha := Lib.hid (fun o => (Below.refl W.heap.size W).alloc (Nat.le_refl _) o)
  go_enter Try.func52, Try.ntmps52
  go_wp2
  go_ret
  exact ⟨rfl, Ha.out _⟩

theorem SliceAt.take {α : Type} {sz : Nat} {R : World → Nat → Nat → α → Prop} {w : World} {av : Option Addr} {n cap : Nat} {l : List α} (h : SliceAt sz R w (.slice av n cap) l) (k : Nat) (hk : k ≤ l.length) : SliceAt sz R w (.slice av k cap) (l.take k) := by
  obtain ⟨av2, cap2, e, h1, h2, h3⟩ := h
  cases e
  have hl : (l.take k).length = k := by simp; omega
  refine ⟨av, cap, by rw [hl], by omega, h2, fun hne => ?_⟩
  obtain ⟨b, o, e, hB, hx⟩ := h3 (by rintro rfl; simp at hne)
  refine ⟨b, o, e, hB, fun i hi => ?_⟩
  rw [List.getElem_take]
  exact hx i (by omega)

set_option maxRecDepth 100000 in
set_option maxHeartbeats 6400000 in
theorem check_calls (v : Value) (l : List Bn) (w : World) (h : BnsAt w v l) :
    Calls Try.prog 16 #[v] w (IntTo (checkB l) w) := by
  have eg : ∀ args w, (callFunc 52 args).run Try.prog w = .ok (.enter 52 args) w := enters_of Try.func52 (by kernel_rfl) rfl
  have hh := h
  obtain ⟨av, cap, rfl, hlc, hm, -⟩ := h
  have hm := hm.1
  unfold maxLen at hm
  by_cases h0 : l.length = 0
  · have H := Lib.hid (show checkB l = 8 from if_pos h0)
    have hz : ((l.length : Int) == 0) = true := beq_iff_eq.2 (by omega)
    clear h0
    go_enter Try.func16, Try.ntmps16
    go_wp2
    go_ret
    exact ⟨ret_int H.out.symm, Below.refl _ _⟩
  · have hz : ((l.length : Int) == 0) = false := beq_eq_false_iff_ne.2 (by omega)
    by_cases h64 : 64 < l.length
    · have H := Lib.hid (show checkB l = 5 by unfold checkB; rw [if_neg h0, if_pos h64])
      have h64' : (64 : Int) < (l.length : Int) := by omega
      go_enter Try.func16, Try.ntmps16
      go_wp2
      go_ret
      exact ⟨ret_int H.out.symm, Below.refl _ _⟩
    · have HZ := Lib.hid (show checkB l = bandsE (l.take 0) (l.drop 0) by unfold checkB; rw [if_neg h0, if_neg h64]; rfl)
      have h64' : ¬ (64 : Int) < (l.length : Int) := by omega
      clear h0
      go_enter Try.func16, Try.ntmps16
      go_wp2_with fail
      go_loopw [3, 4, 5, 14] (fun _ _ _ i wr => ∃ k : Nat, k ≤ l.length ∧ i = .int .i64 k ∧ checkB l = bandsE (l.take k) (l.drop k) ∧ Below w.heap.size w wr) (fun _ _ _ i _ => l.length - (intOf i).toNat)
      case atStart => exact ⟨0, Nat.zero_le _, rfl, HZ.out, Below.refl _ _⟩
      case round =>
        obtain ⟨k, hk, rfl, hn, hb⟩ := hrel
        have Hn := Lib.hid hn
        clear hn
        by_cases hlt : k < l.length
        · have Hst := Lib.hid (Hn.out.trans (bandsE_step l k hlt))
          obtain ⟨av2, cap2, e2, -, -, hx⟩ := hh.below hb
          cases e2
          obtain ⟨b, o, rfl, hB, hx⟩ := hx (by rintro rfl; cases hlt)
          obtain ⟨⟨c0, s0⟩, sv, c1, hs⟩ := hx k hlt
          have hk0 : (0 : Int) ≤ (k : Int) := Int.natCast_nonneg _
          have hk1 : (k : Int) < (l.length : Int) := by omega
          have hkc : (k : Int) ≤ (cap : Int) := by omega
          clear hx
          generalize hy : l[k] = y at *
          have Hy := Lib.hid hy
          clear hy
          obtain ⟨nm, ss⟩ := y
          dsimp only at c0 c1 hs s0
          have hs0 := hs
          obtain ⟨asv, cs, rfl, -, hms, -⟩ := hs0
          have hms := hms.1
          unfold maxLen at hms
          obtain ⟨X, hX⟩ : ∃ X, X = wr.alloc (Obj.cells #[Value.string nm, .slice asv ss.length cs] 25) := ⟨_, rfl⟩
          have hbX : Below wr.heap.size wr X := by rw [hX]; exact (Below.refl _ _).alloc (Nat.le_refl _) _
          have hwX := hb.trans (hbX.mono hb.size)
          have hzX : wr.heap.size < X.heap.size := by rw [hX]; simp
          have rX : X.heap[wr.heap.size]? = some (Obj.cells #[Value.string nm, .slice asv ss.length cs] 25) := by rw [hX]; exact heap_alloc_new _ _
          have HM := Lib.hid (show ∀ w', Below X.heap.size X w' → w'.cell? ⟨wr.heap.size, 0, none⟩ = some (.string nm) ∧ w'.cell? ⟨wr.heap.size, 1, none⟩ = some (.slice asv ss.length cs) from fun w' hb => by
            have q := (hb.block _ hzX).trans rX
            exact ⟨cell_of_row w' _ 0 _ _ _ q, cell_of_row w' _ 1 _ _ _ q⟩)
          have HC := Lib.hid (show ∀ W, Below X.heap.size X W → Calls Try.prog 51 #[.slice (some ⟨b, o, none⟩) k cap, .func (.func 52) #[] #[.pointer (some ⟨wr.heap.size, 0, none⟩)]] W (BoolTo ((l.take k).any fun x => sameS x.1 nm) W) from fun W hW =>
            containsB_calls _ _ W (SliceAt.take (hh.below (hwX.trans (hW.mono hwX.size))) k hk) (fun x => sameS x.1 nm) _ _ eg (fun W2 x sv hW2 _ _ _ => check1_calls x sv nm wr.heap.size W2 (Nat.lt_of_lt_of_le hzX (hW.trans (hW2.mono hW.size)).size) (HM.out W2 (hW.trans (hW2.mono hW.size))).1))
          have HS := Lib.hid (show ∀ W, Below X.heap.size X W → Calls Try.prog 53 #[.slice asv ss.length cs] W (IntTo (slotsE ss) W) from fun W hW => slots_calls _ ss W ((hs.below hbX).below hW))
          have HX := Lib.hid hX
          obtain ⟨y0, y1⟩ := HM.out X (Below.refl _ _)
          have HwX := Lib.hid hwX
          clear hX hs hh rX hwX hB
          have hbE : bandE (l.take k) (nm, ss) (decide (k + 1 = l.length)) = if isName nm = false then 8 else if (l.take k).any (fun x => sameS x.1 nm) = true then 10 else if (decide (k + 1 = l.length)) = true then (if 0 < ss.length then 8 else 0) else slotsE ss := rfl
          have HbE := Lib.hid hbE
          clear hbE Hy
          generalize bandE (l.take k) (nm, ss) (decide (k + 1 = l.length)) = E at Hst HbE
          have hkw : IntKind.i64.wrap ((l.length : Int) - 1) = (l.length : Int) - 1 := IntWalk.i64_in _ (by omega)
          generalize (l.take k).any (fun x => sameS x.1 nm) = an at *
          have HNm := Lib.hid (bname_calls nm X s0)
          cases hN : isName nm with
          | false =>
            have HE := Lib.hid (show checkB l = 8 by rw [Hst.out, HbE.out.trans (if_pos hN)]; rfl)
            rw [hN] at HNm
            clear hN
            go_upto_region 8 with (fail)
            rw [← HX.out]
            go_wp2_with fail
            refine HNm.out.mono ?_
            rintro e w2 ⟨rfl, rfl⟩
            go_wp2
            go_ret
            exact ⟨ret_int HE.out.symm, HwX.out⟩
          | true =>
            rw [hN] at HNm
            have HbE := Lib.hid (HbE.out.trans (if_neg (by rw [hN]; decide)))
            clear hN
            cases an with
            | true =>
              have HE := Lib.hid (show checkB l = 10 by rw [Hst.out, HbE.out.trans (if_pos rfl)]; rfl)
              go_upto_region 8 with (fail)
              rw [← HX.out]
              go_wp2_with fail
              refine HNm.out.mono ?_
              rintro e w2 ⟨rfl, rfl⟩
              go_wp2_with fail
              refine (HC.out X (Below.refl _ _)).mono ?_
              rintro e w3 ⟨rfl, hb3⟩
              have Hb3 := Lib.hid (HwX.out.trans (hb3.mono HwX.out.size))
              go_wp2
              go_ret
              exact ⟨ret_int HE.out.symm, Hb3.out⟩
            | false =>
              have HbE := Lib.hid (HbE.out.trans (if_neg (by decide)))
              by_cases hlast : k + 1 = l.length
              · have hla : ((k : Int) == (l.length : Int) - 1) = true := beq_iff_eq.2 (by omega)
                by_cases hs8 : 0 < ss.length
                · have HE := Lib.hid (show checkB l = 8 by rw [Hst.out, HbE.out.trans ((if_pos (decide_eq_true hlast)).trans (if_pos hs8))]; rfl)
                  have hs8' : (0 : Int) < (ss.length : Int) := by omega
                  clear hlast
                  go_upto_region 8 with (fail)
                  rw [← HX.out]
                  go_wp2_with fail
                  refine HNm.out.mono ?_
                  rintro e w2 ⟨rfl, rfl⟩
                  go_wp2_with fail
                  refine (HC.out X (Below.refl _ _)).mono ?_
                  rintro e w3 ⟨rfl, hb3⟩
                  obtain ⟨z0, z1⟩ := HM.out w3 hb3
                  have Hb3 := Lib.hid (HwX.out.trans (hb3.mono HwX.out.size))
                  clear y0 y1
                  go_wp2
                  go_ret
                  exact ⟨ret_int HE.out.symm, Hb3.out⟩
                · have HE := Lib.hid (show checkB l = bandsE (l.take (k + 1)) (l.drop (k + 1)) by rw [Hst.out, HbE.out.trans ((if_pos (decide_eq_true hlast)).trans (if_neg hs8))]; rfl)
                  have hs8' : ¬ (0 : Int) < (ss.length : Int) := by omega
                  clear hlast
                  go_upto_region 8 with (fail)
                  rw [← HX.out]
                  go_wp2_with fail
                  refine HNm.out.mono ?_
                  rintro e w2 ⟨rfl, rfl⟩
                  go_wp2_with fail
                  refine (HC.out X (Below.refl _ _)).mono ?_
                  rintro e w3 ⟨rfl, hb3⟩
                  obtain ⟨z0, z1⟩ := HM.out w3 hb3
                  have Hb3 := Lib.hid (HwX.out.trans (hb3.mono HwX.out.size))
                  clear y0 y1
                  go_wp2
                  exact ⟨⟨k + 1, by omega, by go_num, HE.out, Hb3.out⟩, by simp [intOf]; omega⟩
              · have hla : ((k : Int) == (l.length : Int) - 1) = false := beq_eq_false_iff_ne.2 (by omega)
                have HbE := Lib.hid (HbE.out.trans (if_neg (by rw [decide_eq_false hlast]; decide)))
                clear hlast
                by_cases hse : slotsE ss = 0
                · have HE := Lib.hid (show checkB l = bandsE (l.take (k + 1)) (l.drop (k + 1)) by rw [Hst.out, HbE.out, if_neg (not_not_intro hse)])
                  have HSE := Lib.hid hse
                  clear hse
                  go_upto_region 8 with (fail)
                  rw [← HX.out]
                  go_wp2_with fail
                  refine HNm.out.mono ?_
                  rintro e w2 ⟨rfl, rfl⟩
                  go_wp2_with fail
                  refine (HC.out X (Below.refl _ _)).mono ?_
                  rintro e w3 ⟨rfl, hb3⟩
                  obtain ⟨z0, z1⟩ := HM.out w3 hb3
                  clear y0 y1
                  go_wp2_with fail
                  refine (HS.out w3 hb3).mono ?_
                  rintro e w4 ⟨rfl, hb4⟩
                  rw [HSE.out]
                  have Hb4 := Lib.hid (HwX.out.trans ((hb3.trans (hb4.mono hb3.size)).mono HwX.out.size))
                  go_wp2
                  exact ⟨⟨k + 1, by omega, by go_num, HE.out, Hb4.out⟩, by simp [intOf]; omega⟩
                · have HE := Lib.hid (show checkB l = slotsE ss by rw [Hst.out, HbE.out, if_pos hse])
                  have hse2 : (slotsE ss != 0) = true := bne_iff_ne.2 hse
                  clear hse
                  go_upto_region 8 with (fail)
                  rw [← HX.out]
                  go_wp2_with fail
                  refine HNm.out.mono ?_
                  rintro e w2 ⟨rfl, rfl⟩
                  go_wp2_with fail
                  refine (HC.out X (Below.refl _ _)).mono ?_
                  rintro e w3 ⟨rfl, hb3⟩
                  obtain ⟨z0, z1⟩ := HM.out w3 hb3
                  clear y0 y1
                  go_wp2_with fail
                  refine (HS.out w3 hb3).mono ?_
                  rintro e w4 ⟨rfl, hb4⟩
                  have Hb4 := Lib.hid (HwX.out.trans ((hb3.trans (hb4.mono hb3.size)).mono HwX.out.size))
                  go_wp2
                  go_ret
                  exact ⟨ret_int HE.out.symm, Hb4.out⟩
        · have HE := Lib.hid (show checkB l = 0 by rw [Hn.out, bandsE_end l k (by omega)])
          go_wp2
          go_ret
          exact ⟨ret_int HE.out.symm, hb⟩
end Go.Proofs.Ytcfmndhjmlbcoaa
