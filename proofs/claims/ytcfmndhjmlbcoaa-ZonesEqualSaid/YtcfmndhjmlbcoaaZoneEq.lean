/-
  The walks of the reference's agrees and Equal.
-/
import Derived.Test.YtcfmndhjmlbcoaaZoneX
namespace Go.Proofs.Ytcfmndhjmlbcoaa
open Go.RowKit Go.Sort

/-- Do two lists give the prefixes of the first one the same zones? -/
def agrZ (a b : List Zn) : Bool := (allPr a).all (fun p => sameS (bestP p (prs a)).1 (bestP p (prs b)).1)
theorem agr_bad {a b : List Zn} {p : ByteArray} (hp : p ∈ allPr a) (h : sameS (bestP p (prs a)).1 (bestP p (prs b)).1 = false) : agrZ a b = false := by
  unfold agrZ
  rw [List.all_eq_false]
  exact ⟨p, hp, by rw [h]; decide⟩
theorem all_more {P : ByteArray → Bool} {K : List ByteArray} {ps : List ByteArray} {k : Nat} (hk : k < ps.length) (h : (K ++ ps.take k).all P = true) (hp : P ps[k] = true) : (K ++ ps.take (k + 1)).all P = true := by
  rw [List.take_succ_eq_append_getElem hk, ← List.append_assoc, List.all_append, h]
  simp [hp]

set_option maxRecDepth 100000 in
set_option maxHeartbeats 6400000 in
theorem ragrees_calls (va vb : Value) (a b : List Zn) (w : World) (ha : ZnsAt w va a) (hb : ZnsAt w vb b) :
    Calls Try.prog 70 #[va, vb] w fun e w' => e = .returned (.bool (agrZ a b)) ∧ w = w' := by
  have hB := ha
  have HFa := Lib.hid (fun s => rfind_calls va a s w ha)
  have HFb := Lib.hid (fun s => rfind_calls vb b s w hb)
  have HB := Lib.hid (fun p hp h => (agr_bad (a := a) (b := b) (p := p) hp h))
  have HG := Lib.hid (show agrZ a b = (allPr a).all (fun p => sameS (bestP p (prs a)).1 (bestP p (prs b)).1) from rfl)
  obtain ⟨av, cap, rfl, hlc, hm, -⟩ := ha
  obtain ⟨bv, cbp, rfl, -, -, -⟩ := hb
  have hm := hm.1
  unfold maxLen at hm
  obtain ⟨P, hP⟩ : ∃ P : ByteArray → Bool, P = fun p => sameS (bestP p (prs a)).1 (bestP p (prs b)).1 := ⟨_, rfl⟩
  have HP := Lib.hid (fun p => congrFun hP p)
  rw [← hP] at HG
  clear hP
  go_enter Try.func70, Try.ntmps70
  go_wp2_with fail
  go_loop [5] (fun x => ∃ i : Nat, i ≤ a.length ∧ x = .int .i64 i ∧ (allPr (a.take i)).all P = true) (fun x => a.length - (intOf x).toNat)
  case atStart => exact ⟨0, Nat.zero_le _, rfl, rfl⟩
  case round =>
    obtain ⟨i, hi, rfl, hall⟩ := hrel
    have Hall := Lib.hid hall
    clear hall
    by_cases hlt : i < a.length
    · have HPT := Lib.hid (allPr_take a i hlt)
      have HMem := Lib.hid (fun p (hp : p ∈ a[i].2) => (List.mem_flatMap.2 ⟨a[i], List.getElem_mem hlt, hp⟩ : p ∈ allPr a))
      obtain ⟨av2, cap2, e2, -, -, hx⟩ := id hB
      cases e2
      obtain ⟨b1, o, rfl, hBb, hx⟩ := hx (by rintro rfl; cases hlt)
      obtain ⟨⟨c0, s0⟩, sv, c1, hsl⟩ := hx i hlt
      have hi0 : (0 : Int) ≤ (i : Int) := Int.natCast_nonneg _
      have hi1 : (i : Int) < (a.length : Int) := by omega
      clear hx
      generalize a[i] = y at *
      obtain ⟨nm, ps⟩ := y
      dsimp only at c0 c1 hsl s0 HPT HMem
      have hs0 := hsl
      obtain ⟨asv, cs, rfl, hsc, hms, -⟩ := hs0
      have hms := hms.1
      unfold maxLen at hms
      obtain ⟨PR, hPR⟩ : ∃ PR, PR = allPr (a.take i) := ⟨_, rfl⟩
      rw [← hPR] at HPT Hall
      clear hPR
      go_wp2_with fail
      go_loop [6] (fun x => ∃ k : Nat, k ≤ ps.length ∧ x = .int .i64 k ∧ (PR ++ ps.take k).all P = true) (fun x => ps.length - (intOf x).toNat)
      case atStart => exact ⟨0, Nat.zero_le _, rfl, by rw [List.take_zero, List.append_nil]; exact Hall.out⟩
      case round =>
        obtain ⟨k, hk, rfl, hall⟩ := hrel
        have HallK := Lib.hid hall
        clear hall
        by_cases hkl : k < ps.length
        · have HM := Lib.hid (fun (h : P ps[k] = true) => all_more hkl HallK.out h)
          have HBk := Lib.hid (fun (h : sameS (bestP ps[k] (prs a)).1 (bestP ps[k] (prs b)).1 = false) => HB.out ps[k] (HMem.out _ (List.getElem_mem hkl)) h)
          obtain ⟨av4, cap4, e4, -, -, hy⟩ := id hsl
          cases e4
          obtain ⟨b4, o4, rfl, hB4, hy⟩ := hy (by rintro rfl; cases hkl)
          obtain ⟨d0, ds⟩ := hy k hkl
          rw [Nat.mul_one] at d0
          have hk0 : (0 : Int) ≤ (k : Int) := Int.natCast_nonneg _
          have hk1 : (k : Int) < (ps.length : Int) := by omega
          clear hy
          generalize ps[k] = q at *
          have HPq := Lib.hid (HP.out q)
          have HFa := Lib.hid (HFa.out q)
          have HFb := Lib.hid (HFb.out q)
          generalize (bestP q (prs a)).1 = x at *
          generalize (bestP q (prs b)).1 = y at *
          have hsm : sameS x y = (x.toList == y.toList) := rfl
          cases hE : (x.toList == y.toList) with
          | true =>
            have HE := Lib.hid (HM.out (HPq.out.trans (hsm.trans hE)))
            clear hsm
            go_wp2_with fail
            refine HFa.out.mono ?_
            rintro e w2 ⟨rfl, rfl⟩
            go_wp2_with fail
            refine HFb.out.mono ?_
            rintro e w2 ⟨rfl, rfl⟩
            go_wp2
            exact ⟨⟨k + 1, by omega, by go_num, HE.out⟩, by simp [intOf]; omega⟩
          | false =>
            have HE := Lib.hid (HBk.out (hsm.trans hE))
            clear hsm
            go_wp2_with fail
            refine HFa.out.mono ?_
            rintro e w2 ⟨rfl, rfl⟩
            go_wp2_with fail
            refine HFb.out.mono ?_
            rintro e w2 ⟨rfl, rfl⟩
            go_wp2
            go_ret
            exact ⟨ret_bool HE.out.symm, rfl⟩
        · have HE := Lib.hid (show (allPr (a.take (i + 1))).all P = true by
            have := HallK.out
            rwa [List.take_of_length_le (by omega : ps.length ≤ k), ← HPT.out] at this)
          go_wp2
          exact ⟨⟨i + 1, by omega, by go_num, HE.out⟩, by simp [intOf]; omega⟩
    · have HE := Lib.hid (show agrZ a b = true by
        have := Hall.out
        rw [List.take_of_length_le (by omega : a.length ≤ i)] at this
        exact HG.out.trans this)
      go_wp2
      go_ret
      exact ⟨ret_bool HE.out.symm, rfl⟩

theorem eqZ_agr (a b : List Zn) : eqZ a b = (decide (checkZ a = 0) && (decide (checkZ b = 0) && (agrZ a b && agrZ b a))) := rfl

set_option maxRecDepth 100000 in
set_option maxHeartbeats 3200000 in
theorem requal_calls (va vb : Value) (a b : List Zn) (w : World) (ha : ZnsAt w va a) (hb0 : ZnsAt w vb b) :
    Calls Try.prog 38 #[va, vb] w (BoolTo (eqZ a b) w) := by
  have HCa := Lib.hid (rzcheck_calls va a w ha)
  have HCb := Lib.hid (fun w1 (hb : Below w.heap.size w w1) => rzcheck_calls vb b w1 (hb0.below hb))
  have HAa := Lib.hid (fun w1 (hb : Below w.heap.size w w1) => ragrees_calls va vb a b w1 (ha.below hb) (hb0.below hb))
  have HAb := Lib.hid (fun w1 (hb : Below w.heap.size w w1) => ragrees_calls vb va b a w1 (hb0.below hb) (ha.below hb))
  have HE := Lib.hid (eqZ_agr a b)
  obtain ⟨aa, ca, rfl, -, -, -⟩ := ha
  obtain ⟨ab, cb, rfl, -, -, -⟩ := hb0
  generalize checkZ a = c at *
  generalize checkZ b = d at *
  generalize agrZ a b = r at *
  generalize agrZ b a = s at *
  by_cases hc : c = 0
  · subst hc
    by_cases hd : d = 0
    · subst hd
      have HE2 := Lib.hid (HE.out.trans (by simp) : eqZ a b = (r && s))
      go_enter Try.func38, Try.ntmps38
      go_wp2_with fail
      refine HCa.out.mono ?_
      rintro e w1 ⟨rfl, hb1⟩
      have HCb := Lib.hid (HCb.out w1 hb1)
      go_wp2_with fail
      refine HCb.out.mono ?_
      rintro e w2 ⟨rfl, hb2⟩
      have hb2 := hb1.trans (hb2.mono hb1.size)
      have HAa := Lib.hid (HAa.out w2 hb2)
      have HAb := Lib.hid (HAb.out w2 hb2)
      cases r with
      | true =>
        have HE3 := Lib.hid (HE2.out.trans (Bool.true_and _))
        go_wp2_with fail
        refine HAa.out.mono ?_
        rintro e w3 ⟨rfl, rfl⟩
        go_wp2_with fail
        refine HAb.out.mono ?_
        rintro e w3 ⟨rfl, rfl⟩
        go_wp2
        go_ret
        exact ⟨ret_bool HE3.out.symm, hb2⟩
      | false =>
        have HE3 := Lib.hid (HE2.out.trans (Bool.false_and _))
        go_wp2_with fail
        refine HAa.out.mono ?_
        rintro e w3 ⟨rfl, rfl⟩
        go_wp2
        go_ret
        exact ⟨ret_bool HE3.out.symm, hb2⟩
    · have hz : (d == 0) = false := beq_eq_false_iff_ne.2 hd
      have HE4 := Lib.hid (HE.out.trans (by rw [decide_eq_false hd]; simp) : eqZ a b = false)
      go_enter Try.func38, Try.ntmps38
      go_wp2_with fail
      refine HCa.out.mono ?_
      rintro e w1 ⟨rfl, hb1⟩
      have HCb := Lib.hid (HCb.out w1 hb1)
      go_wp2_with fail
      refine HCb.out.mono ?_
      rintro e w2 ⟨rfl, hb2⟩
      go_wp2
      go_ret
      exact ⟨ret_bool HE4.out.symm, hb1.trans (hb2.mono hb1.size)⟩
  · have hz : (c == 0) = false := beq_eq_false_iff_ne.2 hc
    have HE5 := Lib.hid (HE.out.trans (by rw [decide_eq_false hc]; simp) : eqZ a b = false)
    go_enter Try.func38, Try.ntmps38
    go_wp2_with fail
    refine HCa.out.mono ?_
    rintro e w1 ⟨rfl, hb1⟩
    go_wp2
    go_ret
    exact ⟨ret_bool HE5.out.symm, hb1⟩
end Go.Proofs.Ytcfmndhjmlbcoaa
