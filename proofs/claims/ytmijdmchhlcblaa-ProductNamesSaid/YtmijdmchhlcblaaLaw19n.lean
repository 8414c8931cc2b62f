/-
  The body of ProductNames.
-/
import Derived.Test.YtmijdmchhlcblaaLaw19c
namespace Go.Proofs.Ytmijdmchhlcblaa
open Go.RowKit

theorem rnames_mem_from (t : Int) (s : ByteArray) : ∀ (l : List Pd) (N : List ByteArray), s ∈ l.foldl (rnameStep t) N ↔ s ∈ N ∨ ∃ p ∈ l, p.nm = s ∧ p.fm ≤ t := by
  intro l
  induction l with
  | nil => intro N; simp
  | cons p r ih =>
    intro N
    rw [List.foldl_cons, ih]
    unfold rnameStep
    by_cases hc : p.fm ≤ t ∧ N.any (fun a => eqS a p.nm) = false
    · rw [if_pos hc]
      constructor
      · rintro (h | ⟨q, hq, h1⟩)
        · rcases List.mem_append.1 h with h | h
          · exact Or.inl h
          · exact Or.inr ⟨p, by simp, (List.mem_singleton.1 h).symm, hc.1⟩
        · exact Or.inr ⟨q, by simp [hq], h1⟩
      · rintro (h | ⟨q, hq, h1⟩)
        · exact Or.inl (List.mem_append_left _ h)
        · rcases List.mem_cons.1 hq with rfl | hq
          · exact Or.inl (List.mem_append_right _ (by simp [h1.1]))
          · exact Or.inr ⟨q, hq, h1⟩
    · rw [if_neg hc]
      constructor
      · rintro (h | ⟨q, hq, h1⟩)
        · exact Or.inl h
        · exact Or.inr ⟨q, by simp [hq], h1⟩
      · rintro (h | ⟨q, hq, h1⟩)
        · exact Or.inl h
        · rcases List.mem_cons.1 hq with rfl | hq
          · left
            have ha : N.any (fun a => eqS a q.nm) = true := by
              cases e : N.any (fun a => eqS a q.nm) with
              | true => rfl
              | false => exact absurd ⟨h1.2, e⟩ hc
            obtain ⟨a, ha, he⟩ := List.any_eq_true.1 ha
            rw [← h1.1, ← (eqS_iff _ _).1 he]
            exact ha
          · exact Or.inr ⟨q, hq, h1⟩

theorem rnames_mem (t : Int) (s : ByteArray) (l : List Pd) : s ∈ rnamesL l t ↔ ∃ p ∈ l, p.nm = s ∧ p.fm ≤ t := by
  unfold rnamesL; rw [rnames_mem_from]; simp

theorem at_some_iff (t : Int) (s : ByteArray) (l : List Pd) : (atL l s t).isSome = true ↔ ∃ p ∈ l, p.nm = s ∧ p.fm ≤ t := by
  unfold atL
  rw [List.getLast?_isSome]
  constructor
  · intro h
    obtain ⟨p, r, e⟩ : ∃ p r, l.filter (keepAt s t) = p :: r := by
      cases e : l.filter (keepAt s t) with
      | nil => exact absurd e h
      | cons p r => exact ⟨p, r, rfl⟩
    have hm : p ∈ l.filter (keepAt s t) := by rw [e]; simp
    obtain ⟨h1, h2⟩ := List.mem_filter.1 hm
    unfold keepAt at h2
    simp only [Bool.and_eq_true, decide_eq_true_eq] at h2
    exact ⟨p, h1, (eqS_iff _ _).1 h2.1, h2.2⟩
  · rintro ⟨p, h1, h2, h3⟩
    have hm : p ∈ l.filter (keepAt s t) := List.mem_filter.2 ⟨h1, by unfold keepAt; simp [(eqS_iff _ _).2 h2, h3]⟩
    simp only [ne_eq]
    intro e
    rw [e] at hm; cases hm

theorem any_mem (N : List ByteArray) (s : ByteArray) : N.any (fun a => eqS a s) = true ↔ s ∈ N := by
  rw [List.any_eq_true]
  constructor
  · rintro ⟨a, ha, he⟩; rw [← (eqS_iff _ _).1 he]; exact ha
  · intro h; exact ⟨s, h, eqS_self s⟩

theorem names_has {l : List Pd} (h : l.Pairwise Ahead) (t : Int) (s : ByteArray) : (atL l s t).isSome = (namesL l t).any (fun a => eqS a s) := by
  rw [(names_rnames h t).1, Bool.eq_iff_iff, at_some_iff, any_mem, rnames_mem]
theorem names_at {l : List Pd} (h : l.Pairwise Ahead) (t : Int) (i : Nat) (hi : i < (namesL l t).length) : (atL l (namesL l t)[i] t).isSome = true := by
  rw [names_has h t]; exact (any_mem _ _).2 (List.getElem_mem hi)
theorem names_lt {l : List Pd} (h : l.Pairwise Ahead) (t : Int) (i : Nat) (hi : i + 1 < (namesL l t).length) : ltS ((namesL l t)[i]'(by omega)) (namesL l t)[i + 1] = true := by
  have hp := (names_rnames h t).2
  rw [← (names_rnames h t).1] at hp
  exact List.pairwise_iff_getElem.1 hp i (i + 1) (by omega) hi (by omega)

theorem names_facts {l : List Pd} (h : l.Pairwise Ahead) (t : Int) : ∃ N, namesL l t = N ∧ (∀ i (hi : i < N.length), (atL l N[i] t).isSome = true) ∧ (∀ i (hi : i + 1 < N.length), ltS (N[i]'(by omega)) N[i + 1] = true) ∧ ∀ s, (atL l s t).isSome = N.any (fun a => eqS a s) :=
  ⟨_, rfl, fun i hi => names_at h t i hi, fun i hi => names_lt h t i hi, fun s => names_has h t s⟩

set_option maxRecDepth 100000 in
set_option maxHeartbeats 3200000 in
theorem names19_law (hA : Awake19) (v : Value) (l : List Pd) (t : Int) (w : World) (h : PdsAt w v l) :
    Calls Try.prog 8 #[v, .int .i64 t] w fun e w' => e = .returned (.bool true) ∧ Below w.heap.size w w' := by
  have Hat := Lib.hid h
  have HA := Lib.hid hA
  have Hf := Lib.hid (few_calls v l w h)
  have Hc := Lib.hid (asc_calls v l w h)
  have HL := Lib.hid (@fewP_of l)
  have HP := Lib.hid (@ascP_of l)
  clear hA
  cases hx : fewL l with
  | false =>
    rw [hx] at Hf
    clear Hc
    go_enter Try.func8, Try.ntmps8
    go_wp2_with fail
    refine Hf.out.mono ?_
    rintro e w0 ⟨rfl, hw1⟩
    subst w0
    go_wp2_with fail
    refine (HA.out _).mono ?_
    rintro e w2 ⟨rfl, hb⟩
    go_wp2
    go_ret
    exact ⟨rfl, hb⟩
  | true =>
    have HF := Lib.hid (HL.out hx)
    rw [hx] at Hf
    cases hy : ascB l with
    | false =>
      rw [hy] at Hc
      go_enter Try.func8, Try.ntmps8
      go_wp2_with fail
      refine Hf.out.mono ?_
      rintro e w0 ⟨rfl, hw1⟩
      subst w0
      go_wp2_with fail
      refine Hc.out.mono ?_
      rintro e w1 ⟨rfl, hb0⟩
      go_wp2_with fail
      refine (HA.out _).mono ?_
      rintro e w2 ⟨rfl, hb⟩
      have hb2 := hb0.trans (hb.mono hb0.size)
      go_wp2
      go_ret
      exact ⟨rfl, hb2⟩
    | true =>
      have HO := HP.out hy
      obtain ⟨N, hN, h1, h2, h3⟩ := names_facts HO.order t
      have Hnat := Lib.hid h1
      have Hnlt := Lib.hid h2
      have Hnhas := Lib.hid h3
      rw [hy] at Hc
      clear hx hy HO h1 h2 h3
      have Hatu := Lib.hid (fun s x w1 (hb : Below w.heap.size w w1) => at_u v l s x w1 (Hat.out.below hb) HF.out)
      have Hnames := Lib.hid (fun w1 (hb : Below w.heap.size w w1) => names_calls v l t w1 (Hat.out.below hb) HF.out.1)
      rw [hN] at Hnames
      clear hN
      obtain ⟨av, cap, rfl, hlc, hcap, -⟩ := h
      have hcap := hcap.1
      unfold maxLen at hcap
      go_enter Try.func8, Try.ntmps8
      go_wp2_with fail
      refine Hf.out.mono ?_
      rintro e w0 ⟨rfl, hw1⟩
      subst w0
      go_wp2_with fail
      refine Hc.out.mono ?_
      rintro e w1 ⟨rfl, hb1⟩
      go_wp2_with fail
      refine (Hnames.out w1 hb1).mono ?_
      rintro e w2 ⟨v2, rfl, hn, hb⟩
      have hb2 := hb1.trans (hb.mono hb1.size)
      have HN := Lib.hid (show StrsAt w2 v2 N from SliceOff.at hn fun _ _ _ hx => hx)
      obtain ⟨av2, cap2, rfl, hlc2, hcap2, -⟩ := hn
      have hcap2 := hcap2.1
      unfold maxLen at hcap2
      clear hb hb1 Hf Hc
      go_wp2_with fail
      go_loopw [6] (fun i wr => ∃ k : Nat, k ≤ N.length ∧ i = .int .i64 k ∧ Below w2.heap.size w2 wr) (fun i _ => N.length - (intOf i).toNat)
      case atStart => exact ⟨0, Nat.zero_le _, rfl, Below.refl _ _⟩
      case round =>
        obtain ⟨k, hk, rfl, hbr⟩ := hrel
        have hbw := hb2.trans (hbr.mono hb2.size)
        by_cases hlt : k < N.length
        · obtain ⟨av', cap', e, -, -, hx⟩ := HN.out.below hbr
          cases e
          obtain ⟨g, o, rfl, hg, hx⟩ := hx (by rintro rfl; cases hlt)
          obtain ⟨c0, -⟩ := hx k hlt
          rw [Nat.mul_one] at c0
          have ha := Hnat.out k hlt
          have Hk := Lib.hid (Hatu.out N[k] t)
          unfold AtU at Hk
          rw [ha] at Hk
          have hk0 : (0 : Int) ≤ (k : Int) := Int.natCast_nonneg _
          have hk1 : (k : Int) < (N.length : Int) := by omega
          clear ha
          match k, hk, hlt, hx, c0, Hk, hk0, hk1 with
          | 0, hk, hlt, hx, c0, Hk, hk0, hk1 =>
            simp only [Nat.add_zero] at c0
            clear hx
            generalize N[0] = s at *
            go_wp2_with fail
            refine (Hk.out wr hbw).mono ?_
            rintro e w3 ⟨nm1, fm1, fe1, ct1, pr1, a1, n1, c1, rfl, -, hb3⟩
            have hb4 := hbr.trans (hb3.mono hbr.size)
            have hb5 := hb4.trans ((Below.alloc (Below.refl _ _) (Nat.le_refl _) _ : Below w3.heap.size w3 (w3.alloc (Obj.cells #[.string nm1, .int .i64 fm1, .int .i64 fe1, .string ct1, .bool pr1, .slice a1 n1 c1] 33))).mono hb4.size)
            clear c0 hb3 hb4
            go_wp2_with fail
            go_big_quiet (fail)
            go_wp2
            exact ⟨⟨1, by omega, rfl, below_drewN hb5 _⟩, by simp [intOf]; omega⟩
          | k + 1, hk, hlt, hx, c0, Hk, hk0, hk1 =>
            obtain ⟨d0, -⟩ := hx k (by omega)
            rw [Nat.mul_one] at d0
            have hA2 := Hnlt.out k hlt
            clear hx
            generalize N[k + 1] = s at *
            generalize N[k] = z at *
            have hA3 : Op.bytesLess z.toList s.toList = true := hA2
            clear hA2
            go_wp2_with fail
            refine (Hk.out wr hbw).mono ?_
            rintro e w3 ⟨nm1, fm1, fe1, ct1, pr1, a1, n1, c1, rfl, -, hb3⟩
            have e0 := (hb3.cell (p := ⟨g, o + (k + 1), none⟩) hg).trans c0
            have e1 := (hb3.cell (p := ⟨g, o + k, none⟩) hg).trans d0
            have hg2 : g < w3.heap.size := by have := hb3.size; omega
            have hg3 : ¬ g = w3.heap.size := by omega
            have hg4 : ¬ w3.heap.size = g := by omega
            have hb4 := hbr.trans (hb3.mono hbr.size)
            have hb5 := hb4.trans ((Below.alloc (Below.refl _ _) (Nat.le_refl _) _ : Below w3.heap.size w3 (w3.alloc (Obj.cells #[.string nm1, .int .i64 fm1, .int .i64 fe1, .string ct1, .bool pr1, .slice a1 n1 c1] 33))).mono hb4.size)
            have hj5 : IntKind.i64.wrap ((k : Int) + 1 - 1) = (k : Int) := by rw [Int.add_sub_cancel]; exact IntWalk.i64_in _ (by omega)
            have hj6 : ((k : Int) + 1).toNat = k + 1 := by omega
            have hj7 : IntKind.i64.wrap (k : Int) = (k : Int) := IntWalk.i64_in _ (by omega)
            have hj8 : (0 : Int) < (k : Int) + 1 := by omega
            have J := Lib.hid (And.intro hj5 (And.intro hj6 (And.intro hj7 hj8)))
            clear c0 d0 hb3 hb4 hj5 hj6 hj7 hj8
            go_wp2_with fail
            obtain ⟨hj5, hj6, hj7, hj8⟩ := J.out
            go_big_quiet (fail)
            clear hj5 hj6 hj7 hj8
            go_wp2
            exact ⟨⟨k + 1 + 1, by omega, by go_num, below_drewN hb5 _⟩, by simp [intOf]; omega⟩
        · obtain ⟨wo, rfl⟩ : ∃ wo : World, wo = wr := ⟨_, rfl⟩
          go_wp2_with fail
          go_loopw [9] (fun i wz => ∃ j : Nat, j ≤ l.length ∧ i = .int .i64 j ∧ Below wo.heap.size wo wz) (fun i _ => l.length - (intOf i).toNat)
          case atStart => exact ⟨0, Nat.zero_le _, rfl, Below.refl _ _⟩
          case round =>
            obtain ⟨j, hj, rfl, hbz⟩ := hrel
            have hb3 := hbw.trans (hbz.mono hbw.size)
            by_cases hlj : j < l.length
            · obtain ⟨av', cap', e, -, -, hx⟩ := Hat.out.below hb3
              cases e
              obtain ⟨g, o, rfl, hg, hx⟩ := hx (by rintro rfl; cases hlj)
              obtain ⟨⟨c0, -⟩, -⟩ := hx j hlj
              have hhas := Hnhas.out l[j].nm
              generalize l[j].nm = s at *
              have Hk := Lib.hid (Hatu.out s t)
              unfold AtU at Hk
              rw [hhas] at Hk
              generalize hB : (N.any fun a => eqS a s) = bb at *
              have HNz := Lib.hid (HN.out.below (hbr.trans (hbz.mono hbr.size)))
              have hj0 : (0 : Int) ≤ (j : Int) := Int.natCast_nonneg _
              have hj1 : (j : Int) < (l.length : Int) := by omega
              have HB := Lib.hid hB
              have hne : (bb != bb) = false := bne_self_eq_false _
              clear hx hhas hB
              go_wp2_with fail
              refine (Hk.out wr hb3).mono ?_
              rintro e w4 ⟨nm1, fm1, fe1, ct1, pr1, a1, n1, c1, rfl, -, hb4⟩
              have e0 := (hb4.cell (p := ⟨g, o + j * 6, none⟩) hg).trans c0
              have hg2 : g < w4.heap.size := by have := hb4.size; omega
              have hg3 : ¬ g = w4.heap.size := by omega
              have hg4 : ¬ w4.heap.size = g := by omega
              have hbx : Below w4.heap.size w4 (w4.alloc (Obj.cells #[.string nm1, .int .i64 fm1, .int .i64 fe1, .string ct1, .bool pr1, .slice a1 n1 c1] 33)) := Below.alloc (Below.refl _ _) (Nat.le_refl _) _
              have hb5 := hb4.trans (hbx.mono hb4.size)
              have hb6 := hbz.trans (hb5.mono hbz.size)
              have Hh := Lib.hid (has_calls _ N s _ (HNz.out.below hb5))
              rw [HB.out] at Hh
              clear c0 hb4 hb5 hbx
              go_wp2_with fail
              refine Hh.out.mono ?_
              rintro e w5 ⟨rfl, hw5⟩
              subst w5
              go_wp2
              exact ⟨⟨j + 1, by omega, by go_num, hb6⟩, by simp [intOf]; omega⟩
            · go_wp2_with fail
              refine (HA.out _).mono ?_
              rintro e w9 ⟨rfl, hb9⟩
              have hb10 := hb3.trans (hb9.mono hb3.size)
              go_wp2
              go_ret
              exact ⟨rfl, hb10⟩
end Go.Proofs.Ytmijdmchhlcblaa
