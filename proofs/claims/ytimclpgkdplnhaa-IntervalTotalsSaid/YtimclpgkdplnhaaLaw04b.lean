/-
  The law of the totals: it returns true.
-/
import Derived.Test.YtimclpgkdplnhaaAwake04
import Derived.Test.YtimclpgkdplnhaaR04e
import Derived.Test.YtimclpgkdplnhaaTot04
import Derived.Laws.AppendOwnNone
namespace Go.Proofs.Ytimclpgkdplnhaa
open Go.RowKit

/-- A list of periods appended to a row of the call's own. -/
theorem append_pers {w : World} {ops : Array Oper} {rest : List Oper} {o : Oper} {a : Act} {Q : Exit → Act → World → Prop} (hgd : o.guard = none) (s x : Operand)
    (ho : o.op = .call { callee := .builtin .append, args := #[s, x], argTypes := #[24, 24] })
    (base : Nat) (hbase : base ≤ w.heap.size) (v vx : Value) (L X : List (Int × Int)) (hs : a.eval s = v) (hx : a.eval x = vx) (hown : w.ownsRow base 23 2 v L.length (L.flatMap perCells)) (hX : PersAt w vx X) (hlen : L.length + X.length ≤ 10000)
    (h : ∀ v' w', w'.ownsRow base 23 2 v' (L ++ X).length ((L ++ X).flatMap perCells) → Below base w w' → wpList Try.prog ops Q rest (a.put o.dst v') w') : wpList Try.prog ops Q (o :: rest) a w := by
  obtain ⟨i0, hi, hz0, hz1, hz2⟩ := info_parts Try.perInfo
  obtain ⟨av, cap, rfl, hlc, hm, hX⟩ := hX
  cases av with
  | none =>
    obtain rfl := hm.2 rfl
    obtain rfl : X = [] := by
      cases X with
      | nil => rfl
      | cons p r => obtain ⟨b, o, e, -⟩ := hX (by simp); cases e
    refine wpList_append_own_none hgd s x _ ho base 23 i0 2 Try.underlying24 hi v L.length _ hs hown hx (h v w ?_ (Below.refl _ _))
    rw [List.append_nil]
    exact hown
  | some ad =>
    refine wpList_append_own _ hgd s x _ ho base 23 i0 _ 2 16 Try.underlying24 hi hz0 hz1 hz2 rfl (by decide) v L.length _ hs hown ad X.length cap (X.flatMap perCells) hx (flat_length perCells 2 (fun _ => rfl) X) ?_ ?_ (by unfold maxLen; omega) (by omega) hbase ?_
    · intro j u hj
      have hjl : j < X.length * 2 := by
        rw [← flat_length perCells 2 (fun _ => rfl) X]
        exact (List.getElem?_eq_some_iff.1 hj).1
      have hi2 : j / 2 < X.length := by omega
      obtain ⟨b, o, e, -, hx2⟩ := hX (by rintro rfl; cases hi2)
      cases e
      obtain ⟨c0, c1⟩ := hx2 (j / 2) hi2
      have hg := flat_get perCells 2 (fun _ => rfl) X (j / 2) (j % 2) hi2 (by omega)
      rw [show j / 2 * 2 + j % 2 = j by omega, hj] at hg
      rw [show (⟨b, o, none⟩ : Addr).add j = ⟨b, o + j, none⟩ by unfold Addr.add; split <;> simp_all]
      rcases (show j % 2 = 0 ∨ j % 2 = 1 by omega) with hm2 | hm2
      · rw [hm2] at hg
        rw [show o + j = o + j / 2 * 2 by omega, c0, hg]; rfl
      · rw [hm2] at hg
        rw [show o + j = o + j / 2 * 2 + 1 by omega, c1, hg]; rfl
    · intro u hu
      obtain ⟨p, -, hp⟩ := List.mem_flatMap.1 hu
      simp [perCells] at hp
      rcases hp with rfl | rfl <;> rfl
    · intro v' w' h1 h2 _
      refine h v' w' ?_ ((Below.refl base w).grown h2 hbase (fun g hg => (ownsRow_block hown g hg).1))
      rw [List.length_append, List.flatMap_append]
      exact h1

set_option maxRecDepth 100000 in
set_option maxHeartbeats 6400000 in
theorem totals_law (va vb : Value) (a b : List (Int × Int)) (w : World) (ha : PersAt w va a) (hb : PersAt w vb b) :
    Calls Try.prog 9 #[va, vb] w fun e w' => e = .returned (.bool true) ∧ Below w.heap.size w w' := by
  have ha' := ha
  have hb' := hb
  obtain ⟨aa, ca, rfl, -⟩ := ha
  obtain ⟨ab, cb, rfl, -⟩ := hb
  by_cases h1 : a.length ≤ 20
  · have k1 : decide ((20 : Int) < (a.length : Int)) = false := decide_eq_false (by omega)
    have k2 : decide (20 < a.length) = false := decide_eq_false (by omega)
    by_cases h2 : b.length ≤ 20
    · have k3 : decide ((20 : Int) < (b.length : Int)) = false := decide_eq_false (by omega)
      have k4 : decide (20 < b.length) = false := decide_eq_false (by omega)
      have lm := choose_len a b false false
      have ln := choose_len a b false true
      have lc := choose_len a [] true false
      have ld := choose_len b [] true false
      rw [List.length_nil] at lc ld
      have hlm : (chooseL a b false false).length ≤ 80 := by omega
      have hln : (chooseL a b false true).length ≤ 80 := by omega
      have hlc : (chooseL a [] true false).length ≤ 40 := by omega
      have hld : (chooseL b [] true false).length ≤ 40 := by omega
      clear lm ln lc ld
      have HA := Lib.hid (fun w1 (hb : Below w.heap.size w w1) => ha'.below hb)
      have HB := Lib.hid (fun w1 (hb : Below w.heap.size w w1) => hb'.below hb)
      have T1 := total_parts a b
      have T2 := Lib.hid (parts_apart a b)
      have T3 := Lib.hid (parts_again a b)
      have T4 := Lib.hid (sets_minus a b)
      have T5 := Lib.hid (sets_common a b)
      have E1 := Lib.hid (fun w1 (hb : Below w.heap.size w w1) => minus_calls _ _ a b w1 (ha'.below hb) (hb'.below hb) (by omega))
      have E2 := Lib.hid (fun w1 (hb : Below w.heap.size w w1) => pcommon_calls _ _ a b w1 (ha'.below hb) (hb'.below hb) (by omega))
      have E3 := Lib.hid (fun w1 (hb : Below w.heap.size w w1) => total_calls _ a w1 (ha'.below hb) (by omega))
      have E4 := Lib.hid (fun w1 (hb : Below w.heap.size w w1) => cover_calls _ a w1 (ha'.below hb) (by omega))
      have E5 := Lib.hid (fun w1 (hb : Below w.heap.size w w1) => cover_calls _ b w1 (hb'.below hb) (by omega))
      have bm := totL_bound _ (choose_in (chooseL a b false false) [] true false)
      have bn := totL_bound _ (choose_in (chooseL a b false true) [] true false)
      have lm := choose_len (chooseL a b false false) [] true false
      have ln := choose_len (chooseL a b false true) [] true false
      rw [List.length_nil] at lm ln
      have bm : 0 ≤ totL (chooseL (chooseL a b false false) [] true false) ∧ totL (chooseL (chooseL a b false false) [] true false) ≤ 160 * 12622780800 := by omega
      have bn : 0 ≤ totL (chooseL (chooseL a b false true) [] true false) ∧ totL (chooseL (chooseL a b false true) [] true false) ≤ 160 * 12622780800 := by omega
      clear lm ln
      have F1 := Lib.hid (fun w1 v (h : PersAt w1 v (chooseL a b false false)) => total_calls v _ w1 h (by omega))
      have F2 := Lib.hid (fun w1 v (h : PersAt w1 v (chooseL a b false true)) => total_calls v _ w1 h (by omega))
      rw [T1] at E3
      clear T1
      generalize totL (chooseL (chooseL a b false false) [] true false) = tm at *
      generalize totL (chooseL (chooseL a b false true) [] true false) = tn at *
      have hwt : IntKind.i64.wrap (tm + tn) = tm + tn := IntWalk.i64_in _ (by omega)
      generalize chooseL a [] true false = C at *
      generalize chooseL b [] true false = D at *
      generalize chooseL a b false false = M at *
      generalize chooseL a b false true = N at *
      go_enter Try.func9, Try.ntmps9
      go_wp2_with fail
      refine (E1.out w (Below.refl _ _)).mono ?_
      rintro e w1 ⟨v1, rfl, hp1, hbx⟩
      have hb1 := hbx
      have st1 := hbx.size
      have bl1 := hbx
      have PM := Lib.hid hp1
      obtain ⟨a1, c1, rfl, -⟩ := hp1
      clear hbx
      go_wp2_with fail
      refine (E2.out w1 hb1).mono ?_
      rintro e w2 ⟨v2, rfl, hp2, hbx⟩
      have hb2 := hb1.trans (hbx.mono hb1.size)
      have st2 := hbx.size
      have bl2 := hbx
      have PN := Lib.hid hp2
      obtain ⟨a2, c2, rfl, -⟩ := hp2
      clear hbx
      go_wp2_with fail
      refine (E3.out w2 hb2).mono ?_
      rintro e w3 ⟨rfl, hbx⟩
      have hb3 := hb2.trans (hbx.mono hb2.size)
      have bl3 := hbx
      clear hbx
      have g23 := bl2.trans (bl3.mono bl2.size)
      go_wp2_with fail
      refine (F1.out w3 _ (PM.out.below g23)).mono ?_
      rintro e w4 ⟨rfl, hbx⟩
      have hb4 := hb3.trans (hbx.mono hb3.size)
      have bl4 := hbx
      clear hbx
      have n34 := bl3.trans (bl4.mono bl3.size)
      go_wp2_with fail
      refine (F2.out w4 _ (PN.out.below n34)).mono ?_
      rintro e w5 ⟨rfl, hbx⟩
      have hb5 := hb4.trans (hbx.mono hb4.size)
      have bl5 := hbx
      clear hbx
      have n35 := n34.trans (bl5.mono n34.size)
      have m35 := bl2.trans (n35.mono bl2.size)
      have G1 := Lib.hid (pcommon_calls _ _ M N w5 (PM.out.below m35) (PN.out.below n35) (by omega))
      rw [T2.out] at G1
      go_wp2_with fail
      refine (G1.out).mono ?_
      rintro e w6 ⟨v6, rfl, hp6, hbx⟩
      have hb6 := hb5.trans (hbx.mono hb5.size)
      have st6 := hbx.size
      have bl6 := hbx
      have PZ := Lib.hid hp6
      obtain ⟨a6, c6, rfl, -⟩ := hp6
      clear hbx
      have n36 := n35.trans (bl6.mono n35.size)
      have m36 := m35.trans (bl6.mono m35.size)
      go_wp2_with (first
        | (at_builtin; refine append_pers rfl _ _ rfl w6.heap.size (Nat.le_refl _) _ _ [] N rfl rfl ⟨rfl, Or.inl ⟨rfl, rfl⟩⟩ (PN.out.below n36) (by simp; omega) ?_))
      intro v7 w7 own7 bl7
      try rw [List.nil_append] at own7
      have n37 := n36.trans (bl7.mono n36.size)
      have m37 := m36.trans (bl7.mono m36.size)
      have hb7 := hb6.trans (bl7.mono hb6.size)
      have O7 := Lib.hid own7
      have st7 := bl7.size
      obtain ⟨a7, c7, rfl, -, -⟩ := own_shape own7
      clear own7
      go_wp2_with (first
        | (at_builtin; refine append_pers rfl _ _ rfl w6.heap.size st7 _ _ N M rfl rfl O7.out (PM.out.below m37) (by omega) ?_))
      intro v8 w8 own8 bl8
      have hb8 := hb7.trans (bl8.mono (Nat.le_trans hb6.size (Nat.le_refl _)))
      have b68 := bl7.trans bl8
      have n38 := n36.trans (b68.mono n36.size)
      have m38 := m36.trans (b68.mono m36.size)
      have PA := Lib.hid (show PersAt w8 v8 (N ++ M) from PersAt.own (by rw [List.length_append, List.flatMap_append]; exact own8))
      obtain ⟨a8, c8, rfl, -, -⟩ := own_shape own8
      clear own8
      go_wp2_with fail
      refine (E4.out w8 hb8).mono ?_
      rintro e w9 ⟨v9, rfl, hp9, hbx⟩
      have hb9 := hb8.trans (hbx.mono hb8.size)
      have st9 := hbx.size
      have bl9 := hbx
      have PC := Lib.hid hp9
      obtain ⟨a9, c9, rfl, -⟩ := hp9
      clear hbx
      go_wp2_with fail
      refine (E5.out w9 hb9).mono ?_
      rintro e w10 ⟨v10, rfl, hp10, hbx⟩
      have hb10 := hb9.trans (hbx.mono hb9.size)
      have st10 := hbx.size
      have bl10 := hbx
      have PD := Lib.hid hp10
      obtain ⟨a10, c10, rfl, -⟩ := hp10
      clear hbx
      have x10 := bl9.trans (bl10.mono bl9.size)
      have G2 := Lib.hid (cover_calls _ (N ++ M) w10 (PA.out.below x10) (by rw [List.length_append]; omega))
      rw [T3.out] at G2
      go_wp2_with fail
      refine (G2.out).mono ?_
      rintro e w11 ⟨v11, rfl, hp11, hbx⟩
      have hb11 := hb10.trans (hbx.mono hb10.size)
      have st11 := hbx.size
      have bl11 := hbx
      have PQ := Lib.hid hp11
      obtain ⟨a11, c11, rfl, -⟩ := hp11
      clear hbx
      have c11 := bl10.trans (bl11.mono bl10.size)
      have G3 := Lib.hid (rsame_calls _ _ C C w11 PQ.out (PC.out.below c11))
      rw [decide_eq_true rfl] at G3
      go_wp2_with fail
      refine (G3.out).mono ?_
      rintro e w12 ⟨rfl, hbx⟩
      have hb12 := hb11.trans (hbx.mono hb11.size)
      have bl12 := hbx
      clear hbx
      have c12 := c11.trans (bl12.mono c11.size)
      have d12 := bl11.trans (bl12.mono bl11.size)
      have G4 := Lib.hid (minus_calls _ _ C D w12 (PC.out.below c12) (PD.out.below d12) (by omega))
      rw [T4.out] at G4
      go_wp2_with fail
      refine (G4.out).mono ?_
      rintro e w13 ⟨v13, rfl, hp13, hbx⟩
      have hb13 := hb12.trans (hbx.mono hb12.size)
      have st13 := hbx.size
      have bl13 := hbx
      have PR := Lib.hid hp13
      obtain ⟨a13, c13, rfl, -⟩ := hp13
      clear hbx
      have c13 := c12.trans (bl13.mono c12.size)
      have d13 := d12.trans (bl13.mono d12.size)
      have x13 := x10.trans ((d13).mono x10.size)
      have m13 := m38.trans (x13.mono m38.size)
      have n13 := n38.trans (x13.mono n38.size)
      have G5 := Lib.hid (rsame_calls _ _ M M w13 PR.out (PM.out.below m13))
      rw [decide_eq_true rfl] at G5
      go_wp2_with fail
      refine (G5.out).mono ?_
      rintro e w14 ⟨rfl, hbx⟩
      have hb14 := hb13.trans (hbx.mono hb13.size)
      have bl14 := hbx
      clear hbx
      have c14 := c13.trans (bl14.mono c13.size)
      have d14 := d13.trans (bl14.mono d13.size)
      have n14 := n13.trans (bl14.mono n13.size)
      have G6 := Lib.hid (pcommon_calls _ _ D C w14 (PD.out.below d14) (PC.out.below c14) (by omega))
      rw [T5.out] at G6
      go_wp2_with fail
      refine (G6.out).mono ?_
      rintro e w15 ⟨v15, rfl, hp15, hbx⟩
      have hb15 := hb14.trans (hbx.mono hb14.size)
      have st15 := hbx.size
      have bl15 := hbx
      have PS := Lib.hid hp15
      obtain ⟨a15, c15, rfl, -⟩ := hp15
      clear hbx
      have n15 := n14.trans (bl15.mono n14.size)
      have G7 := Lib.hid (rsame_calls _ _ N N w15 PS.out (PN.out.below n15))
      rw [decide_eq_true rfl] at G7
      go_wp2_with fail
      refine (G7.out).mono ?_
      rintro e w16 ⟨rfl, hbx⟩
      have hb16 := hb15.trans (hbx.mono hb15.size)
      have bl16 := hbx
      clear hbx
      go_wp2_with fail
      refine (awake_calls w16).mono ?_
      rintro e w17 ⟨rfl, hbx⟩
      have hb17 := hb16.trans (hbx.mono hb16.size)
      have bl17 := hbx
      clear hbx
      go_wp2
      go_ret
      exact ⟨rfl, hb17⟩
    · have k3 : decide ((20 : Int) < (b.length : Int)) = true := decide_eq_true (by omega)
      have k4 : decide (20 < b.length) = true := decide_eq_true (by omega)
      go_enter Try.func9, Try.ntmps9
      go_wp2_with fail
      refine (awake_calls w).mono ?_
      rintro e w7 ⟨rfl, hbx⟩
      go_wp2
      go_ret
      exact ⟨rfl, hbx⟩
  · have k1 : decide ((20 : Int) < (a.length : Int)) = true := decide_eq_true (by omega)
    have k2 : decide (20 < a.length) = true := decide_eq_true (by omega)
    go_enter Try.func9, Try.ntmps9
    go_wp2_with fail
    refine (awake_calls w).mono ?_
    rintro e w7 ⟨rfl, hbx⟩
    go_wp2
    go_ret
    exact ⟨rfl, hbx⟩
end Go.Proofs.Ytimclpgkdplnhaa
