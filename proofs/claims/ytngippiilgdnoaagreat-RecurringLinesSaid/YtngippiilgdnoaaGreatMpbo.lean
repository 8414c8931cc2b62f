/-
  The walks of the reference's joined and Active.
-/
import Derived.Test.YtngippiilgdnoaaGreatMpbn
import Derived.Test.YtngippiilgdnoaaGreatMpba
import Derived.Test.YtngippiilgdnoaaGreatMpbj
namespace Go.Proofs.YtngippiilgdnoaaGreat
open Go.RowKit

/-- A list of periods in a row of the call's own. -/
def PersIn (w : World) (N : List (Int × Int)) (e : Ending) (w' : World) : Prop := ∃ (a : Option Addr) (c : Nat), e = .returned (.slice a N.length c) ∧ w'.ownsRow w.heap.size 25 2 (.slice a N.length c) N.length (N.flatMap perCells) ∧ Below w.heap.size w w'
theorem PersIn.to {w w' : World} {N : List (Int × Int)} {e : Ending} (h : PersIn w N e w') : PersTo w N e w' := by
  obtain ⟨a, c, rfl, h1, h2⟩ := h
  exact ⟨_, rfl, PersAt.own h1, h2⟩

set_option maxRecDepth 100000 in
set_option maxHeartbeats 6400000 in
theorem rjoined_calls (v : Value) (L : List (Int × Int)) (w : World) (h : RecAt perCells 2 w v L) (hl : L.length ≤ 10000) :
    Calls Tryz.prog 111 #[v] w (PersIn w (joinP L)) := by
  have HA := Lib.hid h
  obtain ⟨av, cap, rfl, hcl, hcm⟩ := rec_shape h
  unfold maxLen at hcm
  clear h
  go_enter Tryz.func111, Tryz.ntmps111
  go_wp2_with fail
  go_loopw [3, 4] (fun vo i wr => ∃ (k : Nat) (O : List (Int × Int)), k ≤ L.length ∧ i = .int .i64 k ∧ RowKit.Hid (O = joinP (L.take k)) ∧ wr.ownsRow w.heap.size 25 2 vo O.length (O.flatMap perCells) ∧ Below w.heap.size w wr) (fun _ i _ => L.length - (intOf i).toNat)
  case atStart => exact ⟨0, [], Nat.zero_le _, rfl, Lib.hid rfl, World.ownsRow_nil _ _ _ _, Below.refl _ _⟩
  case round =>
    obtain ⟨wo, rfl⟩ : ∃ wo : World, wo = wr := ⟨_, rfl⟩
    obtain ⟨k, O, hk, rfl, HP, hown, hb⟩ := hrel
    obtain ⟨a, cp, rfl, hc1, hc2⟩ := own_shape hown
    unfold maxLen at hc2
    have Hown := Lib.hid hown
    have Hb := Lib.hid hb
    have hOl : O.length ≤ k := by rw [HP.out]; exact joinP_len L k hk
    by_cases hlt : k < L.length
    · have hk1 : (k : Int) < (L.length : Int) := by omega
      have hk0 : (0 : Int) ≤ (k : Int) := Int.natCast_nonneg _
      have HTk := Lib.hid (joinP_take L k hlt)
      obtain ⟨a2, c2, e2, -, -, hx⟩ := HA.out
      cases e2
      obtain ⟨bb, o, rfl, hB, hx⟩ := hx (by rintro rfl; cases hlt)
      have HXc := Lib.hid (show ∀ Y, Below w.heap.size w Y → Y.cell? ⟨bb, o + k * 2, none⟩ = some (.int .i64 (L[k]).1) ∧ Y.cell? ⟨bb, o + k * 2 + 1, none⟩ = some (.int .i64 (L[k]).2) from fun Y hY => ⟨(hY.cell (p := ⟨bb, _, none⟩) hB).trans (hx k hlt 0 (by decide)), (hY.cell (p := ⟨bb, _, none⟩) hB).trans (hx k hlt 1 (by decide))⟩)
      clear hx hB hown hb
      generalize L[k] = x at *
      obtain ⟨x1, x2⟩ := x
      dsimp only at HTk HXc
      have HPush := Lib.hid (show ∀ (V : World), Below w.heap.size w V → RecAt perCells 2 (V.alloc (Obj.cells #[.int .i64 x1, .int .i64 x2] 25)) (.slice (some ⟨V.heap.size, 0, none⟩) 1 1) [(x1, x2)] from fun V _ => RecAt.one (c := perCells) (sz := 2) V (x1, x2) 25 _ rfl)
      by_cases hO : O = []
      · subst hO
        obtain ⟨c0, c1⟩ := HXc.out wo Hb.out
        have hbs := Hb.out.size
        go_upto_region 6 with (fail)
        go_big_quiet (fail)
        obtain ⟨V, hV⟩ : ∃ V, V = wo.drewN nq := ⟨_, rfl⟩
        have hbV : Below wo.heap.size wo V := by rw [hV]; exact below_drewN2 (Below.refl _ _) _
        rw [← hV]
        have HbV := Lib.hid (Hb.out.trans (hbV.mono Hb.out.size))
        have HownV := Lib.hid (ownsRow_below Hown.out hbV)
        have HX := Lib.hid (HPush.out V HbV.out)
        have hVs := HbV.out.size
        clear hV hbV c0 c1
        obtain ⟨c0, c1⟩ := HXc.out V HbV.out
        go_upto_region 8 with (fail)
        go_wp2_with (at_builtin; refine append_one (c := perCells) (sz := 2) (fun _ => rfl) per_one2 25 85 _ 16 Tryz.underlying85 Tryz.perInfo rfl (by decide) rfl _ _ rfl w.heap.size (by first | omega | (simp; done) | (simp; omega)) _ _ [] (x1, x2) rfl rfl (HownV.out.alloc _) HX.out (by unfold maxLen; first | omega | (simp; done) | (simp; omega)) (by first | omega | (simp; done) | (simp; omega)) ?_)
        intro R hR v5 w5 own5 hg5 _
        have HRe := Lib.hid (show R = joinP (L.take (k + 1)) by rw [HTk.out, ← HP.out, hR.out]; rfl)
        have Own5 := Lib.hid own5
        have Hb5 := Lib.hid ((HbV.out.alloc hVs _).grown hg5 (by first | omega | (simp; done) | (simp; omega)) (fun g hg => (ownsRow_block HownV.out g hg).1))
        clear own5 hg5 hR hVs c0 c1
        go_wp2
        exact ⟨⟨k + 1, R, by omega, by go_num, HRe, Own5.out, Hb5.out⟩, by simp [intOf]; omega⟩
      · obtain ⟨M, q, rfl⟩ : ∃ M q, O = M ++ [q] := ⟨_, _, (List.dropLast_concat_getLast hO).symm⟩
        obtain ⟨q1, q2⟩ := q
        clear hO
        obtain ⟨g0, rfl, hln, hgB, hgl, hownM, hcell⟩ := own_last (c := perCells) (sz := 2) (fun _ => rfl) Hown.out
        have HownM := Lib.hid hownM
        have z0 : wo.cell? ⟨g0, M.length * 2, none⟩ = some (.int .i64 q1) := hcell 0 (by decide)
        have z1 : wo.cell? ⟨g0, M.length * 2 + 1, none⟩ = some (.int .i64 q2) := hcell 1 (by decide)
        rw [hln] at hc1 hOl ⊢
        have hj1 : IntKind.i64.wrap ((M.length : Int) + 1 - 1) = (M.length : Int) := by rw [Int.add_sub_cancel]; exact IntWalk.i64_in _ (by omega)
        have hj2 : (0 : Int) < (M.length : Int) + 1 := by omega
        have hj3 : ((M.length : Int) + 1).toNat = M.length + 1 := by omega
        have hj4 : IntKind.i64.wrap (M.length : Int) = (M.length : Int) := IntWalk.i64_in _ (by omega)
        have hj5 : (0 : Int) ≤ (M.length : Int) := Int.natCast_nonneg _
        have hj6 : (M.length : Int) < (M.length : Int) + 1 := by omega
        have J := Lib.hid (And.intro hj1 (And.intro hj2 (And.intro hj3 (And.intro hj4 (And.intro hj5 hj6)))))
        have HownL := Lib.hid (show wo.ownsRow w.heap.size 25 2 (.slice (some ⟨g0, 0, none⟩) (M.length + 1) cp) (M ++ [(q1, q2)]).length ((M ++ [(q1, q2)]).flatMap perCells) by rw [hln]; exact HownM.out)
        clear hownM hcell hln
        obtain ⟨c0, c1⟩ := HXc.out wo Hb.out
        go_upto_region 6 with (fail)
        by_cases hq : q2 = x1
        · have hq2 : (q2 == x1) = true := beq_iff_eq.2 hq
          have HE := Lib.hid (chStep_eq M (q1, q2) x1 x2 hq)
          clear hq
          go_big_quiet (fail)
          clear hj1 hj2 hj3 hj4 hj5 hj6 z0 z1 c0 c1
          obtain ⟨V, hV⟩ : ∃ V, V = wo.drewN nq := ⟨_, rfl⟩
          have hbV : Below wo.heap.size wo V := by rw [hV]; exact below_drewN2 (Below.refl _ _) _
          rw [← hV]
          have HbV := Lib.hid (Hb.out.trans (hbV.mono Hb.out.size))
          have HownV := Lib.hid (ownsRow_below HownM.out hbV)
          clear hV hbV
          obtain ⟨c0, c1⟩ := HXc.out V HbV.out
          have d1 : V.cell? ⟨g0, M.length * 2 + 1, none⟩ = some (.int .i64 q2) := (HownV.out.cellAt _ (by omega)).trans (by
            have h := flat_get perCells 2 (fun _ => rfl) (M ++ [(q1, q2)]) M.length 1 (by simp) (by decide)
            rw [List.getElem_concat_length rfl] at h
            exact h)
          have f1 := HownV.out.frozenAt (M.length * 2 + 1)
          have hst := HownV.out.stored (M.length * 2 + 1) (.int .i64 x2)
          rw [flat_set] at hst
          obtain ⟨V2, hV2⟩ : ∃ V2, V2 = V.setCell ⟨g0, M.length * 2 + 1, none⟩ (.int .i64 x2) := ⟨_, rfl⟩
          rw [← hV2] at hst
          have SO := Lib.hid (show V2.ownsRow w.heap.size 25 2 (.slice (some ⟨g0, 0, none⟩) (M.length + 1) cp) (M ++ [(q1, x2)]).length ((M ++ [(q1, x2)]).flatMap perCells) by rw [List.length_append, List.length_singleton]; exact hst.1)
          have Hb2 := Lib.hid (HbV.out.grown hst.2 HbV.out.size (fun g hg => by cases hg; exact hgB))
          have HV2 := Lib.hid hV2
          have HRe := Lib.hid (show M ++ [(q1, x2)] = joinP (L.take (k + 1)) by rw [HTk.out, ← HP.out]; exact HE.out.symm)
          clear hst hV2
          obtain ⟨hj1, hj2, hj3, hj4, hj5, hj6⟩ := J.out
          go_upto_region 7 with (fail)
          go_wp2
          rw [← HV2.out]
          exact ⟨⟨k + 1, M ++ [(q1, x2)], by omega, by go_num, HRe, SO.out, Hb2.out⟩, by simp [intOf]; omega⟩
        · have hq2 : (q2 == x1) = false := beq_eq_false_iff_ne.2 hq
          have HE := Lib.hid (chStep_ne M (q1, q2) x1 x2 hq)
          clear hq
          go_big_quiet (fail)
          clear hj1 hj2 hj3 hj4 hj5 hj6 z0 z1 c0 c1
          obtain ⟨V, hV⟩ : ∃ V, V = wo.drewN nq := ⟨_, rfl⟩
          have hbV : Below wo.heap.size wo V := by rw [hV]; exact below_drewN2 (Below.refl _ _) _
          rw [← hV]
          have HbV := Lib.hid (Hb.out.trans (hbV.mono Hb.out.size))
          have HownV := Lib.hid (ownsRow_below HownL.out hbV)
          have HX := Lib.hid (HPush.out V HbV.out)
          have hVs := HbV.out.size
          clear hV hbV
          obtain ⟨c0, c1⟩ := HXc.out V HbV.out
          go_upto_region 8 with (fail)
          go_wp2_with (at_builtin; refine append_one (c := perCells) (sz := 2) (fun _ => rfl) per_one2 25 85 _ 16 Tryz.underlying85 Tryz.perInfo rfl (by decide) rfl _ _ rfl w.heap.size (by first | omega | (simp; done) | (simp; omega)) _ _ (M ++ [(q1, q2)]) (x1, x2) rfl rfl (HownV.out.alloc _) HX.out (by unfold maxLen; first | omega | (simp; done) | (simp; omega)) (by first | omega | (simp; done) | (simp; omega)) ?_)
          intro R hR v5 w5 own5 hg5 _
          have HR1 := Lib.hid (show R = M ++ [(q1, q2)] ++ [(x1, x2)] by rw [hR.out]; first | rfl | simp)
          have HRe := Lib.hid (show R = joinP (L.take (k + 1)) by rw [HTk.out, ← HP.out, HR1.out]; exact HE.out.symm)
          have Own5 := Lib.hid own5
          have Hb5 := Lib.hid ((HbV.out.alloc hVs _).grown hg5 (by first | omega | (simp; done) | (simp; omega)) (fun g hg => (ownsRow_block HownV.out g hg).1))
          clear own5 hg5 hR hVs c0 c1
          go_wp2
          exact ⟨⟨k + 1, R, by omega, by go_num, HRe, Own5.out, Hb5.out⟩, by simp [intOf]; omega⟩
    · have HE := Lib.hid (show O = joinP L by rw [HP.out, List.take_of_length_le (by omega)])
      go_wp2
      go_ret
      exact ⟨a, cp, (show Ending.returned (Value.slice a O.length cp) = Ending.returned (Value.slice a (joinP L).length cp) from by rw [HE.out]), by rw [← HE.out]; exact Hown.out, Hb.out⟩

set_option maxRecDepth 100000 in
set_option maxHeartbeats 6400000 in
theorem ractive_calls (v : Value) (l : List Ev) (n : Int) (s : ByteArray) (w : World) (h : EvsAt w v l) (hl : l.length ≤ 1000) (hr : OkRun l) :
    Calls Tryz.prog 70 #[v, .int .i64 n, .string s] w (PersIn w (actL n s l)) := by
  have HSp := Lib.hid (rspells_calls v l n w h hl hr)
  have HSl := Lib.hid (rspL_len n l l.length)
  have HAc := Lib.hid (act_same hr n s (rspL_ok hr n))
  obtain ⟨av, cap, rfl, hcl, hcm⟩ := rec_shape h.1
  clear h hcl hcm hr
  go_enter Tryz.func70, Tryz.ntmps70
  go_wp2_with fail
  refine HSp.out.mono ?_
  rintro e w2 ⟨a2, c2, S, rfl, own2, hp2, hok2, hb2⟩
  have hSl : S.length ≤ 1000 := by
    have h := HSl.out
    rw [← hp2, plainSp_len] at h; omega
  obtain ⟨ax, cx, ecx, hcx1, hcx2⟩ := own_shape own2
  cases ecx
  unfold maxLen at hcx2
  have HpS := Lib.hid hp2
  have HokS := Lib.hid hok2
  have HS := Lib.hid (show RecAt spCells 6 w2 (.slice a2 S.length c2) S from RecAt.own (fun _ => rfl) own2)
  have Hb2 := Lib.hid hb2
  clear own2 hp2 hok2 hb2 HSp HSl
  go_wp2_with fail
  go_loopw [8, 9] (fun vo i wr => ∃ (k : Nat) (O : List (Int × Int)), k ≤ S.length ∧ i = .int .i64 k ∧ RowKit.Hid (O = keptP (fun a => hasT s a.s) ((plainSp S).take k)) ∧ wr.ownsRow w2.heap.size 25 2 vo O.length (O.flatMap perCells) ∧ Below w2.heap.size w2 wr) (fun _ i _ => S.length - (intOf i).toNat)
  case atStart => exact ⟨0, [], Nat.zero_le _, rfl, Lib.hid rfl, World.ownsRow_nil _ _ _ _, Below.refl _ _⟩
  case round =>
    obtain ⟨wo, rfl⟩ : ∃ wo : World, wo = wr := ⟨_, rfl⟩
    obtain ⟨k, O, hk, rfl, HP, hown, hb⟩ := hrel
    obtain ⟨a, cp, rfl, hc1, hc2⟩ := own_shape hown
    unfold maxLen at hc2
    have Hown := Lib.hid hown
    have Hb := Lib.hid hb
    have hOl : O.length ≤ 1000 := by
      have h := keptP_len (fun a => hasT s a.s) ((plainSp S).take k)
      rw [← HP.out, List.length_take] at h; omega
    by_cases hlt : k < S.length
    · have hk1 : (k : Int) < (S.length : Int) := by omega
      have hk0 : (0 : Int) ≤ (k : Int) := Int.natCast_nonneg _
      have HTk := Lib.hid (keptP_take (fun a => hasT s a.s) (plainSp S) k (by rw [plainSp_len]; exact hlt))
      rw [plainSp_get S k hlt] at HTk
      have HCall := Lib.hid (show Calls Tryz.prog 110 #[.slice (S[k]).2.2.pa (S[k]).2.2.pn (S[k]).2.2.pc, .string s] wo fun e w' => e = .returned (.bool (hasT s (S[k]).2.2.s)) ∧ wo = w' from has19_calls _ _ s wo (((HokS.out _ (List.getElem_mem hlt)).below hb).st))
      have HSw := Lib.hid (HS.out.below hb)
      obtain ⟨a3, c3, e3, -, -, hx⟩ := HSw.out
      cases e3
      obtain ⟨bb, o, rfl, hB, hx⟩ := hx (by rintro rfl; cases hlt)
      have hx := hx k hlt
      have x0 : wo.cell? ⟨bb, o + k * 6, none⟩ = some (.int .i64 (S[k]).1) := hx 0 (by decide)
      have x1 : wo.cell? ⟨bb, o + k * 6 + 1, none⟩ = some (.int .i64 (S[k]).2.1) := hx 1 (by decide)
      have x3 : wo.cell? ⟨bb, o + k * 6 + 3, none⟩ = some (.slice (S[k]).2.2.pa (S[k]).2.2.pn (S[k]).2.2.pc) := hx 3 (by decide)
      clear hx hown
      generalize S[k] = x at *
      go_wp2_with fail
      refine HCall.out.mono ?_
      rintro e w3 ⟨rfl, rfl⟩
      cases hh : hasT s x.2.2.s with
      | false =>
        have HE := Lib.hid (show O = keptP (fun a => hasT s a.s) ((plainSp S).take (k + 1)) by rw [HTk.out, HP.out, hh, if_neg (by decide), List.append_nil])
        clear hh
        go_wp2
        exact ⟨⟨k + 1, O, by omega, by go_num, HE, Hown.out, Hb.out⟩, by simp [intOf]; omega⟩
      | true =>
        have HE := Lib.hid (show O ++ [(x.1, x.2.1)] = keptP (fun a => hasT s a.s) ((plainSp S).take (k + 1)) by rw [HTk.out, HP.out, hh, if_pos rfl])
        clear hh
        have HX := Lib.hid (RecAt.one (c := perCells) (sz := 2) wo (x.1, x.2.1) 25 #[.int .i64 x.1, .int .i64 x.2.1] rfl)
        have hbs := Hb.out.size
        go_wp2_with (at_builtin; refine append_rec2 (c := perCells) (sz := 2) (fun _ => rfl) per_one2 25 85 _ 16 Tryz.underlying85 Tryz.perInfo rfl (by decide) rfl _ _ rfl w2.heap.size ?hs _ _ O [(x.1, x.2.1)] rfl rfl (Hown.out.alloc _) HX.out ?hl ?hb ?_)
        case hs => simp <;> omega
        case hl => unfold maxLen; simp <;> omega
        case hb => simp <;> omega
        intro R hR v5 w5 own5 hg5
        have HRe := Lib.hid (hR.out.trans HE.out)
        have Own5 := Lib.hid own5
        have Hb5 := Lib.hid ((Hb.out.alloc hbs _).grown hg5 (by simp <;> omega) (fun g hg => (ownsRow_block Hown.out g hg).1))
        clear own5 hg5 hR hbs hb
        go_wp2
        exact ⟨⟨k + 1, R, by omega, by go_num, HRe, Own5.out, Hb5.out⟩, by simp [intOf]; omega⟩
    · have HE := Lib.hid (show joinP O = actL n s l by
        have e : k = (plainSp S).length := by rw [plainSp_len]; omega
        rw [HP.out, e, List.take_of_length_le (Nat.le_refl _), HpS.out]; exact HAc.out)
      have HJ := Lib.hid (rjoined_calls (.slice a O.length cp) O wo (RecAt.own (fun _ => rfl) Hown.out) (by omega))
      clear hown hb
      go_wp2_with fail
      refine HJ.out.mono ?_
      rintro e w3 ⟨a5, c5, rfl, hp3, hb3⟩
      have Hp3 := Lib.hid (own_down hp3 (Nat.le_trans Hb2.out.size Hb.out.size))
      have Hb3 := Lib.hid (Hb2.out.trans ((Hb.out.trans (hb3.mono Hb.out.size)).mono Hb2.out.size))
      clear hp3 hb3
      go_wp2
      go_ret
      exact ⟨a5, c5, (show Ending.returned (Value.slice a5 (joinP O).length c5) = Ending.returned (Value.slice a5 (actL n s l).length c5) from by rw [HE.out]), by rw [← HE.out]; exact Hp3.out, Hb3.out⟩
end Go.Proofs.YtngippiilgdnoaaGreat
