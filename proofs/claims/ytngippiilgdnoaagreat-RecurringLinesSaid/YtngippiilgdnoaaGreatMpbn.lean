/-
  The walk of the reference's spells.
-/
import Derived.Test.YtngippiilgdnoaaGreatMpba
import Derived.Test.YtngippiilgdnoaaGreatMpag
namespace Go.Proofs.YtngippiilgdnoaaGreat
open Go.RowKit

/-- A spell's texts, beside a row that grows. -/
structure SpE (w : World) (o : Value) (p : Int × Int × SbX) : Prop where
  st : StrsAt w (.slice p.2.2.pa p.2.2.pn p.2.2.pc) p.2.2.s.prs
  pl : p.2.2.s.plan.size ≤ maxLen
  sp : PlainA p.2.2.pa
  off : p.2.2.s.prs ≠ [] → ∀ ad, p.2.2.pa = some ad → o.ownBlock ≠ some ad.block
theorem SpE.below {w w' : World} {o : Value} {p : Int × Int × SbX} (h : SpE w o p) (hb : Below w.heap.size w w') : SpE w' o p := ⟨h.st.below hb, h.pl, h.sp, h.off⟩
theorem SpE.turn {w w' : World} {o o' : Value} {p : Int × Int × SbX} (h : SpE w o p) (hg : w.grownBy w' o.ownBlock) (ho : ∀ g, o'.ownBlock = some g → o.ownBlock = some g ∨ w.heap.size ≤ g) : SpE w' o' p := by
  by_cases hne : p.2.2.s.prs = []
  · refine ⟨?_, h.pl, h.sp, fun h => absurd hne h⟩
    obtain ⟨av, cap, e, h1, h2, -⟩ := h.st
    rw [e, hne]
    rw [hne] at h1
    exact ⟨av, cap, rfl, h1, h2, fun h => absurd rfl h⟩
  · obtain ⟨av, cap, e, h1, h2, h3⟩ := h.st
    obtain ⟨b, o2, e2, hB, hx⟩ := h3 hne
    have hpa : p.2.2.pa = some ⟨b, o2, none⟩ := by
      simp only [Value.slice.injEq] at e
      rw [e.1, e2]
    have hoff := h.off hne _ hpa
    have hbl : w'.heap[b]? = w.heap[b]? := hg.block b hB (fun e => hoff e.symm)
    refine ⟨⟨av, cap, e, h1, h2, fun _ => ⟨b, o2, e2, Nat.lt_of_lt_of_le hB hg.size, fun i hi => ⟨(World.cell?_of_block (a := ⟨b, _, none⟩) hbl).trans (hx i hi).1, (hx i hi).2⟩⟩⟩, h.pl, h.sp, fun _ ad had hq => ?_⟩
    rw [hpa] at had
    cases had
    rcases ho b hq with h | h
    · exact hoff h
    · omega
theorem plainSp_put (S : List (Int × Int × SbX)) (q p : Int × Int × SbX) (h1 : q.2.1 = p.1) (h2 : alikeRB q.2.2.s p.2.2.s = true) : plainSp (S ++ [(q.1, p.2.1, q.2.2)]) = rspPut (plainSp (S ++ [q])) p.1 p.2.1 p.2.2.s := by
  rw [plainSp_snoc, plainSp_snoc, rspPut_eq _ ⟨q.1, q.2.1, q.2.2.s⟩ _ _ _ h1 h2]
theorem plainSp_new (S : List (Int × Int × SbX)) (q p : Int × Int × SbX) (h : ¬ (q.2.1 = p.1 ∧ alikeRB q.2.2.s p.2.2.s = true)) : plainSp (S ++ [q] ++ [p]) = rspPut (plainSp (S ++ [q])) p.1 p.2.1 p.2.2.s := by
  rw [plainSp_snoc, plainSp_snoc, rspPut_ne _ ⟨q.1, q.2.1, q.2.2.s⟩ _ _ _ h]
def RSpTo (N : List Sp) (w : World) (e : Ending) (w' : World) : Prop := ∃ (a : Option Addr) (c : Nat) (S : List (Int × Int × SbX)), e = .returned (.slice a S.length c) ∧ w'.ownsRow w.heap.size 169 6 (.slice a S.length c) S.length (S.flatMap spCells) ∧ plainSp S = N ∧ (∀ p ∈ S, SpE w' (.slice a S.length c) p) ∧ Below w.heap.size w w'
set_option maxRecDepth 100000 in
set_option maxHeartbeats 25600000 in
theorem rspells_calls (v : Value) (l : List Ev) (n : Int) (w : World) (h : EvsAt w v l) (hl : l.length ≤ 1000) (hr : OkRun l) :
    Calls Tryz.prog 109 #[v, .int .i64 n] w (RSpTo (rspL n l l.length) w) := by
  have HA := Lib.hid h
  have Hr := Lib.hid hr
  have Hll := Lib.hid (rspL_len n l)
  obtain ⟨av, cap, rfl, hcl, hcm⟩ := rec_shape h.1
  unfold maxLen at hcm
  clear h hr
  go_enter Tryz.func109, Tryz.ntmps109
  go_wp2_with fail
  go_loopw [5, 6] (fun vo i wr => ∃ (k : Nat) (S : List (Int × Int × SbX)), k ≤ l.length ∧ i = .int .i64 k ∧ RowKit.Hid (plainSp S = rspL n l k) ∧ wr.ownsRow w.heap.size 169 6 vo S.length (S.flatMap spCells) ∧ RowKit.Hid (∀ p ∈ S, SpE wr vo p) ∧ Below w.heap.size w wr) (fun _ i _ => l.length - (intOf i).toNat)
  case atStart => exact ⟨0, [], Nat.zero_le _, rfl, Lib.hid rfl, World.ownsRow_nil _ _ _ _, Lib.hid (fun p hp => by cases hp), Below.refl _ _⟩
  case round =>
    obtain ⟨wo, rfl⟩ : ∃ wo : World, wo = wr := ⟨_, rfl⟩
    obtain ⟨k, S, hk, rfl, HP, hown, HE, hb⟩ := hrel
    obtain ⟨a, cp, rfl, hc1, hc2⟩ := own_shape hown
    unfold maxLen at hc2
    have Hown := Lib.hid hown
    have Hb := Lib.hid hb
    have hSl : S.length ≤ 1000 := by
      have h := Hll.out k
      rw [← HP.out, plainSp_len] at h; omega
    by_cases hlt : k < l.length
    · have hk1 : (k : Int) < (l.length : Int) := by omega
      have hk0 : (0 : Int) ≤ (k : Int) := Int.natCast_nonneg _
      have HSu := Lib.hid (rspL_succ n l k)
      have HSe := Lib.hid (fun h => rspStep_eq n l (rspL n l k) k hlt h)
      have HSn := Lib.hid (fun h => rspStep_none n l (rspL n l k) k hlt h)
      have HSs := Lib.hid (fun h1 s h2 => @rspStep_some n l (rspL n l k) k hlt h1 s h2)
      have HAw := Lib.hid (HA.out.below hb)
      obtain ⟨a2, c2, e2, -, -, hx⟩ := HAw.out.1
      cases e2
      obtain ⟨bb, o, rfl, hB, hx⟩ := hx (by rintro rfl; cases hlt)
      have x0 : wo.cell? ⟨bb, o + k * 7, none⟩ = some (.int .i64 (l[k]).tm) := hx k hlt 0 (by decide)
      have HNx := Lib.hid (show ∀ h : k + 1 < l.length, toAt l k = (l[k + 1]).tm ∧ wo.cell? ⟨bb, o + (k + 1) * 7, none⟩ = some (.int .i64 (l[k + 1]).tm) from fun h => ⟨toAt_lt h, hx (k + 1) h 0 (by decide)⟩)
      have HNe := Lib.hid (show ¬ k + 1 < l.length → toAt l k = 12622780800 from fun h => toAt_end (by omega))
      have HRn := Lib.hid (fun (W : World) (hW : Below wo.heap.size wo W) (href : refS (bookOf (uptoE l (l[k]).tm)) n = none) => rsub_none _ l n (l[k]).tm W (HAw.out.below hW) hl Hr.out href)
      have HRs := Lib.hid (fun (W : World) (hW : Below wo.heap.size wo W) (q : Sb) (href : refS (bookOf (uptoE l (l[k]).tm)) n = some q) => rsub_some _ l n (l[k]).tm W (HAw.out.below hW) hl Hr.out q href)
      clear hx hown
      generalize (l[k]).tm = fr at *
      obtain ⟨tz, hto⟩ : ∃ tz, tz = toAt l k := ⟨_, rfl⟩
      rw [← hto] at HSe HSs HNx HNe
      clear hto
      generalize hrf : refS (bookOf (uptoE l fr)) n = rf at *
      clear hrf
      have HRn := Lib.hid (fun h => HRn.out wo (Below.refl _ _) h)
      have HRs := Lib.hid (fun q h => HRs.out wo (Below.refl _ _) q h)
      by_cases hk2 : k + 1 < l.length
      · obtain ⟨hn1, hn2⟩ := HNx.out hk2
        have hk3 : (k : Int) + 1 < (l.length : Int) := by omega
        have nxc : wo.cell? ⟨bb, o + (k + 1) * 7, none⟩ = some (.int .i64 tz) := by rw [hn1, ← hn2]
        clear hn1 hn2 HNx HNe hb
        cases rf with
        | none =>
          have HF := Lib.hid (HSn.out (by first | rfl | trivial))
          go_wp2_with fail
          refine (HRn.out (by first | rfl | trivial)).mono ?_
          rintro e w3 ⟨rfl, hb3⟩
          have HbW := Lib.hid (Hb.out.trans ((hb3.mono Hb.out.size).alloc (Nat.le_trans Hb.out.size hb3.size) (Obj.cells #[.int .i64 0, .int .i64 0, .int .i64 0, .string ⟨#[]⟩, .slice none 0 0, .slice none 0 0, .bool false, .bool false] 181)))
          have HbWo := Lib.hid (hb3.alloc hb3.size (Obj.cells #[.int .i64 0, .int .i64 0, .int .i64 0, .string ⟨#[]⟩, .slice none 0 0, .slice none 0 0, .bool false, .bool false] 181))
          have HownW := Lib.hid (ownsRow_below Hown.out HbWo.out)
          have HEW := Lib.hid (fun p hp => (HE.out p hp).below HbWo.out)
          clear hb3
          by_cases hft : fr = tz
          · have hft2 : (fr == tz) = true := beq_iff_eq.2 hft
            clear hft
            go_wp2
            exact ⟨⟨k + 1, S, by omega, by go_num, Lib.hid (HP.out.trans (by rw [HSu.out, HF.out])), HownW.out, HEW, HbW.out⟩, by simp [intOf]; omega⟩
          · have hft2 : (fr == tz) = false := beq_eq_false_iff_ne.2 hft
            clear hft
            go_wp2
            exact ⟨⟨k + 1, S, by omega, by go_num, Lib.hid (HP.out.trans (by rw [HSu.out, HF.out])), HownW.out, HEW, HbW.out⟩, by simp [intOf]; omega⟩
        | some q0 =>
          go_wp2_with fail
          refine (HRs.out q0 (by first | rfl | trivial)).mono ?_
          rintro e w3 ⟨x, hxq, rfl, hst3, hpl3, hfr3, hb3⟩
          obtain ⟨w4, hw4⟩ : ∃ w4, w4 = w3.alloc (Obj.cells #[.int .i64 x.s.id, .int .i64 x.s.ac, .int .i64 x.s.si, .string x.s.plan, .slice x.na x.nn x.nc, .slice x.pa x.pn x.pc, .bool x.s.su, .bool x.s.fa] 181) := ⟨_, rfl⟩
          have h34 : Below w3.heap.size w3 w4 := by rw [hw4]; go_grown
          have Hxq := Lib.hid hxq
          have Hw4r := Lib.hid (show w4.heap[w3.heap.size]? = some (Obj.cells #[.int .i64 x.s.id, .int .i64 x.s.ac, .int .i64 x.s.si, .string x.s.plan, .slice x.na x.nn x.nc, .slice x.pa x.pn x.pc, .bool x.s.su, .bool x.s.fa] 181) by rw [hw4]; exact heap_alloc_new _ _)
          have HbWo := Lib.hid (hb3.trans (h34.mono hb3.size))
          have HbW := Lib.hid (Hb.out.trans (HbWo.out.mono Hb.out.size))
          have HownW := Lib.hid (ownsRow_below Hown.out HbWo.out)
          have HEW := Lib.hid (fun p hp => (HE.out p hp).below HbWo.out)
          have HxW := Lib.hid (show SpE w4 (.slice a S.length cp) (fr, tz, x) from ⟨hst3.below h34, hpl3, hfr3.plain, fun _ ad had hq => by
            have h1 := (hfr3 ad had).2
            have h2 := (ownsRow_block Hown.out _ hq).2
            omega⟩)
          have Hw4 := Lib.hid hw4
          clear hst3 hpl3 hfr3 hb3 h34 hxq hw4
          have y3 : w4.cell? ⟨w3.heap.size, 3, none⟩ = some (.string x.s.plan) := cell_of_row w4 _ 3 _ _ _ Hw4r.out
          have y5 : w4.cell? ⟨w3.heap.size, 5, none⟩ = some (.slice x.pa x.pn x.pc) := cell_of_row w4 _ 5 _ _ _ Hw4r.out
          have y6 : w4.cell? ⟨w3.heap.size, 6, none⟩ = some (.bool x.s.su) := cell_of_row w4 _ 6 _ _ _ Hw4r.out
          have y7 : w4.cell? ⟨w3.heap.size, 7, none⟩ = some (.bool x.s.fa) := cell_of_row w4 _ 7 _ _ _ Hw4r.out
          unfold sbVal
          go_upto_region 9 with (fail)
          rw [← Hw4.out]
          by_cases hft : fr = tz
          · have HF := Lib.hid (HSe.out hft)
            have hft2 : (fr == tz) = true := beq_iff_eq.2 hft
            clear hft y3 y5 y6 y7
            go_wp2
            exact ⟨⟨k + 1, S, by omega, by go_num, Lib.hid (HP.out.trans (by rw [HSu.out, HF.out])), HownW.out, HEW, HbW.out⟩, by simp [intOf]; omega⟩
          · have HF := Lib.hid (show rspStep n l (rspL n l k) k = rspPut (rspL n l k) fr tz x.s by rw [Hxq.out]; exact HSs.out hft q0 (by first | rfl | trivial))
            have hft2 : (fr == tz) = false := beq_eq_false_iff_ne.2 hft
            clear hft
            obtain ⟨gs, hgs⟩ : ∃ gs, gs = w4.heap.size := ⟨_, rfl⟩
            obtain ⟨Y, hY⟩ : ∃ Y, Y = w4.alloc (Obj.cells #[.int .i64 fr, .int .i64 tz, .string x.s.plan, .slice x.pa x.pn x.pc, .bool x.s.su, .bool x.s.fa] 169) := ⟨_, rfl⟩
            have hbY : Below w4.heap.size w4 Y := by rw [hY]; go_grown
            have HYr := Lib.hid (show Y.heap[gs]? = some (Obj.cells #[.int .i64 fr, .int .i64 tz, .string x.s.plan, .slice x.pa x.pn x.pc, .bool x.s.su, .bool x.s.fa] 169) by rw [hY, hgs]; exact heap_alloc_new _ _)
            have HbY := Lib.hid (HbW.out.trans (hbY.mono HbW.out.size))
            have HownY := Lib.hid (ownsRow_below HownW.out hbY)
            have HEY := Lib.hid (fun p hp => (HEW.out p hp).below hbY)
            have HxY := Lib.hid (HxW.out.below hbY)
            have HY := Lib.hid hY
            have Hgs := Lib.hid hgs
            have hgY : gs < Y.heap.size := (Array.getElem?_eq_some_iff.1 HYr.out).1
            clear hY hgs hbY
            go_upto_region 11 with (fail)
            rw [← HY.out, ← Hgs.out]
            clear y3 y5 y6 y7
            by_cases hS : S = []
            · subst hS
              go_upto_region 12 with (fail)
              go_big_quiet (fail)
              obtain ⟨V, hV⟩ : ∃ V, V = Y.drewN nq := ⟨_, rfl⟩
              have hbV : Below Y.heap.size Y V := by rw [hV]; exact below_drewN2 (Below.refl _ _) _
              rw [← hV]
              have HbV := Lib.hid (HbY.out.trans (hbV.mono HbY.out.size))
              have HownV := Lib.hid (ownsRow_below HownY.out hbV)
              have HVr := Lib.hid ((hbV.block _ hgY).trans HYr.out)
              have HEV := Lib.hid (fun p hp => (HEY.out p hp).below hbV)
              have HxV := Lib.hid (HxY.out.below hbV)
              clear hV hbV
              have HX1 := Lib.hid (RecAt.one (c := spCells) (sz := 6) V (fr, tz, x) 169 #[.int .i64 fr, .int .i64 tz, .string x.s.plan, .slice x.pa x.pn x.pc, .bool x.s.su, .bool x.s.fa] rfl)
              have hVs := HbV.out.size
              go_upto_region 14 with (fail)
              have c0 : V.cell? ⟨gs, 0, none⟩ = some (.int .i64 fr) := cell_of_row V _ 0 _ _ _ HVr.out
              have c1 : V.cell? ⟨gs, 1, none⟩ = some (.int .i64 tz) := cell_of_row V _ 1 _ _ _ HVr.out
              have c2 : V.cell? ⟨gs, 2, none⟩ = some (.string x.s.plan) := cell_of_row V _ 2 _ _ _ HVr.out
              have c3 : V.cell? ⟨gs, 3, none⟩ = some (.slice x.pa x.pn x.pc) := cell_of_row V _ 3 _ _ _ HVr.out
              have c4 : V.cell? ⟨gs, 4, none⟩ = some (.bool x.s.su) := cell_of_row V _ 4 _ _ _ HVr.out
              have c5 : V.cell? ⟨gs, 5, none⟩ = some (.bool x.s.fa) := cell_of_row V _ 5 _ _ _ HVr.out
              go_wp2_with (at_builtin; refine append_one (c := spCells) (sz := 6) (fun _ => rfl) sp_one 169 171 _ 64 Tryz.underlying171 Tryz.spellInfo rfl (by decide) rfl _ _ rfl w.heap.size (by first | omega | (simp; done) | (simp; omega)) _ _ [] (fr, tz, x) rfl rfl (HownV.out.alloc _) HX1.out (by unfold maxLen; first | omega | (simp; done) | (simp; omega)) (by first | omega | (simp; done) | (simp; omega)) ?_)
              intro R hR v5 w5 own5 hg5 hh5
              have HRe := Lib.hid (show R = [] ++ [(fr, tz, x)] by rw [hR.out]; first | rfl | simp)
              have HE5 := Lib.hid (show ∀ p ∈ R, SpE w5 v5 p from fun p hp => by
                rw [HRe.out] at hp
                rcases List.mem_append.1 hp with hp | hp
                · exact ((HEV.out p hp).below ((Below.refl _ _).alloc (Nat.le_refl _) _)).turn hg5 (fun g h => by have := hh5.out g h; simpa using this)
                · rw [List.mem_singleton.1 hp]; exact (HxV.out.below ((Below.refl _ _).alloc (Nat.le_refl _) _)).turn hg5 (fun g h => by have := hh5.out g h; simpa using this))
              have Hb5 := Lib.hid ((HbV.out.alloc hVs _).grown hg5 (by simp <;> omega) (fun g hg => (ownsRow_block HownV.out g hg).1))
              have Own5 := Lib.hid own5
              have HPf := Lib.hid (show plainSp R = rspL n l (k + 1) by rw [HRe.out, HSu.out, HF.out, ← HP.out]; exact rfl)
              clear own5 hg5 hh5 hR hVs c0 c1 c2 c3 c4 c5
              go_wp2
              exact ⟨⟨k + 1, R, by omega, by go_num, HPf, Own5.out, HE5, Hb5.out⟩, by simp [intOf]; omega⟩
            · obtain ⟨M, q, rfl⟩ : ∃ M q, S = M ++ [q] := ⟨_, _, (List.dropLast_concat_getLast hS).symm⟩
              clear hS
              obtain ⟨g0, rfl, hln, hgB, hgl, hownM, hcell⟩ := own_last (c := spCells) (sz := 6) (fun _ => rfl) HownY.out
              have HownM := Lib.hid hownM
              have z0 : Y.cell? ⟨g0, M.length * 6, none⟩ = some (.int .i64 q.1) := hcell 0 (by decide)
              have z1 : Y.cell? ⟨g0, M.length * 6 + 1, none⟩ = some (.int .i64 q.2.1) := hcell 1 (by decide)
              have z2 : Y.cell? ⟨g0, M.length * 6 + 2, none⟩ = some (.string q.2.2.s.plan) := hcell 2 (by decide)
              have z3 : Y.cell? ⟨g0, M.length * 6 + 3, none⟩ = some (.slice q.2.2.pa q.2.2.pn q.2.2.pc) := hcell 3 (by decide)
              have z4 : Y.cell? ⟨g0, M.length * 6 + 4, none⟩ = some (.bool q.2.2.s.su) := hcell 4 (by decide)
              have z5 : Y.cell? ⟨g0, M.length * 6 + 5, none⟩ = some (.bool q.2.2.s.fa) := hcell 5 (by decide)
              rw [hln] at hc1 hSl ⊢
              have hj1 : IntKind.i64.wrap ((M.length : Int) + 1 - 1) = (M.length : Int) := by rw [Int.add_sub_cancel]; exact IntWalk.i64_in _ (by omega)
              have hj2 : (0 : Int) < (M.length : Int) + 1 := by omega
              have hj3 : ((M.length : Int) + 1).toNat = M.length + 1 := by omega
              have hj4 : IntKind.i64.wrap (M.length : Int) = (M.length : Int) := IntWalk.i64_in _ (by omega)
              have hj5 : (0 : Int) ≤ (M.length : Int) := Int.natCast_nonneg _
              have hj6 : (M.length : Int) < (M.length : Int) + 1 := by omega
              have J := Lib.hid (And.intro hj1 (And.intro hj2 (And.intro hj3 (And.intro hj4 (And.intro hj5 hj6)))))
              rw [hln] at HEY HxY
              have HownL := Lib.hid (show Y.ownsRow w.heap.size 169 6 (.slice (some ⟨g0, 0, none⟩) (M.length + 1) cp) (M ++ [q]).length ((M ++ [q]).flatMap spCells) by rw [hln]; exact HownM.out)
              clear hownM hcell hln
              go_upto_region 12 with (fail)
              by_cases hqf : q.2.1 = fr
              · have hqf2 : (q.2.1 == fr) = true := beq_iff_eq.2 hqf
                have Hqf := Lib.hid hqf
                clear hqf
                have HT := Lib.hid (show ∀ W, Below Y.heap.size Y W → Calls Tryz.prog 149 #[spVal q, spVal (fr, tz, x)] W fun e w' => e = .returned (.bool (alikeRB q.2.2.s x.s)) ∧ Below W.heap.size W w' from fun W hW => alike20_calls q (fr, tz, x) W (((HEY.out q (by simp)).below hW).st) ((HxY.out.below hW).st))
                have hrr := Below.refl Y.heap.size Y
                have u0 := fun p : BelowOf Y => BelowOf.cell (a := ⟨g0, M.length * 6, none⟩) hgl z0 p
                have u1 := fun p : BelowOf Y => BelowOf.cell (a := ⟨g0, M.length * 6 + 1, none⟩) hgl z1 p
                have u2 := fun p : BelowOf Y => BelowOf.cell (a := ⟨g0, M.length * 6 + 2, none⟩) hgl z2 p
                have u3 := fun p : BelowOf Y => BelowOf.cell (a := ⟨g0, M.length * 6 + 3, none⟩) hgl z3 p
                have u4 := fun p : BelowOf Y => BelowOf.cell (a := ⟨g0, M.length * 6 + 4, none⟩) hgl z4 p
                have u5 := fun p : BelowOf Y => BelowOf.cell (a := ⟨g0, M.length * 6 + 5, none⟩) hgl z5 p
                have y0 := fun p : BelowOf Y => BelowOf.cell (a := ⟨gs, 0, none⟩) hgY (show Y.cell? ⟨gs, 0, none⟩ = some (.int .i64 fr) from cell_of_row Y _ 0 _ _ _ HYr.out) p
                have y1 := fun p : BelowOf Y => BelowOf.cell (a := ⟨gs, 1, none⟩) hgY (show Y.cell? ⟨gs, 1, none⟩ = some (.int .i64 tz) from cell_of_row Y _ 1 _ _ _ HYr.out) p
                have y2 := fun p : BelowOf Y => BelowOf.cell (a := ⟨gs, 2, none⟩) hgY (show Y.cell? ⟨gs, 2, none⟩ = some (.string x.s.plan) from cell_of_row Y _ 2 _ _ _ HYr.out) p
                have y3 := fun p : BelowOf Y => BelowOf.cell (a := ⟨gs, 3, none⟩) hgY (show Y.cell? ⟨gs, 3, none⟩ = some (.slice x.pa x.pn x.pc) from cell_of_row Y _ 3 _ _ _ HYr.out) p
                have y4 := fun p : BelowOf Y => BelowOf.cell (a := ⟨gs, 4, none⟩) hgY (show Y.cell? ⟨gs, 4, none⟩ = some (.bool x.s.su) from cell_of_row Y _ 4 _ _ _ HYr.out) p
                have y5 := fun p : BelowOf Y => BelowOf.cell (a := ⟨gs, 5, none⟩) hgY (show Y.cell? ⟨gs, 5, none⟩ = some (.bool x.s.fa) from cell_of_row Y _ 5 _ _ _ HYr.out) p
                clear z0 z1 z2 z3 z4 z5
                cases hal : alikeRB q.2.2.s x.s with
                | true =>
                  rw [hal] at HT
                  have Hal := Lib.hid hal
                  clear hal
                  refine wp_region_quiet_below hrr (by kernel_rfl) (by kernel_rfl) ?_
                  repeat (go_big_quiet_step (first | (go_at_call 149; refine calls_below_of (HT.out _ (BelowOf.h _)) (fun e w' h => h))))
                  refine wpQuiet_nil ?_
                  intro V hV
                  have hbV : Below Y.heap.size Y V := by obtain ⟨pq, rfl⟩ := hV; exact pq.h
                  clear hV u0 y0 u1 y1 u2 y2 u3 y3 u4 y4 u5 y5 hrr
                  have HbV := Lib.hid (HbY.out.trans (hbV.mono HbY.out.size))
                  have HownV := Lib.hid (ownsRow_below HownM.out hbV)
                  have HEV := Lib.hid (fun p hp => (HEY.out p hp).below hbV)
                  have c1 : V.cell? ⟨g0, M.length * 6 + 1, none⟩ = some (.int .i64 q.2.1) := (HownV.out.cellAt _ (by omega)).trans (by
                    have h := flat_get spCells 6 (fun _ => rfl) (M ++ [q]) M.length 1 (by simp) (by decide)
                    rw [List.getElem_concat_length rfl] at h
                    exact h)
                  have f1 := HownV.out.frozenAt (M.length * 6 + 1)
                  have hst := HownV.out.stored (M.length * 6 + 1) (.int .i64 tz)
                  rw [flat_set1 (c := spCells) (sz := 6) (fun _ => rfl) (M ++ [q]) M.length 1 (q.1, tz, q.2.2) (.int .i64 tz) (by simp) (by decide) (by rw [List.getElem_concat_length rfl]; rfl), List.set_append_right _ _ (Nat.le_refl _), Nat.sub_self, List.set_cons_zero] at hst
                  obtain ⟨V2, hV2⟩ : ∃ V2, V2 = V.setCell ⟨g0, M.length * 6 + 1, none⟩ (.int .i64 tz) := ⟨_, rfl⟩
                  rw [← hV2] at hst
                  have SO := Lib.hid (show V2.ownsRow w.heap.size 169 6 (.slice (some ⟨g0, 0, none⟩) (M.length + 1) cp) (M ++ [(q.1, tz, q.2.2)]).length ((M ++ [(q.1, tz, q.2.2)]).flatMap spCells) by rw [List.length_append, List.length_singleton]; exact hst.1)
                  have HE2 := Lib.hid (show ∀ p ∈ M ++ [(q.1, tz, q.2.2)], SpE V2 (.slice (some ⟨g0, 0, none⟩) (M.length + 1) cp) p from fun p hp => by
                    rcases List.mem_append.1 hp with hp | hp
                    · exact (HEV.out p (List.mem_append_left _ hp)).turn hst.2 (fun g h => Or.inl h)
                    · rw [List.mem_singleton.1 hp]
                      have h := (HEV.out q (by simp)).turn hst.2 (fun g h => Or.inl h)
                      exact ⟨h.st, h.pl, h.sp, h.off⟩)
                  have Hb2 := Lib.hid (HbV.out.grown hst.2 HbV.out.size (fun g hg => by cases hg; exact hgB))
                  have HPf := Lib.hid (show plainSp (M ++ [(q.1, tz, q.2.2)]) = rspL n l (k + 1) by rw [HSu.out, HF.out, ← HP.out]; exact plainSp_put M q (fr, tz, x) Hqf.out Hal.out)
                  have HV2 := Lib.hid hV2
                  clear hst hV2 hbV
                  go_upto_region 13 with (fail)
                  go_wp2
                  rw [← HV2.out]
                  exact ⟨⟨k + 1, M ++ [(q.1, tz, q.2.2)], by omega, by go_num, HPf, SO.out, HE2, Hb2.out⟩, by simp [intOf]; omega⟩
                | false =>
                  rw [hal] at HT
                  have Hal := Lib.hid hal
                  clear hal
                  refine wp_region_quiet_below hrr (by kernel_rfl) (by kernel_rfl) ?_
                  repeat (go_big_quiet_step (first | (go_at_call 149; refine calls_below_of (HT.out _ (BelowOf.h _)) (fun e w' h => h))))
                  refine wpQuiet_nil ?_
                  intro V hV
                  have hbV : Below Y.heap.size Y V := by obtain ⟨pq, rfl⟩ := hV; exact pq.h
                  clear hV u0 y0 u1 y1 u2 y2 u3 y3 u4 y4 u5 y5 hrr hj1 hj2 hj3 hj4 hj5 hj6
                  have HbV := Lib.hid (HbY.out.trans (hbV.mono HbY.out.size))
                  have HownV := Lib.hid (ownsRow_below HownL.out hbV)
                  have HVr := Lib.hid ((hbV.block _ hgY).trans HYr.out)
                  have HEV := Lib.hid (fun p hp => (HEY.out p hp).below hbV)
                  have HxV := Lib.hid (HxY.out.below hbV)
                  clear hbV
                  have HX2 := Lib.hid (RecAt.one (c := spCells) (sz := 6) V (fr, tz, x) 169 #[.int .i64 fr, .int .i64 tz, .string x.s.plan, .slice x.pa x.pn x.pc, .bool x.s.su, .bool x.s.fa] rfl)
                  have hVs := HbV.out.size
                  go_upto_region 14 with (fail)
                  have c0 : V.cell? ⟨gs, 0, none⟩ = some (.int .i64 fr) := cell_of_row V _ 0 _ _ _ HVr.out
                  have c1 : V.cell? ⟨gs, 1, none⟩ = some (.int .i64 tz) := cell_of_row V _ 1 _ _ _ HVr.out
                  have c2 : V.cell? ⟨gs, 2, none⟩ = some (.string x.s.plan) := cell_of_row V _ 2 _ _ _ HVr.out
                  have c3 : V.cell? ⟨gs, 3, none⟩ = some (.slice x.pa x.pn x.pc) := cell_of_row V _ 3 _ _ _ HVr.out
                  have c4 : V.cell? ⟨gs, 4, none⟩ = some (.bool x.s.su) := cell_of_row V _ 4 _ _ _ HVr.out
                  have c5 : V.cell? ⟨gs, 5, none⟩ = some (.bool x.s.fa) := cell_of_row V _ 5 _ _ _ HVr.out
                  go_wp2_with (at_builtin; refine append_one (c := spCells) (sz := 6) (fun _ => rfl) sp_one 169 171 _ 64 Tryz.underlying171 Tryz.spellInfo rfl (by decide) rfl _ _ rfl w.heap.size (by first | omega | (simp; done) | (simp; omega)) _ _ (M ++ [q]) (fr, tz, x) rfl rfl (HownV.out.alloc _) HX2.out (by unfold maxLen; first | omega | (simp; done) | (simp; omega)) (by first | omega | (simp; done) | (simp; omega)) ?_)
                  intro R hR v5 w5 own5 hg5 hh5
                  have HRe := Lib.hid (show R = (M ++ [q]) ++ [(fr, tz, x)] by rw [hR.out]; first | rfl | simp)
                  have HE5 := Lib.hid (show ∀ p ∈ R, SpE w5 v5 p from fun p hp => by
                    rw [HRe.out] at hp
                    rcases List.mem_append.1 hp with hp | hp
                    · exact ((HEV.out p hp).below ((Below.refl _ _).alloc (Nat.le_refl _) _)).turn hg5 (fun g h => by have := hh5.out g h; simpa using this)
                    · rw [List.mem_singleton.1 hp]; exact (HxV.out.below ((Below.refl _ _).alloc (Nat.le_refl _) _)).turn hg5 (fun g h => by have := hh5.out g h; simpa using this))
                  have Hb5 := Lib.hid ((HbV.out.alloc hVs _).grown hg5 (by simp <;> omega) (fun g hg => (ownsRow_block HownV.out g hg).1))
                  have Own5 := Lib.hid own5
                  have HPf := Lib.hid (show plainSp R = rspL n l (k + 1) by rw [HRe.out, HSu.out, HF.out, ← HP.out]; exact plainSp_new M q (fr, tz, x) (fun h => by have := Hal.out; rw [show alikeRB q.2.2.s x.s = true from h.2] at this; cases this))
                  clear own5 hg5 hh5 hR hVs c0 c1 c2 c3 c4 c5
                  go_wp2
                  exact ⟨⟨k + 1, R, by omega, by go_num, HPf, Own5.out, HE5, Hb5.out⟩, by simp [intOf]; omega⟩
              · have hqf2 : (q.2.1 == fr) = false := beq_eq_false_iff_ne.2 hqf
                have Hqf := Lib.hid hqf
                clear hqf
                go_big_quiet (fail)
                clear hj1 hj2 hj3 hj4 hj5 hj6 z0 z1 z2 z3 z4 z5
                obtain ⟨V, hV⟩ : ∃ V, V = Y.drewN nq := ⟨_, rfl⟩
                have hbV : Below Y.heap.size Y V := by rw [hV]; exact below_drewN2 (Below.refl _ _) _
                rw [← hV]
                have HbV := Lib.hid (HbY.out.trans (hbV.mono HbY.out.size))
                have HownV := Lib.hid (ownsRow_below HownL.out hbV)
                have HVr := Lib.hid ((hbV.block _ hgY).trans HYr.out)
                have HEV := Lib.hid (fun p hp => (HEY.out p hp).below hbV)
                have HxV := Lib.hid (HxY.out.below hbV)
                clear hV hbV
                have HX3 := Lib.hid (RecAt.one (c := spCells) (sz := 6) V (fr, tz, x) 169 #[.int .i64 fr, .int .i64 tz, .string x.s.plan, .slice x.pa x.pn x.pc, .bool x.s.su, .bool x.s.fa] rfl)
                have hVs := HbV.out.size
                go_upto_region 14 with (fail)
                have c0 : V.cell? ⟨gs, 0, none⟩ = some (.int .i64 fr) := cell_of_row V _ 0 _ _ _ HVr.out
                have c1 : V.cell? ⟨gs, 1, none⟩ = some (.int .i64 tz) := cell_of_row V _ 1 _ _ _ HVr.out
                have c2 : V.cell? ⟨gs, 2, none⟩ = some (.string x.s.plan) := cell_of_row V _ 2 _ _ _ HVr.out
                have c3 : V.cell? ⟨gs, 3, none⟩ = some (.slice x.pa x.pn x.pc) := cell_of_row V _ 3 _ _ _ HVr.out
                have c4 : V.cell? ⟨gs, 4, none⟩ = some (.bool x.s.su) := cell_of_row V _ 4 _ _ _ HVr.out
                have c5 : V.cell? ⟨gs, 5, none⟩ = some (.bool x.s.fa) := cell_of_row V _ 5 _ _ _ HVr.out
                go_wp2_with (at_builtin; refine append_one (c := spCells) (sz := 6) (fun _ => rfl) sp_one 169 171 _ 64 Tryz.underlying171 Tryz.spellInfo rfl (by decide) rfl _ _ rfl w.heap.size (by first | omega | (simp; done) | (simp; omega)) _ _ (M ++ [q]) (fr, tz, x) rfl rfl (HownV.out.alloc _) HX3.out (by unfold maxLen; first | omega | (simp; done) | (simp; omega)) (by first | omega | (simp; done) | (simp; omega)) ?_)
                intro R hR v5 w5 own5 hg5 hh5
                have HRe := Lib.hid (show R = (M ++ [q]) ++ [(fr, tz, x)] by rw [hR.out]; first | rfl | simp)
                have HE5 := Lib.hid (show ∀ p ∈ R, SpE w5 v5 p from fun p hp => by
                  rw [HRe.out] at hp
                  rcases List.mem_append.1 hp with hp | hp
                  · exact ((HEV.out p hp).below ((Below.refl _ _).alloc (Nat.le_refl _) _)).turn hg5 (fun g h => by have := hh5.out g h; simpa using this)
                  · rw [List.mem_singleton.1 hp]; exact (HxV.out.below ((Below.refl _ _).alloc (Nat.le_refl _) _)).turn hg5 (fun g h => by have := hh5.out g h; simpa using this))
                have Hb5 := Lib.hid ((HbV.out.alloc hVs _).grown hg5 (by simp <;> omega) (fun g hg => (ownsRow_block HownV.out g hg).1))
                have Own5 := Lib.hid own5
                have HPf := Lib.hid (show plainSp R = rspL n l (k + 1) by rw [HRe.out, HSu.out, HF.out, ← HP.out]; exact plainSp_new M q (fr, tz, x) (fun h => Hqf.out h.1))
                clear own5 hg5 hh5 hR hVs c0 c1 c2 c3 c4 c5
                go_wp2
                exact ⟨⟨k + 1, R, by omega, by go_num, HPf, Own5.out, HE5, Hb5.out⟩, by simp [intOf]; omega⟩
      · have Hn1 := Lib.hid (HNe.out hk2)
        have hk3 : ¬ ((k : Int) + 1 < (l.length : Int)) := by omega
        obtain rfl : 12622780800 = tz := Hn1.out.symm
        clear HNx HNe hb
        cases rf with
        | none =>
          have HF := Lib.hid (HSn.out (by first | rfl | trivial))
          go_wp2_with fail
          refine (HRn.out (by first | rfl | trivial)).mono ?_
          rintro e w3 ⟨rfl, hb3⟩
          have HbW := Lib.hid (Hb.out.trans ((hb3.mono Hb.out.size).alloc (Nat.le_trans Hb.out.size hb3.size) (Obj.cells #[.int .i64 0, .int .i64 0, .int .i64 0, .string ⟨#[]⟩, .slice none 0 0, .slice none 0 0, .bool false, .bool false] 181)))
          have HbWo := Lib.hid (hb3.alloc hb3.size (Obj.cells #[.int .i64 0, .int .i64 0, .int .i64 0, .string ⟨#[]⟩, .slice none 0 0, .slice none 0 0, .bool false, .bool false] 181))
          have HownW := Lib.hid (ownsRow_below Hown.out HbWo.out)
          have HEW := Lib.hid (fun p hp => (HE.out p hp).below HbWo.out)
          clear hb3
          by_cases hft : fr = (12622780800 : Int)
          · have hft2 : (fr == (12622780800 : Int)) = true := beq_iff_eq.2 hft
            clear hft
            go_wp2
            exact ⟨⟨k + 1, S, by omega, by go_num, Lib.hid (HP.out.trans (by rw [HSu.out, HF.out])), HownW.out, HEW, HbW.out⟩, by simp [intOf]; omega⟩
          · have hft2 : (fr == (12622780800 : Int)) = false := beq_eq_false_iff_ne.2 hft
            clear hft
            go_wp2
            exact ⟨⟨k + 1, S, by omega, by go_num, Lib.hid (HP.out.trans (by rw [HSu.out, HF.out])), HownW.out, HEW, HbW.out⟩, by simp [intOf]; omega⟩
        | some q0 =>
          go_wp2_with fail
          refine (HRs.out q0 (by first | rfl | trivial)).mono ?_
          rintro e w3 ⟨x, hxq, rfl, hst3, hpl3, hfr3, hb3⟩
          obtain ⟨w4, hw4⟩ : ∃ w4, w4 = w3.alloc (Obj.cells #[.int .i64 x.s.id, .int .i64 x.s.ac, .int .i64 x.s.si, .string x.s.plan, .slice x.na x.nn x.nc, .slice x.pa x.pn x.pc, .bool x.s.su, .bool x.s.fa] 181) := ⟨_, rfl⟩
          have h34 : Below w3.heap.size w3 w4 := by rw [hw4]; go_grown
          have Hxq := Lib.hid hxq
          have Hw4r := Lib.hid (show w4.heap[w3.heap.size]? = some (Obj.cells #[.int .i64 x.s.id, .int .i64 x.s.ac, .int .i64 x.s.si, .string x.s.plan, .slice x.na x.nn x.nc, .slice x.pa x.pn x.pc, .bool x.s.su, .bool x.s.fa] 181) by rw [hw4]; exact heap_alloc_new _ _)
          have HbWo := Lib.hid (hb3.trans (h34.mono hb3.size))
          have HbW := Lib.hid (Hb.out.trans (HbWo.out.mono Hb.out.size))
          have HownW := Lib.hid (ownsRow_below Hown.out HbWo.out)
          have HEW := Lib.hid (fun p hp => (HE.out p hp).below HbWo.out)
          have HxW := Lib.hid (show SpE w4 (.slice a S.length cp) (fr, (12622780800 : Int), x) from ⟨hst3.below h34, hpl3, hfr3.plain, fun _ ad had hq => by
            have h1 := (hfr3 ad had).2
            have h2 := (ownsRow_block Hown.out _ hq).2
            omega⟩)
          have Hw4 := Lib.hid hw4
          clear hst3 hpl3 hfr3 hb3 h34 hxq hw4
          have y3 : w4.cell? ⟨w3.heap.size, 3, none⟩ = some (.string x.s.plan) := cell_of_row w4 _ 3 _ _ _ Hw4r.out
          have y5 : w4.cell? ⟨w3.heap.size, 5, none⟩ = some (.slice x.pa x.pn x.pc) := cell_of_row w4 _ 5 _ _ _ Hw4r.out
          have y6 : w4.cell? ⟨w3.heap.size, 6, none⟩ = some (.bool x.s.su) := cell_of_row w4 _ 6 _ _ _ Hw4r.out
          have y7 : w4.cell? ⟨w3.heap.size, 7, none⟩ = some (.bool x.s.fa) := cell_of_row w4 _ 7 _ _ _ Hw4r.out
          unfold sbVal
          go_upto_region 9 with (fail)
          rw [← Hw4.out]
          by_cases hft : fr = (12622780800 : Int)
          · have HF := Lib.hid (HSe.out hft)
            have hft2 : (fr == (12622780800 : Int)) = true := beq_iff_eq.2 hft
            clear hft y3 y5 y6 y7
            go_wp2
            exact ⟨⟨k + 1, S, by omega, by go_num, Lib.hid (HP.out.trans (by rw [HSu.out, HF.out])), HownW.out, HEW, HbW.out⟩, by simp [intOf]; omega⟩
          · have HF := Lib.hid (show rspStep n l (rspL n l k) k = rspPut (rspL n l k) fr (12622780800 : Int) x.s by rw [Hxq.out]; exact HSs.out hft q0 (by first | rfl | trivial))
            have hft2 : (fr == (12622780800 : Int)) = false := beq_eq_false_iff_ne.2 hft
            clear hft
            obtain ⟨gs, hgs⟩ : ∃ gs, gs = w4.heap.size := ⟨_, rfl⟩
            obtain ⟨Y, hY⟩ : ∃ Y, Y = w4.alloc (Obj.cells #[.int .i64 fr, .int .i64 (12622780800 : Int), .string x.s.plan, .slice x.pa x.pn x.pc, .bool x.s.su, .bool x.s.fa] 169) := ⟨_, rfl⟩
            have hbY : Below w4.heap.size w4 Y := by rw [hY]; go_grown
            have HYr := Lib.hid (show Y.heap[gs]? = some (Obj.cells #[.int .i64 fr, .int .i64 (12622780800 : Int), .string x.s.plan, .slice x.pa x.pn x.pc, .bool x.s.su, .bool x.s.fa] 169) by rw [hY, hgs]; exact heap_alloc_new _ _)
            have HbY := Lib.hid (HbW.out.trans (hbY.mono HbW.out.size))
            have HownY := Lib.hid (ownsRow_below HownW.out hbY)
            have HEY := Lib.hid (fun p hp => (HEW.out p hp).below hbY)
            have HxY := Lib.hid (HxW.out.below hbY)
            have HY := Lib.hid hY
            have Hgs := Lib.hid hgs
            have hgY : gs < Y.heap.size := (Array.getElem?_eq_some_iff.1 HYr.out).1
            clear hY hgs hbY
            go_upto_region 11 with (fail)
            rw [← HY.out, ← Hgs.out]
            clear y3 y5 y6 y7
            by_cases hS : S = []
            · subst hS
              go_upto_region 12 with (fail)
              go_big_quiet (fail)
              obtain ⟨V, hV⟩ : ∃ V, V = Y.drewN nq := ⟨_, rfl⟩
              have hbV : Below Y.heap.size Y V := by rw [hV]; exact below_drewN2 (Below.refl _ _) _
              rw [← hV]
              have HbV := Lib.hid (HbY.out.trans (hbV.mono HbY.out.size))
              have HownV := Lib.hid (ownsRow_below HownY.out hbV)
              have HVr := Lib.hid ((hbV.block _ hgY).trans HYr.out)
              have HEV := Lib.hid (fun p hp => (HEY.out p hp).below hbV)
              have HxV := Lib.hid (HxY.out.below hbV)
              clear hV hbV
              have HX4 := Lib.hid (RecAt.one (c := spCells) (sz := 6) V (fr, (12622780800 : Int), x) 169 #[.int .i64 fr, .int .i64 (12622780800 : Int), .string x.s.plan, .slice x.pa x.pn x.pc, .bool x.s.su, .bool x.s.fa] rfl)
              have hVs := HbV.out.size
              go_upto_region 14 with (fail)
              have c0 : V.cell? ⟨gs, 0, none⟩ = some (.int .i64 fr) := cell_of_row V _ 0 _ _ _ HVr.out
              have c1 : V.cell? ⟨gs, 1, none⟩ = some (.int .i64 (12622780800 : Int)) := cell_of_row V _ 1 _ _ _ HVr.out
              have c2 : V.cell? ⟨gs, 2, none⟩ = some (.string x.s.plan) := cell_of_row V _ 2 _ _ _ HVr.out
              have c3 : V.cell? ⟨gs, 3, none⟩ = some (.slice x.pa x.pn x.pc) := cell_of_row V _ 3 _ _ _ HVr.out
              have c4 : V.cell? ⟨gs, 4, none⟩ = some (.bool x.s.su) := cell_of_row V _ 4 _ _ _ HVr.out
              have c5 : V.cell? ⟨gs, 5, none⟩ = some (.bool x.s.fa) := cell_of_row V _ 5 _ _ _ HVr.out
              go_wp2_with (at_builtin; refine append_one (c := spCells) (sz := 6) (fun _ => rfl) sp_one 169 171 _ 64 Tryz.underlying171 Tryz.spellInfo rfl (by decide) rfl _ _ rfl w.heap.size (by first | omega | (simp; done) | (simp; omega)) _ _ [] (fr, (12622780800 : Int), x) rfl rfl (HownV.out.alloc _) HX4.out (by unfold maxLen; first | omega | (simp; done) | (simp; omega)) (by first | omega | (simp; done) | (simp; omega)) ?_)
              intro R hR v5 w5 own5 hg5 hh5
              have HRe := Lib.hid (show R = [] ++ [(fr, (12622780800 : Int), x)] by rw [hR.out]; first | rfl | simp)
              have HE5 := Lib.hid (show ∀ p ∈ R, SpE w5 v5 p from fun p hp => by
                rw [HRe.out] at hp
                rcases List.mem_append.1 hp with hp | hp
                · exact ((HEV.out p hp).below ((Below.refl _ _).alloc (Nat.le_refl _) _)).turn hg5 (fun g h => by have := hh5.out g h; simpa using this)
                · rw [List.mem_singleton.1 hp]; exact (HxV.out.below ((Below.refl _ _).alloc (Nat.le_refl _) _)).turn hg5 (fun g h => by have := hh5.out g h; simpa using this))
              have Hb5 := Lib.hid ((HbV.out.alloc hVs _).grown hg5 (by simp <;> omega) (fun g hg => (ownsRow_block HownV.out g hg).1))
              have Own5 := Lib.hid own5
              have HPf := Lib.hid (show plainSp R = rspL n l (k + 1) by rw [HRe.out, HSu.out, HF.out, ← HP.out]; exact rfl)
              clear own5 hg5 hh5 hR hVs c0 c1 c2 c3 c4 c5
              go_wp2
              exact ⟨⟨k + 1, R, by omega, by go_num, HPf, Own5.out, HE5, Hb5.out⟩, by simp [intOf]; omega⟩
            · obtain ⟨M, q, rfl⟩ : ∃ M q, S = M ++ [q] := ⟨_, _, (List.dropLast_concat_getLast hS).symm⟩
              clear hS
              obtain ⟨g0, rfl, hln, hgB, hgl, hownM, hcell⟩ := own_last (c := spCells) (sz := 6) (fun _ => rfl) HownY.out
              have HownM := Lib.hid hownM
              have z0 : Y.cell? ⟨g0, M.length * 6, none⟩ = some (.int .i64 q.1) := hcell 0 (by decide)
              have z1 : Y.cell? ⟨g0, M.length * 6 + 1, none⟩ = some (.int .i64 q.2.1) := hcell 1 (by decide)
              have z2 : Y.cell? ⟨g0, M.length * 6 + 2, none⟩ = some (.string q.2.2.s.plan) := hcell 2 (by decide)
              have z3 : Y.cell? ⟨g0, M.length * 6 + 3, none⟩ = some (.slice q.2.2.pa q.2.2.pn q.2.2.pc) := hcell 3 (by decide)
              have z4 : Y.cell? ⟨g0, M.length * 6 + 4, none⟩ = some (.bool q.2.2.s.su) := hcell 4 (by decide)
              have z5 : Y.cell? ⟨g0, M.length * 6 + 5, none⟩ = some (.bool q.2.2.s.fa) := hcell 5 (by decide)
              rw [hln] at hc1 hSl ⊢
              have hj1 : IntKind.i64.wrap ((M.length : Int) + 1 - 1) = (M.length : Int) := by rw [Int.add_sub_cancel]; exact IntWalk.i64_in _ (by omega)
              have hj2 : (0 : Int) < (M.length : Int) + 1 := by omega
              have hj3 : ((M.length : Int) + 1).toNat = M.length + 1 := by omega
              have hj4 : IntKind.i64.wrap (M.length : Int) = (M.length : Int) := IntWalk.i64_in _ (by omega)
              have hj5 : (0 : Int) ≤ (M.length : Int) := Int.natCast_nonneg _
              have hj6 : (M.length : Int) < (M.length : Int) + 1 := by omega
              have J := Lib.hid (And.intro hj1 (And.intro hj2 (And.intro hj3 (And.intro hj4 (And.intro hj5 hj6)))))
              rw [hln] at HEY HxY
              have HownL := Lib.hid (show Y.ownsRow w.heap.size 169 6 (.slice (some ⟨g0, 0, none⟩) (M.length + 1) cp) (M ++ [q]).length ((M ++ [q]).flatMap spCells) by rw [hln]; exact HownM.out)
              clear hownM hcell hln
              go_upto_region 12 with (fail)
              by_cases hqf : q.2.1 = fr
              · have hqf2 : (q.2.1 == fr) = true := beq_iff_eq.2 hqf
                have Hqf := Lib.hid hqf
                clear hqf
                have HT := Lib.hid (show ∀ W, Below Y.heap.size Y W → Calls Tryz.prog 149 #[spVal q, spVal (fr, (12622780800 : Int), x)] W fun e w' => e = .returned (.bool (alikeRB q.2.2.s x.s)) ∧ Below W.heap.size W w' from fun W hW => alike20_calls q (fr, (12622780800 : Int), x) W (((HEY.out q (by simp)).below hW).st) ((HxY.out.below hW).st))
                have hrr := Below.refl Y.heap.size Y
                have u0 := fun p : BelowOf Y => BelowOf.cell (a := ⟨g0, M.length * 6, none⟩) hgl z0 p
                have u1 := fun p : BelowOf Y => BelowOf.cell (a := ⟨g0, M.length * 6 + 1, none⟩) hgl z1 p
                have u2 := fun p : BelowOf Y => BelowOf.cell (a := ⟨g0, M.length * 6 + 2, none⟩) hgl z2 p
                have u3 := fun p : BelowOf Y => BelowOf.cell (a := ⟨g0, M.length * 6 + 3, none⟩) hgl z3 p
                have u4 := fun p : BelowOf Y => BelowOf.cell (a := ⟨g0, M.length * 6 + 4, none⟩) hgl z4 p
                have u5 := fun p : BelowOf Y => BelowOf.cell (a := ⟨g0, M.length * 6 + 5, none⟩) hgl z5 p
                have y0 := fun p : BelowOf Y => BelowOf.cell (a := ⟨gs, 0, none⟩) hgY (show Y.cell? ⟨gs, 0, none⟩ = some (.int .i64 fr) from cell_of_row Y _ 0 _ _ _ HYr.out) p
                have y1 := fun p : BelowOf Y => BelowOf.cell (a := ⟨gs, 1, none⟩) hgY (show Y.cell? ⟨gs, 1, none⟩ = some (.int .i64 (12622780800 : Int)) from cell_of_row Y _ 1 _ _ _ HYr.out) p
                have y2 := fun p : BelowOf Y => BelowOf.cell (a := ⟨gs, 2, none⟩) hgY (show Y.cell? ⟨gs, 2, none⟩ = some (.string x.s.plan) from cell_of_row Y _ 2 _ _ _ HYr.out) p
                have y3 := fun p : BelowOf Y => BelowOf.cell (a := ⟨gs, 3, none⟩) hgY (show Y.cell? ⟨gs, 3, none⟩ = some (.slice x.pa x.pn x.pc) from cell_of_row Y _ 3 _ _ _ HYr.out) p
                have y4 := fun p : BelowOf Y => BelowOf.cell (a := ⟨gs, 4, none⟩) hgY (show Y.cell? ⟨gs, 4, none⟩ = some (.bool x.s.su) from cell_of_row Y _ 4 _ _ _ HYr.out) p
                have y5 := fun p : BelowOf Y => BelowOf.cell (a := ⟨gs, 5, none⟩) hgY (show Y.cell? ⟨gs, 5, none⟩ = some (.bool x.s.fa) from cell_of_row Y _ 5 _ _ _ HYr.out) p
                clear z0 z1 z2 z3 z4 z5
                cases hal : alikeRB q.2.2.s x.s with
                | true =>
                  rw [hal] at HT
                  have Hal := Lib.hid hal
                  clear hal
                  refine wp_region_quiet_below hrr (by kernel_rfl) (by kernel_rfl) ?_
                  repeat (go_big_quiet_step (first | (go_at_call 149; refine calls_below_of (HT.out _ (BelowOf.h _)) (fun e w' h => h))))
                  refine wpQuiet_nil ?_
                  intro V hV
                  have hbV : Below Y.heap.size Y V := by obtain ⟨pq, rfl⟩ := hV; exact pq.h
                  clear hV u0 y0 u1 y1 u2 y2 u3 y3 u4 y4 u5 y5 hrr
                  have HbV := Lib.hid (HbY.out.trans (hbV.mono HbY.out.size))
                  have HownV := Lib.hid (ownsRow_below HownM.out hbV)
                  have HEV := Lib.hid (fun p hp => (HEY.out p hp).below hbV)
                  have c1 : V.cell? ⟨g0, M.length * 6 + 1, none⟩ = some (.int .i64 q.2.1) := (HownV.out.cellAt _ (by omega)).trans (by
                    have h := flat_get spCells 6 (fun _ => rfl) (M ++ [q]) M.length 1 (by simp) (by decide)
                    rw [List.getElem_concat_length rfl] at h
                    exact h)
                  have f1 := HownV.out.frozenAt (M.length * 6 + 1)
                  have hst := HownV.out.stored (M.length * 6 + 1) (.int .i64 (12622780800 : Int))
                  rw [flat_set1 (c := spCells) (sz := 6) (fun _ => rfl) (M ++ [q]) M.length 1 (q.1, (12622780800 : Int), q.2.2) (.int .i64 (12622780800 : Int)) (by simp) (by decide) (by rw [List.getElem_concat_length rfl]; rfl), List.set_append_right _ _ (Nat.le_refl _), Nat.sub_self, List.set_cons_zero] at hst
                  obtain ⟨V2, hV2⟩ : ∃ V2, V2 = V.setCell ⟨g0, M.length * 6 + 1, none⟩ (.int .i64 (12622780800 : Int)) := ⟨_, rfl⟩
                  rw [← hV2] at hst
                  have SO := Lib.hid (show V2.ownsRow w.heap.size 169 6 (.slice (some ⟨g0, 0, none⟩) (M.length + 1) cp) (M ++ [(q.1, (12622780800 : Int), q.2.2)]).length ((M ++ [(q.1, (12622780800 : Int), q.2.2)]).flatMap spCells) by rw [List.length_append, List.length_singleton]; exact hst.1)
                  have HE2 := Lib.hid (show ∀ p ∈ M ++ [(q.1, (12622780800 : Int), q.2.2)], SpE V2 (.slice (some ⟨g0, 0, none⟩) (M.length + 1) cp) p from fun p hp => by
                    rcases List.mem_append.1 hp with hp | hp
                    · exact (HEV.out p (List.mem_append_left _ hp)).turn hst.2 (fun g h => Or.inl h)
                    · rw [List.mem_singleton.1 hp]
                      have h := (HEV.out q (by simp)).turn hst.2 (fun g h => Or.inl h)
                      exact ⟨h.st, h.pl, h.sp, h.off⟩)
                  have Hb2 := Lib.hid (HbV.out.grown hst.2 HbV.out.size (fun g hg => by cases hg; exact hgB))
                  have HPf := Lib.hid (show plainSp (M ++ [(q.1, (12622780800 : Int), q.2.2)]) = rspL n l (k + 1) by rw [HSu.out, HF.out, ← HP.out]; exact plainSp_put M q (fr, (12622780800 : Int), x) Hqf.out Hal.out)
                  have HV2 := Lib.hid hV2
                  clear hst hV2 hbV
                  go_upto_region 13 with (fail)
                  go_wp2
                  rw [← HV2.out]
                  exact ⟨⟨k + 1, M ++ [(q.1, (12622780800 : Int), q.2.2)], by omega, by go_num, HPf, SO.out, HE2, Hb2.out⟩, by simp [intOf]; omega⟩
                | false =>
                  rw [hal] at HT
                  have Hal := Lib.hid hal
                  clear hal
                  refine wp_region_quiet_below hrr (by kernel_rfl) (by kernel_rfl) ?_
                  repeat (go_big_quiet_step (first | (go_at_call 149; refine calls_below_of (HT.out _ (BelowOf.h _)) (fun e w' h => h))))
                  refine wpQuiet_nil ?_
                  intro V hV
                  have hbV : Below Y.heap.size Y V := by obtain ⟨pq, rfl⟩ := hV; exact pq.h
                  clear hV u0 y0 u1 y1 u2 y2 u3 y3 u4 y4 u5 y5 hrr hj1 hj2 hj3 hj4 hj5 hj6
                  have HbV := Lib.hid (HbY.out.trans (hbV.mono HbY.out.size))
                  have HownV := Lib.hid (ownsRow_below HownL.out hbV)
                  have HVr := Lib.hid ((hbV.block _ hgY).trans HYr.out)
                  have HEV := Lib.hid (fun p hp => (HEY.out p hp).below hbV)
                  have HxV := Lib.hid (HxY.out.below hbV)
                  clear hbV
                  have HX5 := Lib.hid (RecAt.one (c := spCells) (sz := 6) V (fr, (12622780800 : Int), x) 169 #[.int .i64 fr, .int .i64 (12622780800 : Int), .string x.s.plan, .slice x.pa x.pn x.pc, .bool x.s.su, .bool x.s.fa] rfl)
                  have hVs := HbV.out.size
                  go_upto_region 14 with (fail)
                  have c0 : V.cell? ⟨gs, 0, none⟩ = some (.int .i64 fr) := cell_of_row V _ 0 _ _ _ HVr.out
                  have c1 : V.cell? ⟨gs, 1, none⟩ = some (.int .i64 (12622780800 : Int)) := cell_of_row V _ 1 _ _ _ HVr.out
                  have c2 : V.cell? ⟨gs, 2, none⟩ = some (.string x.s.plan) := cell_of_row V _ 2 _ _ _ HVr.out
                  have c3 : V.cell? ⟨gs, 3, none⟩ = some (.slice x.pa x.pn x.pc) := cell_of_row V _ 3 _ _ _ HVr.out
                  have c4 : V.cell? ⟨gs, 4, none⟩ = some (.bool x.s.su) := cell_of_row V _ 4 _ _ _ HVr.out
                  have c5 : V.cell? ⟨gs, 5, none⟩ = some (.bool x.s.fa) := cell_of_row V _ 5 _ _ _ HVr.out
                  go_wp2_with (at_builtin; refine append_one (c := spCells) (sz := 6) (fun _ => rfl) sp_one 169 171 _ 64 Tryz.underlying171 Tryz.spellInfo rfl (by decide) rfl _ _ rfl w.heap.size (by first | omega | (simp; done) | (simp; omega)) _ _ (M ++ [q]) (fr, (12622780800 : Int), x) rfl rfl (HownV.out.alloc _) HX5.out (by unfold maxLen; first | omega | (simp; done) | (simp; omega)) (by first | omega | (simp; done) | (simp; omega)) ?_)
                  intro R hR v5 w5 own5 hg5 hh5
                  have HRe := Lib.hid (show R = (M ++ [q]) ++ [(fr, (12622780800 : Int), x)] by rw [hR.out]; first | rfl | simp)
                  have HE5 := Lib.hid (show ∀ p ∈ R, SpE w5 v5 p from fun p hp => by
                    rw [HRe.out] at hp
                    rcases List.mem_append.1 hp with hp | hp
                    · exact ((HEV.out p hp).below ((Below.refl _ _).alloc (Nat.le_refl _) _)).turn hg5 (fun g h => by have := hh5.out g h; simpa using this)
                    · rw [List.mem_singleton.1 hp]; exact (HxV.out.below ((Below.refl _ _).alloc (Nat.le_refl _) _)).turn hg5 (fun g h => by have := hh5.out g h; simpa using this))
                  have Hb5 := Lib.hid ((HbV.out.alloc hVs _).grown hg5 (by simp <;> omega) (fun g hg => (ownsRow_block HownV.out g hg).1))
                  have Own5 := Lib.hid own5
                  have HPf := Lib.hid (show plainSp R = rspL n l (k + 1) by rw [HRe.out, HSu.out, HF.out, ← HP.out]; exact plainSp_new M q (fr, (12622780800 : Int), x) (fun h => by have := Hal.out; rw [show alikeRB q.2.2.s x.s = true from h.2] at this; cases this))
                  clear own5 hg5 hh5 hR hVs c0 c1 c2 c3 c4 c5
                  go_wp2
                  exact ⟨⟨k + 1, R, by omega, by go_num, HPf, Own5.out, HE5, Hb5.out⟩, by simp [intOf]; omega⟩
              · have hqf2 : (q.2.1 == fr) = false := beq_eq_false_iff_ne.2 hqf
                have Hqf := Lib.hid hqf
                clear hqf
                go_big_quiet (fail)
                clear hj1 hj2 hj3 hj4 hj5 hj6 z0 z1 z2 z3 z4 z5
                obtain ⟨V, hV⟩ : ∃ V, V = Y.drewN nq := ⟨_, rfl⟩
                have hbV : Below Y.heap.size Y V := by rw [hV]; exact below_drewN2 (Below.refl _ _) _
                rw [← hV]
                have HbV := Lib.hid (HbY.out.trans (hbV.mono HbY.out.size))
                have HownV := Lib.hid (ownsRow_below HownL.out hbV)
                have HVr := Lib.hid ((hbV.block _ hgY).trans HYr.out)
                have HEV := Lib.hid (fun p hp => (HEY.out p hp).below hbV)
                have HxV := Lib.hid (HxY.out.below hbV)
                clear hV hbV
                have HX6 := Lib.hid (RecAt.one (c := spCells) (sz := 6) V (fr, (12622780800 : Int), x) 169 #[.int .i64 fr, .int .i64 (12622780800 : Int), .string x.s.plan, .slice x.pa x.pn x.pc, .bool x.s.su, .bool x.s.fa] rfl)
                have hVs := HbV.out.size
                go_upto_region 14 with (fail)
                have c0 : V.cell? ⟨gs, 0, none⟩ = some (.int .i64 fr) := cell_of_row V _ 0 _ _ _ HVr.out
                have c1 : V.cell? ⟨gs, 1, none⟩ = some (.int .i64 (12622780800 : Int)) := cell_of_row V _ 1 _ _ _ HVr.out
                have c2 : V.cell? ⟨gs, 2, none⟩ = some (.string x.s.plan) := cell_of_row V _ 2 _ _ _ HVr.out
                have c3 : V.cell? ⟨gs, 3, none⟩ = some (.slice x.pa x.pn x.pc) := cell_of_row V _ 3 _ _ _ HVr.out
                have c4 : V.cell? ⟨gs, 4, none⟩ = some (.bool x.s.su) := cell_of_row V _ 4 _ _ _ HVr.out
                have c5 : V.cell? ⟨gs, 5, none⟩ = some (.bool x.s.fa) := cell_of_row V _ 5 _ _ _ HVr.out
                go_wp2_with (at_builtin; refine append_one (c := spCells) (sz := 6) (fun _ => rfl) sp_one 169 171 _ 64 Tryz.underlying171 Tryz.spellInfo rfl (by decide) rfl _ _ rfl w.heap.size (by first | omega | (simp; done) | (simp; omega)) _ _ (M ++ [q]) (fr, (12622780800 : Int), x) rfl rfl (HownV.out.alloc _) HX6.out (by unfold maxLen; first | omega | (simp; done) | (simp; omega)) (by first | omega | (simp; done) | (simp; omega)) ?_)
                intro R hR v5 w5 own5 hg5 hh5
                have HRe := Lib.hid (show R = (M ++ [q]) ++ [(fr, (12622780800 : Int), x)] by rw [hR.out]; first | rfl | simp)
                have HE5 := Lib.hid (show ∀ p ∈ R, SpE w5 v5 p from fun p hp => by
                  rw [HRe.out] at hp
                  rcases List.mem_append.1 hp with hp | hp
                  · exact ((HEV.out p hp).below ((Below.refl _ _).alloc (Nat.le_refl _) _)).turn hg5 (fun g h => by have := hh5.out g h; simpa using this)
                  · rw [List.mem_singleton.1 hp]; exact (HxV.out.below ((Below.refl _ _).alloc (Nat.le_refl _) _)).turn hg5 (fun g h => by have := hh5.out g h; simpa using this))
                have Hb5 := Lib.hid ((HbV.out.alloc hVs _).grown hg5 (by simp <;> omega) (fun g hg => (ownsRow_block HownV.out g hg).1))
                have Own5 := Lib.hid own5
                have HPf := Lib.hid (show plainSp R = rspL n l (k + 1) by rw [HRe.out, HSu.out, HF.out, ← HP.out]; exact plainSp_new M q (fr, (12622780800 : Int), x) (fun h => Hqf.out h.1))
                clear own5 hg5 hh5 hR hVs c0 c1 c2 c3 c4 c5
                go_wp2
                exact ⟨⟨k + 1, R, by omega, by go_num, HPf, Own5.out, HE5, Hb5.out⟩, by simp [intOf]; omega⟩
    · have HF := Lib.hid (show rspL n l k = rspL n l l.length by rw [show k = l.length by omega])
      go_wp2
      go_ret
      exact ⟨a, cp, S, rfl, Hown.out, HP.out.trans HF.out, HE.out, hb⟩
end Go.Proofs.YtngippiilgdnoaaGreat
