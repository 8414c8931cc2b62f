/-
  States in memory, and the two Advances as the laws of chapter 35 want them.
-/
import Derived.Test.YtngippiilgdnoaaMcbs
set_option maxRecDepth 100000
set_option maxHeartbeats 25600000
namespace Go.Proofs.Ytngippiilgdnoaa
open Go.RowKit
theorem plB_one {X : List BuX} {b : Bu} (h : plB X = [b]) : ∃ x, X = [x] ∧ x.b = b := by
 have hl : X.length = 1 := by rw [← plB_len, h]; rfl
 obtain ⟨x, rfl⟩ := List.length_eq_one_iff.1 hl
 exact ⟨x, rfl, (List.cons.inj h).1⟩
theorem plB_pair {X : List BuX} {a b : Bu} (h : plB X = [a, b]) : ∃ x y, X = [x, y] ∧ x.b = a ∧ y.b = b := by
 have hl : X.length = 2 := by rw [← plB_len, h]; rfl
 match X, hl with
 | [x, y], _ =>
  have h : [x.b, y.b] = [a, b] := h
  injection h with h1 h2
  injection h2 with h2 h3
  exact ⟨x, y, rfl, h1, h2⟩
theorem own_cells35 {w : World} {base : Nat} {e : TypeId} {sz n : Nat} {v : Value} {xs : List Value} (h : w.ownsRow base e sz v n xs) (hn : 0 < n) :
 ∃ g cap, v = .slice (some ⟨g, 0, none⟩) n cap ∧ base ≤ g ∧ g < w.heap.size ∧ n ≤ cap ∧ cap ≤ maxLen ∧ (∀ i, w.frozen? ⟨g, i, none⟩ = false) ∧ ∀ i, i < n * sz → w.cell? ⟨g, i, none⟩ = xs[i]? := by
 obtain ⟨-, h2⟩ := h
 rcases h2 with ⟨-, h0⟩ | ⟨g, cap, cur, rfl, hB, hh, h1, h2, h3, h4⟩
 · omega
 refine ⟨g, cap, rfl, hB, (ltB9 hh), h1, h2, fun i => by simp [World.frozen?, hh], fun i hi => ?_⟩
 rw [← h4, List.getElem?_take_of_lt hi]
 simp only [World.cell?, hh, Option.isSome_none, Bool.false_eq_true, if_false]
 simp
theorem i5_any {w w' : World} {v : Value} (h : RecAt i5Cells 5 w v []) : RecAt i5Cells 5 w' v [] := by
 obtain ⟨a, c, e, h1, h2, -⟩ := h
 exact ⟨a, c, e, h1, h2, fun h => absurd rfl h⟩
theorem strs_any {w w' : World} {v : Value} {L : List ByteArray} (hL : L = []) (h : StrsAt w v L) : StrsAt w' v L := by
 subst hL
 obtain ⟨a, c, e, h1, h2, -⟩ := h
 exact ⟨a, c, e, h1, h2, fun h => absurd rfl h⟩
theorem nil_own {w : World} {base : Nat} {e : TypeId} {v : Value} (h : w.ownsRow base e 5 v 0 []) : RecAt i5Cells 5 w v [] := RecAt.own (l := []) (fun _ => rfl) h
theorem sa_key (f t un lf : Int) (h0 : 0 ≤ f) (h1 : f < 12622780800) : KeyB (saG f t un lf) := by
 refine ⟨by show (Lit.int .i64 1).wf = true; decide, by show plusT.size ≤ maxLen; unfold maxLen; decide, by show (Lit.int .i64 0).wf = true; decide, ?_⟩
 show (Lit.int .i64 f).wf = true
 exact wf64 (by omega) (by omega)
def left40 (x : BuX) : BuX := { x with b := { x.b with lf := 40 } }
theorem alive35_calls (w : World) : Calls Try.prog 4 #[] w fun e w' => e = .returned (.bool true) ∧ Below w.heap.size w w' := by
 go_enter Try.func4, Try.ntmps4
 go_wp2_with fail
 refine (sample35_calls w).mono ?_
 rintro e w1 ⟨ea, pa, ec, pc, rfl, hE, hP, hb1⟩
 obtain ⟨V, hV⟩ : ∃ V, V = w1.alloc (Obj.cells #[.slice ea 3 ec, .slice pa 1 pc, .slice none 0 0, .slice none 0 0, .slice none 0 0, .int .i64 1] 39) := ⟨_, rfl⟩
 have hbV : Below w1.heap.size w1 V := by rw [hV]; exact (Below.refl _ _).alloc (Nat.le_refl _) _
 have VN := hZ9 (show V.heap[w1.heap.size]? = some (Obj.cells #[.slice ea 3 ec, .slice pa 1 pc, .slice none 0 0, .slice none 0 0, .slice none 0 0, .int .i64 1] 39) by rw [hV]; exact heap_alloc_new _ _)
 have HV := hZ9 hV
 have HbV := hZ9 (hb1.trans (hbV.mono hb1.size))
 have HE := hZ9 (hE.below hbV)
 have HP := hZ9 (hP.below hbV)
 have HA1 := hZ9 (show Calls Try.prog 9 #[.slice ea 3 ec, .slice pa 1 pc, .agg #[.slice none 0 0, .slice none 0 0, .slice none 0 0], .int .i64 1, .int .i64 1728000] V (AdvTo saL saP 1 1728000 [] [] [] V) from
  padvance_calls saL saP 1 1728000 _ _ [] [] [] none none none 0 0 0 V (hE.below hbV) sa_run (by decide) (hP.below hbV) sa_fewP (RecAt.own (base := 0) (e := 26) (l := []) (fun _ => rfl) (World.ownsRow_nil _ _ _ _)) (fun x hx => by cases hx) (fun x hx => by cases hx) (Nat.zero_le _)
   (nil_own (base := 0) (e := 165) (World.ownsRow_nil _ _ _ _)) (Nat.zero_le _) (nil_own (base := 0) (e := 165) (World.ownsRow_nil _ _ _ _)) (Nat.zero_le _) (sa_advH _ (by decide)))
 clear hV hbV hE hP hb1
 have tQ := fun j => cell_of_row V _ j _ _ _ VN.out
 have k0 := tQ 0
 have k1 := tQ 1
 have k2 := tQ 2
 have k3 := tQ 3
 have k4 := tQ 4
 have k5 := tQ 5
 clear tQ
 go_upto_region 2 with (fail)
 rw [← HV.out]
 go_wp2_with fail
 refine HA1.out.mono ?_
 intro e w2 hadv
 obtain ⟨G, hg, hst⟩ := hadv.gs
 obtain rfl := hg.one sa_g1
 rw [sa_fold1] at hst
 obtain ⟨a, c, X, wa, wc, ca, cc, rfl, ho, hpl, hbo, hwo, hco, hb2⟩ := hst
 obtain ⟨x, rfl, hx⟩ := plB_one hpl
 have hbx := hbo x (List.mem_singleton_self _)
 obtain ⟨b0, c0, e0, hc1, hc2⟩ := own_shape ho
 obtain ⟨g, cap, eg, hgB, hgl, hg1, hg2, hgf, hgc⟩ := own_cells35 ho (by simp)
 cases eg
 clear e0 hadv hg hbo HA1 hpl hc1 hc2 k0 k1 k2 k3 k4 k5
 obtain ⟨V2, hV2⟩ : ∃ V2, V2 = w2.alloc (Obj.cells #[.slice (some ⟨g, 0, none⟩) 1 c, .slice wa 0 wc, .slice ca 0 cc] 37) := ⟨_, rfl⟩
 have hbV2 : Below w2.heap.size w2 V2 := by rw [hV2]; exact (Below.refl _ _).alloc (Nat.le_refl _) _
 have V2N := hZ9 (show V2.heap[w2.heap.size]? = some (Obj.cells #[.slice (some ⟨g, 0, none⟩) 1 c, .slice wa 0 wc, .slice ca 0 cc] 37) by rw [hV2]; exact heap_alloc_new _ _)
 have HV2 := hZ9 hV2
 have hb22 : Below V.heap.size V V2 := hb2.trans (hbV2.mono hb2.size)
 have ho2 := ownsRow_below ho hbV2
 have x6 : V2.cell? ⟨g, 6, none⟩ = some (.int .i64 777600) := ((hbV2.cell (p := ⟨g, 6, none⟩) hgl).trans (hgc 6 (by simp))).trans (by show some (Value.int .i64 x.b.f) = _; rw [hx]; rfl)
 have x7 : V2.cell? ⟨g, 7, none⟩ = some (.int .i64 2678400) := ((hbV2.cell (p := ⟨g, 7, none⟩) hgl).trans (hgc 7 (by simp))).trans (by show some (Value.int .i64 x.b.t) = _; rw [hx]; rfl)
 have x9 : V2.cell? ⟨g, 9, none⟩ = some (.int .i64 100) := ((hbV2.cell (p := ⟨g, 9, none⟩) hgl).trans (hgc 9 (by simp))).trans (by show some (Value.int .i64 x.b.lf) = _; rw [hx]; rfl)
 have f9 : V2.frozen? ⟨g, 9, none⟩ = false := (hbV2.frozen (p := ⟨g, 9, none⟩) hgl).trans (hgf 9)
 obtain ⟨U, hU⟩ : ∃ U, U = V2.setCell ⟨g, 9, none⟩ (.int .i64 40) := ⟨_, rfl⟩
 have hoU : U.ownsRow V.heap.size 26 12 (.slice (some ⟨g, 0, none⟩) 1 c) 1 ([left40 x].flatMap buCells) := by rw [hU]; exact (ho2.stored 9 (.int .i64 40)).1
 have hbU : Below V.heap.size V U := hb22.trans (by rw [hU]; exact ⟨rfl, rfl, rfl, by simp, fun k hk => Below.heap_setCell _ _ _ _ (by show k ≠ g; omega)⟩)
 have UN := hZ9 (show U.heap[w2.heap.size]? = some (Obj.cells #[.slice (some ⟨g, 0, none⟩) 1 c, .slice wa 0 wc, .slice ca 0 cc] 37) by rw [hU, Below.heap_setCell _ _ _ _ (by show w2.heap.size ≠ g; omega)]; exact V2N.out)
 have UC := hZ9 ((hbU.block _ (ltB9 VN.out)).trans VN.out)
 have hrU : BuRd U (left40 x) := ⟨strs_any (by show x.b.zs = []; rw [hx]; rfl) (hbx.rd).z, hbx.p, hbx.len⟩
 have hpU : plB [left40 x] = [saG 777600 2678400 100 40] := by show [({ x.b with lf := 40 } : Bu)] = _; rw [hx]; rfl
 have hkU : ∀ y ∈ [left40 x], KeyB y.b := fun y hy => by
  obtain rfl := List.mem_singleton.1 hy
  have e : (left40 x).b = saG 777600 2678400 100 40 := (List.cons.inj hpU).1
  rw [e]
  exact sa_key _ _ _ _ (by decide) (by decide)
 have HA2 := hZ9 (show Calls Try.prog 9 #[.slice ea 3 ec, .slice pa 1 pc, .agg #[.slice (some ⟨g, 0, none⟩) 1 c, .slice wa 0 wc, .slice ca 0 cc], .int .i64 1, .int .i64 2678400] U (AdvTo saL saP 1 2678400 (plB [left40 x]) [] [] U) from
  padvance_calls saL saP 1 2678400 _ _ [left40 x] [] [] (some ⟨g, 0, none⟩) wa ca c wc cc U (HE.out.below hbU) sa_run (by decide) (HP.out.below hbU) sa_fewP (RecAt.own (fun _ => rfl) hoU) (fun y hy => by obtain rfl := List.mem_singleton.1 hy; exact hrU) hkU (by simp)
   (i5_any (nil_own hwo)) (Nat.zero_le _) (i5_any (nil_own hco)) (Nat.zero_le _) (sa_advH _ (by decide)))
 rw [hpU] at HA2
 have HU := hZ9 hU
 have HbU := hZ9 (HbV.out.trans (hbU.mono HbV.out.size))
 clear hV2 hb22 ho2 hU hoU hbU hrU hpU hkU ho hwo hco hb2 hbx hgc hgf hgB hg1 hg2 hbV2
 have d0 := cell_of_row V2 _ 0 _ _ _ V2N.out
 have d1 := cell_of_row V2 _ 1 _ _ _ V2N.out
 have d2 := cell_of_row V2 _ 2 _ _ _ V2N.out
 go_upto_region 3 with (fail)
 rw [← HV2.out]
 go_upto_region 6 with (fail)
 rw [← HU.out]
 clear x6 x7 x9 f9 d0 d1 d2
 have d0 := cell_of_row U _ 0 _ _ _ UN.out
 have d1 := cell_of_row U _ 1 _ _ _ UN.out
 have d2 := cell_of_row U _ 2 _ _ _ UN.out
 have tQ := fun j => cell_of_row U _ j _ _ _ UC.out
 have k0 := tQ 0
 have k1 := tQ 1
 have k2 := tQ 2
 have k3 := tQ 3
 have k4 := tQ 4
 have k5 := tQ 5
 clear tQ
 go_wp2_with fail
 refine HA2.out.mono ?_
 intro e w3 hadv
 obtain ⟨G, hg, hst⟩ := hadv.gs
 obtain rfl := hg.one sa_g2
 rw [sa_fold2] at hst
 obtain ⟨a3, c3, X3, wa3, wc3, ca3, cc3, rfl, ho3, hpl3, hbo3, hwo3, hco3, hb3⟩ := hst
 obtain ⟨y1, y2, rfl, hy1, hy2⟩ := plB_pair hpl3
 obtain ⟨g3, cap3, eg, hgB3, hgl3, hg13, hg23, -, hgc3⟩ := own_cells35 ho3 (by simp)
 cases eg
 obtain ⟨V3, hV3⟩ : ∃ V3, V3 = w3.alloc (Obj.cells #[.slice (some ⟨g3, 0, none⟩) 2 c3, .slice wa3 0 wc3, .slice ca3 0 cc3] 37) := ⟨_, rfl⟩
 have hbV3 : Below w3.heap.size w3 V3 := by rw [hV3]; exact (Below.refl _ _).alloc (Nat.le_refl _) _
 have V3N := hZ9 (show V3.heap[w3.heap.size]? = some (Obj.cells #[.slice (some ⟨g3, 0, none⟩) 2 c3, .slice wa3 0 wc3, .slice ca3 0 cc3] 37) by rw [hV3]; exact heap_alloc_new _ _)
 have HF := hZ9 (HbU.out.trans ((hb3.trans (hbV3.mono hb3.size)).mono HbU.out.size))
 have z9 : V3.cell? ⟨g3, 9, none⟩ = some (.int .i64 40) := ((hbV3.cell (p := ⟨g3, 9, none⟩) hgl3).trans (hgc3 9 (by simp))).trans (by show some (Value.int .i64 y1.b.lf) = _; rw [hy1]; rfl)
 have z20 : V3.cell? ⟨g3, 20, none⟩ = some (.int .i64 125) := ((hbV3.cell (p := ⟨g3, 20, none⟩) hgl3).trans (hgc3 20 (by simp))).trans (by show some (Value.int .i64 y2.b.un) = _; rw [hy2]; rfl)
 have z21 : V3.cell? ⟨g3, 21, none⟩ = some (.int .i64 125) := ((hbV3.cell (p := ⟨g3, 21, none⟩) hgl3).trans (hgc3 21 (by simp))).trans (by show some (Value.int .i64 y2.b.lf) = _; rw [hy2]; rfl)
 have HV3 := hZ9 hV3
 clear hadv hg hpl3 hbo3 hwo3 hco3 hb3 hgc3 hgB3 hbV3 ho3 hV3 HA2 d0 d1 d2 k0 k1 k2 k3 k4 k5
 have d0 := cell_of_row V3 _ 0 _ _ _ V3N.out
 have d1 := cell_of_row V3 _ 1 _ _ _ V3N.out
 have d2 := cell_of_row V3 _ 2 _ _ _ V3N.out
 go_upto_region 7 with (fail)
 rw [← HV3.out]
 go_wp2
 go_ret
 exact ⟨rfl, HF.out⟩
theorem carries35_law (x y : BuX) (r : Int) (w : World) (hx : BuRd w x) (hy : BuRd w y) :
 Calls Try.prog 3 #[buVal x, buVal y, .int .i64 r] w fun e w' => e = .returned (.bool true) ∧ Below w.heap.size w w' := by
 obtain ⟨W, hW, r0, r1, hw0, hz⟩ := two_rows2 w (buRow x) (buRow y)
 have hz0 : w.heap.size < W.heap.size := (ltB9 r0)
 have hz1 : w.heap.size + 1 < W.heap.size := (ltB9 r1)
 have HM := hZ9 (show ∀ w', Below W.heap.size W w' → w'.cell? ⟨w.heap.size, 0, none⟩ = some (.int .i64 x.b.ac) ∧ w'.cell? ⟨w.heap.size, 1, none⟩ = some (.int .i64 x.b.sb) ∧ w'.cell? ⟨w.heap.size, 2, none⟩ = some (.string x.b.pr) ∧ w'.cell? ⟨w.heap.size, 3, none⟩ = some (.int .i64 x.b.ix) ∧ w'.cell? ⟨w.heap.size, 4, none⟩ = some (.int .i64 x.b.kd) ∧ w'.cell? ⟨w.heap.size, 5, none⟩ = some (.slice x.za x.zn x.zc) ∧ w'.cell? ⟨w.heap.size, 6, none⟩ = some (.int .i64 x.b.f) ∧ w'.cell? ⟨w.heap.size, 7, none⟩ = some (.int .i64 x.b.t) ∧ w'.cell? ⟨w.heap.size, 8, none⟩ = some (.int .i64 x.b.un) ∧ w'.cell? ⟨w.heap.size, 9, none⟩ = some (.int .i64 x.b.lf) ∧ w'.cell? ⟨w.heap.size, 10, none⟩ = some (.int .i64 x.b.pt) ∧ w'.cell? ⟨w.heap.size, 11, none⟩ = some (.bool x.b.sh) ∧ w'.cell? ⟨w.heap.size + 1, 0, none⟩ = some (.int .i64 y.b.ac) ∧ w'.cell? ⟨w.heap.size + 1, 1, none⟩ = some (.int .i64 y.b.sb) ∧ w'.cell? ⟨w.heap.size + 1, 2, none⟩ = some (.string y.b.pr) ∧ w'.cell? ⟨w.heap.size + 1, 3, none⟩ = some (.int .i64 y.b.ix) ∧ w'.cell? ⟨w.heap.size + 1, 4, none⟩ = some (.int .i64 y.b.kd) ∧ w'.cell? ⟨w.heap.size + 1, 5, none⟩ = some (.slice y.za y.zn y.zc) ∧ w'.cell? ⟨w.heap.size + 1, 6, none⟩ = some (.int .i64 y.b.f) ∧ w'.cell? ⟨w.heap.size + 1, 7, none⟩ = some (.int .i64 y.b.t) ∧ w'.cell? ⟨w.heap.size + 1, 8, none⟩ = some (.int .i64 y.b.un) ∧ w'.cell? ⟨w.heap.size + 1, 9, none⟩ = some (.int .i64 y.b.lf) ∧ w'.cell? ⟨w.heap.size + 1, 10, none⟩ = some (.int .i64 y.b.pt) ∧ w'.cell? ⟨w.heap.size + 1, 11, none⟩ = some (.bool y.b.sh) from fun w' hb => by
  obtain ⟨x0, x1, x2, x3, x4, x5, x6, x7, x8, x9, x10, x11⟩ := bu_cells ((hb.block _ hz0).trans r0)
  obtain ⟨y0, y1, y2, y3, y4, y5, y6, y7, y8, y9, y10, y11⟩ := bu_cells ((hb.block _ hz1).trans r1)
  exact ⟨x0, x1, x2, x3, x4, x5, x6, x7, x8, x9, x10, x11, y0, y1, y2, y3, y4, y5, y6, y7, y8, y9, y10, y11⟩)
 have HX := hZ9 (fun w' (hb : Below W.heap.size W w') => hx.below (hw0.trans (hb.mono hw0.size)))
 have HY := hZ9 (fun w' (hb : Below W.heap.size W w') => hy.below (hw0.trans (hb.mono hw0.size)))
 unfold buRow at hW
 have HW := hZ9 hW
 have Hw0 := hZ9 hw0
 unfold buVal
 obtain ⟨x0, x1, x2, x3, x4, x5, x6, x7, x8, x9, x10, x11, y0, y1, y2, y3, y4, y5, y6, y7, y8, y9, y10, y11⟩ := HM.out W (Below.refl _ _)
 clear hW r0 r1 hw0 hz hz0 hz1 hx hy
 go_enter Try.func3, Try.ntmps3
 go_upto_region 1 with (fail)
 rw [← HW.out]
 by_cases c1 : (6 : Int) < (x.zn : Int)
 · go_wp2_with fail
   refine (alive35_calls W).mono ?_
   rintro e wA ⟨rfl, hbA⟩
   have HbA := hZ9 (Hw0.out.trans (hbA.mono Hw0.out.size))
   clear hbA
   go_wp2
   go_ret
   exact ⟨rfl, HbA.out⟩
 by_cases c2 : (6 : Int) < (y.zn : Int)
 · go_wp2_with fail
   refine (alive35_calls W).mono ?_
   rintro e wA ⟨rfl, hbA⟩
   have HbA := hZ9 (Hw0.out.trans (hbA.mono Hw0.out.size))
   clear hbA
   go_wp2
   go_ret
   exact ⟨rfl, HbA.out⟩
 have HOrd := hZ9 (show (y.b.un < y.b.lf ∧ y.b.lf < x.b.lf) ∨ (y.b.un < y.b.lf ∧ ¬ y.b.lf < x.b.lf) ∨ (¬ y.b.un < y.b.lf ∧ y.b.un < x.b.lf) ∨ (¬ y.b.un < y.b.lf ∧ ¬ y.b.un < x.b.lf) by omega)
 by_cases c3 : (2305843009213693952 : Int) < max (max y.b.un y.b.lf) x.b.lf
 · rcases HOrd.out with ⟨a1, a2⟩ | ⟨a1, a2⟩ | ⟨a1, a2⟩ | ⟨a1, a2⟩
   · have d0 : (2305843009213693952 : Int) < x.b.lf := by omega
     clear c3
     go_wp2_with fail
     refine (alive35_calls W).mono ?_
     rintro e wA ⟨rfl, hbA⟩
     have HbA := hZ9 (Hw0.out.trans (hbA.mono Hw0.out.size))
     clear hbA
     go_wp2
     go_ret
     exact ⟨rfl, HbA.out⟩
   · have d0 : (2305843009213693952 : Int) < y.b.lf := by omega
     clear c3
     go_wp2_with fail
     refine (alive35_calls W).mono ?_
     rintro e wA ⟨rfl, hbA⟩
     have HbA := hZ9 (Hw0.out.trans (hbA.mono Hw0.out.size))
     clear hbA
     go_wp2
     go_ret
     exact ⟨rfl, HbA.out⟩
   · have d0 : (2305843009213693952 : Int) < x.b.lf := by omega
     clear c3
     go_wp2_with fail
     refine (alive35_calls W).mono ?_
     rintro e wA ⟨rfl, hbA⟩
     have HbA := hZ9 (Hw0.out.trans (hbA.mono Hw0.out.size))
     clear hbA
     go_wp2
     go_ret
     exact ⟨rfl, HbA.out⟩
   have d0 : (2305843009213693952 : Int) < y.b.un := by omega
   clear c3
   go_wp2_with fail
   refine (alive35_calls W).mono ?_
   rintro e wA ⟨rfl, hbA⟩
   have HbA := hZ9 (Hw0.out.trans (hbA.mono Hw0.out.size))
   clear hbA
   go_wp2
   go_ret
   exact ⟨rfl, HbA.out⟩
 have Mk := hZ9 (show ∀ w', Below W.heap.size W w' → Below W.heap.size W w' ∧ w'.cell? ⟨w.heap.size, 0, none⟩ = some (.int .i64 x.b.ac) ∧ w'.cell? ⟨w.heap.size, 1, none⟩ = some (.int .i64 x.b.sb) ∧ w'.cell? ⟨w.heap.size, 2, none⟩ = some (.string x.b.pr) ∧ w'.cell? ⟨w.heap.size, 3, none⟩ = some (.int .i64 x.b.ix) ∧ w'.cell? ⟨w.heap.size, 4, none⟩ = some (.int .i64 x.b.kd) ∧ w'.cell? ⟨w.heap.size, 5, none⟩ = some (.slice x.za x.zn x.zc) ∧ w'.cell? ⟨w.heap.size, 6, none⟩ = some (.int .i64 x.b.f) ∧ w'.cell? ⟨w.heap.size, 7, none⟩ = some (.int .i64 x.b.t) ∧ w'.cell? ⟨w.heap.size, 8, none⟩ = some (.int .i64 x.b.un) ∧ w'.cell? ⟨w.heap.size, 9, none⟩ = some (.int .i64 x.b.lf) ∧ w'.cell? ⟨w.heap.size, 10, none⟩ = some (.int .i64 x.b.pt) ∧ w'.cell? ⟨w.heap.size, 11, none⟩ = some (.bool x.b.sh) ∧ w'.cell? ⟨w.heap.size + 1, 0, none⟩ = some (.int .i64 y.b.ac) ∧ w'.cell? ⟨w.heap.size + 1, 1, none⟩ = some (.int .i64 y.b.sb) ∧ w'.cell? ⟨w.heap.size + 1, 2, none⟩ = some (.string y.b.pr) ∧ w'.cell? ⟨w.heap.size + 1, 3, none⟩ = some (.int .i64 y.b.ix) ∧ w'.cell? ⟨w.heap.size + 1, 4, none⟩ = some (.int .i64 y.b.kd) ∧ w'.cell? ⟨w.heap.size + 1, 5, none⟩ = some (.slice y.za y.zn y.zc) ∧ w'.cell? ⟨w.heap.size + 1, 6, none⟩ = some (.int .i64 y.b.f) ∧ w'.cell? ⟨w.heap.size + 1, 7, none⟩ = some (.int .i64 y.b.t) ∧ w'.cell? ⟨w.heap.size + 1, 8, none⟩ = some (.int .i64 y.b.un) ∧ w'.cell? ⟨w.heap.size + 1, 9, none⟩ = some (.int .i64 y.b.lf) ∧ w'.cell? ⟨w.heap.size + 1, 10, none⟩ = some (.int .i64 y.b.pt) ∧ w'.cell? ⟨w.heap.size + 1, 11, none⟩ = some (.bool y.b.sh) from fun w' hb => ⟨hb, HM.out w' hb⟩)
 have d1 : ¬ (2305843009213693952 : Int) < x.b.lf := by omega
 have d2 : ¬ (2305843009213693952 : Int) < y.b.lf := by omega
 have d3 : ¬ (2305843009213693952 : Int) < y.b.un := by omega
 clear c3
 rcases HOrd.out with ⟨a1, a2⟩ | ⟨a1, a2⟩ | ⟨a1, a2⟩ | ⟨a1, a2⟩
 all_goals
  by_cases c4 : (2305843009213693952 : Int) < r
  · go_wp2_with fail
    refine (alive35_calls W).mono ?_
    rintro e wA ⟨rfl, hbA⟩
    have HbA := hZ9 (Hw0.out.trans (hbA.mono Hw0.out.size))
    clear hbA
    go_wp2
    go_ret
    exact ⟨rfl, HbA.out⟩
  go_upto_region 3 with (fail)
  clear c1 c2 c4 d1 d2 d3 a1 a2
  go_region_held3 (fun w' : World => Below W.heap.size W w' ∧ w'.cell? ⟨w.heap.size, 0, none⟩ = some (.int .i64 x.b.ac) ∧ w'.cell? ⟨w.heap.size, 1, none⟩ = some (.int .i64 x.b.sb) ∧ w'.cell? ⟨w.heap.size, 2, none⟩ = some (.string x.b.pr) ∧ w'.cell? ⟨w.heap.size, 3, none⟩ = some (.int .i64 x.b.ix) ∧ w'.cell? ⟨w.heap.size, 4, none⟩ = some (.int .i64 x.b.kd) ∧ w'.cell? ⟨w.heap.size, 5, none⟩ = some (.slice x.za x.zn x.zc) ∧ w'.cell? ⟨w.heap.size, 6, none⟩ = some (.int .i64 x.b.f) ∧ w'.cell? ⟨w.heap.size, 7, none⟩ = some (.int .i64 x.b.t) ∧ w'.cell? ⟨w.heap.size, 8, none⟩ = some (.int .i64 x.b.un) ∧ w'.cell? ⟨w.heap.size, 9, none⟩ = some (.int .i64 x.b.lf) ∧ w'.cell? ⟨w.heap.size, 10, none⟩ = some (.int .i64 x.b.pt) ∧ w'.cell? ⟨w.heap.size, 11, none⟩ = some (.bool x.b.sh) ∧ w'.cell? ⟨w.heap.size + 1, 0, none⟩ = some (.int .i64 y.b.ac) ∧ w'.cell? ⟨w.heap.size + 1, 1, none⟩ = some (.int .i64 y.b.sb) ∧ w'.cell? ⟨w.heap.size + 1, 2, none⟩ = some (.string y.b.pr) ∧ w'.cell? ⟨w.heap.size + 1, 3, none⟩ = some (.int .i64 y.b.ix) ∧ w'.cell? ⟨w.heap.size + 1, 4, none⟩ = some (.int .i64 y.b.kd) ∧ w'.cell? ⟨w.heap.size + 1, 5, none⟩ = some (.slice y.za y.zn y.zc) ∧ w'.cell? ⟨w.heap.size + 1, 6, none⟩ = some (.int .i64 y.b.f) ∧ w'.cell? ⟨w.heap.size + 1, 7, none⟩ = some (.int .i64 y.b.t) ∧ w'.cell? ⟨w.heap.size + 1, 8, none⟩ = some (.int .i64 y.b.un) ∧ w'.cell? ⟨w.heap.size + 1, 9, none⟩ = some (.int .i64 y.b.lf) ∧ w'.cell? ⟨w.heap.size + 1, 10, none⟩ = some (.int .i64 y.b.pt) ∧ w'.cell? ⟨w.heap.size + 1, 11, none⟩ = some (.bool y.b.sh))
   (first
    | exact Mk.out _ (by assumption)
    | exact Mk.out _ (Below.drew (by assumption))
    | exact Mk.out _ (Below.refl _ _)
    | exact Mk.out _ (Below.drew (Below.refl _ _)))
   (first
    | (go_at_call 6
       refine (carry_calls x y r _ (HY.out _ (And.left (by assumption)))).mono ?_
       rintro e w4 ⟨z4, rfl, hz4, ho4, hb4⟩
       have hY4 : Below W.heap.size W w4 := Below.trans (And.left (by assumption)) (hb4.mono (Below.size (And.left (by assumption))))
       clear hb4)
    | (go_at_call 7
       refine (rcarry_calls x y r _ (HY.out _ (And.left (by assumption)))).mono ?_
       rintro e w5 ⟨z5, rfl, hz5, ho5, hb5⟩
       have hr4 := ho4.rd.below hb5
       have hY5 : Below W.heap.size W w5 := Below.trans (And.left (by assumption)) (hb5.mono (Below.size (And.left (by assumption))))
       clear hb5)
    | (go_at_call 5
       refine (sameOne_calls z4 z5 _ hr4 ho5.rd (hz5.trans hz4.symm)).mono ?_
       rintro e w7 ⟨rfl, hb7⟩
       have hY7 : Below W.heap.size W w7 := Below.trans (And.left (by assumption)) (hb7.mono (Below.size (And.left (by assumption))))
       clear hb7)
    | (go_at_call 4
       refine (alive35_calls _).mono ?_
       rintro e w8 ⟨rfl, hb8⟩
       have hY8 : Below W.heap.size W w8 := Below.trans (And.left (by assumption)) (hb8.mono (Below.size (And.left (by assumption))))
       clear hb8))
  have HFin := hZ9 (Hw0.out.trans (hY8.mono Hw0.out.size))
  clear hY8
  go_wp2
  go_ret
  exact ⟨rfl, HFin.out⟩
structure StIn (w : World) (L : List Bu) (WL CL : List I5) (a : Option Addr) (c : Nat) (X : List BuX) (wa : Option Addr) (wc : Nat) (ca : Option Addr) (cc : Nat) : Prop where
 bu : RecAt buCells 12 w (.slice a X.length c) X
 pl : plB X = L
 rd : ∀ x ∈ X, BuRd w x
 wal : RecAt i5Cells 5 w (.slice wa WL.length wc) WL
 cnt : RecAt i5Cells 5 w (.slice ca CL.length cc) CL
theorem StIn.below {w w' : World} {L : List Bu} {WL CL : List I5} {a : Option Addr} {c : Nat} {X : List BuX} {wa : Option Addr} {wc : Nat} {ca : Option Addr} {cc : Nat} (h : StIn w L WL CL a c X wa wc ca cc) (hb : Below w.heap.size w w') : StIn w' L WL CL a c X wa wc ca cc :=
 ⟨h.bu.below hb, h.pl, fun x hx => (h.rd x hx).below hb, h.wal.below hb, h.cnt.below hb⟩
theorem StIn.len {w : World} {L : List Bu} {WL CL : List I5} {a : Option Addr} {c : Nat} {X : List BuX} {wa : Option Addr} {wc : Nat} {ca : Option Addr} {cc : Nat} (h : StIn w L WL CL a c X wa wc ca cc) : X.length = L.length := by rw [← h.pl, plB_len]
def StO (L : List Bu) (WL CL : List I5) (w : World) (e : Ending) (w' : World) : Prop := ∃ (a : Option Addr) (c : Nat) (X : List BuX) (wa : Option Addr) (wc : Nat) (ca : Option Addr) (cc : Nat), e = .returned (.agg #[.slice a X.length c, .slice wa WL.length wc, .slice ca CL.length cc]) ∧ StIn w' L WL CL a c X wa wc ca cc ∧ Below w.heap.size w w'
theorem StTo.o {L : List Bu} {WL CL : List I5} {w w' : World} {e : Ending} (h : StTo L WL CL w e w') : StO L WL CL w e w' := by
 obtain ⟨a, c, X, wa, wc, ca, cc, rfl, h1, h2, h3, h4, h5, h6⟩ := h
 exact ⟨a, c, X, wa, wc, ca, cc, rfl, ⟨RecAt.own (fun _ => rfl) h1, h2, fun x hx => (h3 x hx).rd, RecAt.own (fun _ => rfl) h4, RecAt.own (fun _ => rfl) h5⟩, h6⟩
theorem NearT.mono {l : List Ev} {t u : Int} (h : NearT l u) (htu : t ≤ u) : NearT l t := by
 rcases h with h | h | h
 · exact Or.inl h
 · exact Or.inr (Or.inl (by omega))
 exact Or.inr (Or.inr fun hl => by have := h hl; omega)
section
variable (l : List Ev) (P : List Pd) (ac t : Int) (ve vp : Value) (L : List Bu) (WL CL : List I5) (a wa ca : Option Addr) (c wc cc : Nat) (X : List BuX) (w : World)
end
end Go.Proofs.Ytngippiilgdnoaa
