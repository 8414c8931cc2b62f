/-
  The law on two Advances.
-/
import Derived.Test.YtngippiilgdnoaaGreatMsbs
import Derived.Test.YtngippiilgdnoaaGreatMsbj
set_option maxRecDepth 100000
set_option maxHeartbeats 25600000
namespace Go.Proofs.YtngippiilgdnoaaGreat
open Go.RowKit
theorem sa_ok1 : OkEv (bookOf []) 0 sa1 :=
 ⟨by decide, by decide, by decide, by decide, by decide, fun _ => by decide, fun h => absurd h (by decide), fun h => absurd h (by decide), fun _ => rfl, fun _ => by decide, fun _ => by decide, fun _ h => absurd rfl h, fun h => absurd h (by decide), fun h => absurd h (by decide)⟩
theorem sa_ok2 : OkEv (bookOf [sa1]) 0 sa2 :=
 ⟨by decide, by decide, by decide, by decide, by decide, fun _ => by decide, fun h => absurd h (by decide), fun _ => by decide, fun h => absurd h (by decide), fun h => absurd h (by decide), fun h => absurd h (by decide), fun _ _ => ⟨0, by decide, by decide, by decide⟩, fun _ => by decide, fun h => absurd h (by decide)⟩
theorem sa_ok3 : OkEv (bookOf [sa1, sa2]) 0 sa3 :=
 ⟨by decide, by decide, by decide, by decide, by decide, fun h => absurd h (by decide), fun _ => rfl, fun _ => by decide, fun h => absurd h (by decide), fun h => absurd h (by decide), fun h => absurd h (by decide), fun h => absurd h (by decide), fun h => absurd h (by decide), fun _ => by decide⟩
theorem sa_run : OkRun saL := fun i h => by
 match i, h with
 | 0, _ => exact sa_ok1
 | 1, _ => exact sa_ok2
 | 2, _ => exact sa_ok3
 | i + 3, h => exact absurd (show i + 3 < 3 from h) (by omega)
theorem sa_anchor : anchorL saL 1 = 1 := by decide +kernel
theorem sa_had : HadOk saL 1 [(1, plusT)] := by
 refine ⟨List.pairwise_singleton _ _, fun h => ?_⟩
 rw [List.mem_singleton]
 constructor
 · rintro rfl
   exact ⟨sa3, by simp [saL], rfl, ⟨sa2, by simp [saL], rfl, rfl, rfl⟩, rfl⟩
 rintro ⟨e, he, hk, -, rfl⟩
 have he' : e = sa1 ∨ e = sa2 ∨ e = sa3 := by simpa [saL] using he
 rcases he' with rfl | rfl | rfl
 · exact absurd hk (by decide)
 · exact absurd hk (by decide)
 rfl
theorem sa_act : actL 1 plusT saL = [(777600, 12622780800)] := by decide +kernel
theorem sa_held : heldA saL [(1, plusT)] = [(777600, 12622780800)] := by
 unfold heldA
 rw [List.flatMap_singleton]
 exact sa_act
theorem beg1_0 : beg 1 0 = 0 := by decide
theorem beg1_1 : beg 1 1 = 2678400 := by decide
theorem beg1_2 : beg 1 2 = 5184000 := by decide
theorem sa_mem {x : Int} (h0 : 777600 ≤ x) (h1 : x < 12622780800) : MemP [((777600 : Int), (12622780800 : Int))] x := ⟨_, List.mem_singleton_self _, h0, h1⟩
theorem sa_mo {m x : Int} (h1 : beg 1 m ≤ x) (h2 : x < beg 1 (m + 1)) (h0 : 0 ≤ x) (h3 : x < 5184000) : (m = 0 ∧ x < 2678400) ∨ (m = 1 ∧ 2678400 ≤ x) := by
 rcases Int.lt_trichotomy m 0 with h | h | h
 · have := beg_mono (a := 1) (by decide) (by decide) (show m + 1 ≤ 0 by omega)
   rw [beg1_0] at this
   omega
 · subst h
   rw [show (0 : Int) + 1 = 1 from rfl, beg1_1] at h2
   exact Or.inl ⟨rfl, h2⟩
 rcases Int.lt_trichotomy m 1 with h' | h' | h'
 · omega
 · subst h'
   rw [beg1_1] at h1
   exact Or.inr ⟨rfl, h1⟩
 have := beg_mono (a := 1) (by decide) (by decide) (show 2 ≤ m by omega)
 rw [beg1_2] at this
 omega
theorem cyc1_0 : cyc 1 0 = (0, 2678400) := by decide +kernel
theorem cyc1_1 : cyc 1 1 = (2678400, 5184000) := by decide +kernel
theorem sa_cyc1 : CycsOk 1 [(777600, 12622780800)] 1728000 [(0, 2678400)] := by
 refine ⟨List.pairwise_singleton _ _, fun c => ?_⟩
 rw [List.mem_singleton]
 constructor
 · rintro rfl
   exact ⟨0, by decide, by decide, cyc1_0.symm, 777600, sa_mem (by decide) (by decide), by decide, by decide, by decide, by decide⟩
 rintro ⟨m, -, -, rfl, x, -, h0, hx, h1, h2⟩
 rcases sa_mo h1 h2 h0 (by omega) with ⟨rfl, -⟩ | ⟨-, h⟩
 · exact cyc1_0
 omega
theorem sa_cyc2 : CycsOk 1 [(777600, 12622780800)] 2678400 [(0, 2678400), (2678400, 5184000)] := by
 refine ⟨by simp, fun c => ?_⟩
 constructor
 · intro h
   rcases List.mem_cons.1 h with rfl | h
   · exact ⟨0, by decide, by decide, cyc1_0.symm, 777600, sa_mem (by decide) (by decide), by decide, by decide, by decide, by decide⟩
   obtain rfl := List.mem_singleton.1 h
   exact ⟨1, by decide, by decide, cyc1_1.symm, 2678400, sa_mem (by decide) (by decide), by decide, by decide, by decide, by decide⟩
 rintro ⟨m, -, -, rfl, x, -, h0, hx, h1, h2⟩
 rcases sa_mo h1 h2 h0 (by omega) with ⟨rfl, -⟩ | ⟨rfl, -⟩
 · rw [cyc1_0]; exact List.mem_cons_self
 rw [cyc1_1]; exact List.mem_cons_of_mem _ List.mem_cons_self
def saG (f t un lf : Int) : Bu := ⟨1, 1, plusT, 0, 1, [], f, t, un, lf, 0, false⟩
theorem sa_at (t : Int) (h : 0 ≤ t) : atL saP plusT t = some saX := by
 have hk : keepAt plusT t saX = true := by
  unfold keepAt
  rw [show saX.nm = plusT from rfl, eqS_self, show saX.fm = 0 from rfl, decide_eq_true h]
  rfl
 unfold atL saP
 rw [List.filter_cons, if_pos hk, List.filter_nil]
 rfl
theorem sa_gr (c q : Int × Int) (hq : firstP [(777600, 12622780800)] c = some q) (h0 : 0 ≤ q.1) : grantB saP 1 (1, plusT) [(777600, 12622780800)] c = [(saG q.1 q.2 100 100, 25)] := by
 unfold grantB
 rw [hq]
 show grantsL 1 (1, plusT) q (bsOf (atL saP plusT q.1)) = _
 rw [sa_at _ h0]
 rfl
theorem sa_gr1 : grantB saP 1 (1, plusT) [(777600, 12622780800)] (0, 2678400) = [(saG 777600 2678400 100 100, 25)] := sa_gr _ (777600, 2678400) (by decide +kernel) (by decide)
theorem sa_gr2 : grantB saP 1 (1, plusT) [(777600, 12622780800)] (2678400, 5184000) = [(saG 2678400 5184000 100 100, 25)] := sa_gr _ (2678400, 5184000) (by decide +kernel) (by decide)
theorem sa_on (t : Int) (h0 : 0 ≤ t) (h1 : t < 12622780800) : advOn saL 1 t := ⟨h0, h1, by rw [sa_anchor]; decide⟩
theorem sa_g1 : GsOf saL saP 1 1728000 [(saG 777600 2678400 100 100, 25)] := by
 refine Or.inr ⟨sa_on _ (by decide) (by decide), [(1, plusT)], [(0, 2678400)], sa_had, by rw [sa_anchor, sa_held]; exact sa_cyc1, ?_⟩
 unfold grantsB grantsAt
 rw [List.flatMap_singleton, List.flatMap_singleton]
 show _ = (grantB saP 1 (1, plusT) (actL 1 plusT saL) (0, 2678400)).filter _
 rw [sa_act, sa_gr1]
 rfl
theorem sa_g2 : GsOf saL saP 1 2678400 [(saG 777600 2678400 100 100, 25), (saG 2678400 5184000 100 100, 25)] := by
 refine Or.inr ⟨sa_on _ (by decide) (by decide), [(1, plusT)], [(0, 2678400), (2678400, 5184000)], sa_had, by rw [sa_anchor, sa_held]; exact sa_cyc2, ?_⟩
 unfold grantsB grantsAt
 rw [List.flatMap_cons, List.flatMap_singleton, List.flatMap_singleton, List.flatMap_singleton]
 show _ = (grantB saP 1 (1, plusT) (actL 1 plusT saL) (0, 2678400)).filter _ ++ (grantB saP 1 (1, plusT) (actL 1 plusT saL) (2678400, 5184000)).filter _
 rw [sa_act, sa_gr1, sa_gr2]
 rfl
theorem sa_fold1 : foldG [(saG 777600 2678400 100 100, 25)] [] = [saG 777600 2678400 100 100] := rfl
theorem sa_same (f t un lf f' t' un' lf' : Int) : sameId (saG f t un lf) (saG f' t' un' lf') = decide (f = f') := by
 unfold sameId saG
 simp [sameS_refl]
theorem sa_prec (f t un lf f' t' un' lf' : Int) : precB (saG f t un lf) (saG f' t' un' lf') = decide (t = f') := by
 unfold precB saG
 simp [sameS_refl]
theorem sa_earl (f t un lf f' t' un' lf' : Int) : earlB (saG f t un lf) (saG f' t' un' lf') = decide (f < f') := by
 unfold earlB saG
 simp [sameS_refl]
theorem sa_fold2 : foldG [(saG 777600 2678400 100 100, 25), (saG 2678400 5184000 100 100, 25)] [saG 777600 2678400 100 40] = [saG 777600 2678400 100 40, saG 2678400 5184000 125 125] := by
 have e1 : createB [saG 777600 2678400 100 40] (saG 777600 2678400 100 100, 25) = [saG 777600 2678400 100 40] := by
  unfold createB
  rw [if_pos (by unfold existsB; simp [sa_same])]
 have e2 : bornB [saG 777600 2678400 100 40] (saG 2678400 5184000 100 100, 25) = saG 2678400 5184000 125 125 := by
  unfold bornB
  simp only [List.find?_cons, sa_prec, decide_true]
  unfold carryB
  rw [if_pos (by rw [sa_prec]; decide), show rollN (saG 777600 2678400 100 40) 25 = 25 by decide]
  show (⟨1, 1, plusT, 0, 1, [], 2678400, 5184000, wrap64 (100 + 25), wrap64 (100 + 25), 0, false⟩ : Bu) = _
  rw [show wrap64 (100 + 25) = 125 by unfold wrap64; decide]
  rfl
 show createB (createB _ _) _ = _
 rw [e1]
 unfold createB
 rw [if_neg (by unfold existsB; simp [sa_same]), e2]
 unfold insB insT kT
 simp only [List.takeWhile_cons, sa_earl]
 rfl
theorem sa_fewP : FewP saP := by
 refine ⟨by decide, fun p hp => ?_⟩
 obtain rfl := List.mem_singleton.1 hp
 refine ⟨by decide, fun b hb => ?_⟩
 obtain rfl := List.mem_singleton.1 hb
 decide
theorem sa_advH (t : Int) (h : t < 69120000) : AdvH saL saP 1 t := advH_of sa_run (by decide) (Or.inr (Or.inl h)) (fun e he => by
 have he' : e = sa1 ∨ e = sa2 ∨ e = sa3 := by simpa [saL] using he
 rcases he' with rfl | rfl | rfl <;> (unfold maxLen; decide)) (fun p hp => by
 obtain rfl := List.mem_singleton.1 hp
 decide) (by rw [sa_anchor]; decide) (by omega)
theorem plB_one {X : List BuX} {b : Bu} (h : plB X = [b]) : ∃ x, X = [x] ∧ x.b = b := by
 have hl : X.length = 1 := by rw [← plB_len, h]; rfl
 obtain ⟨x, rfl⟩ := List.length_eq_one_iff.1 hl
 exact ⟨x, rfl, (List.cons.inj h).1⟩
theorem plB_pair {X : List BuX} {a b : Bu} (h : plB X = [a, b]) : ∃ x y, X = [x, y] ∧ x.b = a ∧ y.b = b := by
 have hl : X.length = 2 := by rw [← plB_len, h]; rfl
 match X, hl with
 | [x, y], _ =>
  have h : [x.b, y.b] = [a, b] := h
  injection h with h1 h2
  injection h2 with h2 h3
  exact ⟨x, y, rfl, h1, h2⟩
theorem own_cells35 {w : World} {base : Nat} {e : TypeId} {sz n : Nat} {v : Value} {xs : List Value} (h : w.ownsRow base e sz v n xs) (hn : 0 < n) :
 ∃ g cap, v = .slice (some ⟨g, 0, none⟩) n cap ∧ base ≤ g ∧ g < w.heap.size ∧ n ≤ cap ∧ cap ≤ maxLen ∧ (∀ i, w.frozen? ⟨g, i, none⟩ = false) ∧ ∀ i, i < n * sz → w.cell? ⟨g, i, none⟩ = xs[i]? := by
 obtain ⟨-, h2⟩ := h
 rcases h2 with ⟨-, h0⟩ | ⟨g, cap, cur, rfl, hB, hh, h1, h2, h3, h4⟩
 · omega
 refine ⟨g, cap, rfl, hB, (ltB9 hh), h1, h2, fun i => by simp [World.frozen?, hh], fun i hi => ?_⟩
 rw [← h4, List.getElem?_take_of_lt hi]
 simp only [World.cell?, hh, Option.isSome_none, Bool.false_eq_true, if_false]
 simp
theorem i5_any {w w' : World} {v : Value} (h : RecAt i5Cells 5 w v []) : RecAt i5Cells 5 w' v [] := by
 obtain ⟨a, c, e, h1, h2, -⟩ := h
 exact ⟨a, c, e, h1, h2, fun h => absurd rfl h⟩
theorem strs_any {w w' : World} {v : Value} {L : List ByteArray} (hL : L = []) (h : StrsAt w v L) : StrsAt w' v L := by
 subst hL
 obtain ⟨a, c, e, h1, h2, -⟩ := h
 exact ⟨a, c, e, h1, h2, fun h => absurd rfl h⟩
theorem nil_own {w : World} {base : Nat} {e : TypeId} {v : Value} (h : w.ownsRow base e 5 v 0 []) : RecAt i5Cells 5 w v [] := RecAt.own (l := []) (fun _ => rfl) h
theorem sa_key (f t un lf : Int) (h0 : 0 ≤ f) (h1 : f < 12622780800) : KeyB (saG f t un lf) := by
 refine ⟨by show (Lit.int .i64 1).wf = true; decide, by show plusT.size ≤ maxLen; unfold maxLen; decide, by show (Lit.int .i64 0).wf = true; decide, ?_⟩
 show (Lit.int .i64 f).wf = true
 exact wf64 (by omega) (by omega)
def left40 (x : BuX) : BuX := { x with b := { x.b with lf := 40 } }
theorem alive35_calls (w : World) : Calls Tryz.prog 20 #[] w fun e w' => e = .returned (.bool true) ∧ Below w.heap.size w w' := by
 go_enter Tryz.func20, Tryz.ntmps20
 go_wp2_with fail
 refine (sample35_calls w).mono ?_
 rintro e w1 ⟨ea, pa, ec, pc, rfl, hE, hP, hb1⟩
 obtain ⟨V, hV⟩ : ∃ V, V = w1.alloc (Obj.cells #[.slice ea 3 ec, .slice pa 1 pc, .slice none 0 0, .slice none 0 0, .slice none 0 0, .int .i64 1] 47) := ⟨_, rfl⟩
 have hbV : Below w1.heap.size w1 V := by rw [hV]; exact (Below.refl _ _).alloc (Nat.le_refl _) _
 have VN := hZ9 (show V.heap[w1.heap.size]? = some (Obj.cells #[.slice ea 3 ec, .slice pa 1 pc, .slice none 0 0, .slice none 0 0, .slice none 0 0, .int .i64 1] 47) by rw [hV]; exact heap_alloc_new _ _)
 have HV := hZ9 hV
 have HbV := hZ9 (hb1.trans (hbV.mono hb1.size))
 have HE := hZ9 (hE.below hbV)
 have HP := hZ9 (hP.below hbV)
 have HA1 := hZ9 (show Calls Tryz.prog 22 #[.slice ea 3 ec, .slice pa 1 pc, .agg #[.slice none 0 0, .slice none 0 0, .slice none 0 0], .int .i64 1, .int .i64 1728000] V (AdvTo saL saP 1 1728000 [] [] [] V) from
  padvance_calls saL saP 1 1728000 _ _ [] [] [] none none none 0 0 0 V (hE.below hbV) sa_run (by decide) (hP.below hbV) sa_fewP (RecAt.own (base := 0) (e := 60) (l := []) (fun _ => rfl) (World.ownsRow_nil _ _ _ _)) (fun x hx => by cases hx) (fun x hx => by cases hx) (Nat.zero_le _)
   (nil_own (base := 0) (e := 102) (World.ownsRow_nil _ _ _ _)) (Nat.zero_le _) (nil_own (base := 0) (e := 102) (World.ownsRow_nil _ _ _ _)) (Nat.zero_le _) (sa_advH _ (by decide)))
 clear hV hbV hE hP hb1
 have tQ := fun j => cell_of_row V _ j _ _ _ VN.out
 have k0 := tQ 0
 have k1 := tQ 1
 have k2 := tQ 2
 have k3 := tQ 3
 have k4 := tQ 4
 have k5 := tQ 5
 clear tQ
 go_upto_region 2 with (fail)
 rw [← HV.out]
 go_wp2_with fail
 refine HA1.out.mono ?_
 intro e w2 hadv
 obtain ⟨G, hg, hst⟩ := hadv.gs
 obtain rfl := hg.one sa_g1
 rw [sa_fold1] at hst
 obtain ⟨a, c, X, wa, wc, ca, cc, rfl, ho, hpl, hbo, hwo, hco, hb2⟩ := hst
 obtain ⟨x, rfl, hx⟩ := plB_one hpl
 have hbx := hbo x (List.mem_singleton_self _)
 obtain ⟨b0, c0, e0, hc1, hc2⟩ := own_shape ho
 obtain ⟨g, cap, eg, hgB, hgl, hg1, hg2, hgf, hgc⟩ := own_cells35 ho (by simp)
 cases eg
 clear e0 hadv hg hbo HA1 hpl hc1 hc2 k0 k1 k2 k3 k4 k5
 obtain ⟨V2, hV2⟩ : ∃ V2, V2 = w2.alloc (Obj.cells #[.slice (some ⟨g, 0, none⟩) 1 c, .slice wa 0 wc, .slice ca 0 cc] 45) := ⟨_, rfl⟩
 have hbV2 : Below w2.heap.size w2 V2 := by rw [hV2]; exact (Below.refl _ _).alloc (Nat.le_refl _) _
 have V2N := hZ9 (show V2.heap[w2.heap.size]? = some (Obj.cells #[.slice (some ⟨g, 0, none⟩) 1 c, .slice wa 0 wc, .slice ca 0 cc] 45) by rw [hV2]; exact heap_alloc_new _ _)
 have HV2 := hZ9 hV2
 have hb22 : Below V.heap.size V V2 := hb2.trans (hbV2.mono hb2.size)
 have ho2 := ownsRow_below ho hbV2
 have x6 : V2.cell? ⟨g, 6, none⟩ = some (.int .i64 777600) := ((hbV2.cell (p := ⟨g, 6, none⟩) hgl).trans (hgc 6 (by simp))).trans (by show some (Value.int .i64 x.b.f) = _; rw [hx]; rfl)
 have x7 : V2.cell? ⟨g, 7, none⟩ = some (.int .i64 2678400) := ((hbV2.cell (p := ⟨g, 7, none⟩) hgl).trans (hgc 7 (by simp))).trans (by show some (Value.int .i64 x.b.t) = _; rw [hx]; rfl)
 have x9 : V2.cell? ⟨g, 9, none⟩ = some (.int .i64 100) := ((hbV2.cell (p := ⟨g, 9, none⟩) hgl).trans (hgc 9 (by simp))).trans (by show some (Value.int .i64 x.b.lf) = _; rw [hx]; rfl)
 have f9 : V2.frozen? ⟨g, 9, none⟩ = false := (hbV2.frozen (p := ⟨g, 9, none⟩) hgl).trans (hgf 9)
 obtain ⟨U, hU⟩ : ∃ U, U = V2.setCell ⟨g, 9, none⟩ (.int .i64 40) := ⟨_, rfl⟩
 have hoU : U.ownsRow V.heap.size 60 12 (.slice (some ⟨g, 0, none⟩) 1 c) 1 ([left40 x].flatMap buCells) := by rw [hU]; exact (ho2.stored 9 (.int .i64 40)).1
 have hbU : Below V.heap.size V U := hb22.trans (by rw [hU]; exact ⟨rfl, rfl, rfl, by simp, fun k hk => Below.heap_setCell _ _ _ _ (by show k ≠ g; omega)⟩)
 have UN := hZ9 (show U.heap[w2.heap.size]? = some (Obj.cells #[.slice (some ⟨g, 0, none⟩) 1 c, .slice wa 0 wc, .slice ca 0 cc] 45) by rw [hU, Below.heap_setCell _ _ _ _ (by show w2.heap.size ≠ g; omega)]; exact V2N.out)
 have UC := hZ9 ((hbU.block _ (ltB9 VN.out)).trans VN.out)
 have hrU : BuRd U (left40 x) := ⟨strs_any (by show x.b.zs = []; rw [hx]; rfl) (hbx.rd).z, hbx.p, hbx.len⟩
 have hpU : plB [left40 x] = [saG 777600 2678400 100 40] := by show [({ x.b with lf := 40 } : Bu)] = _; rw [hx]; rfl
 have hkU : ∀ y ∈ [left40 x], KeyB y.b := fun y hy => by
  obtain rfl := List.mem_singleton.1 hy
  have e : (left40 x).b = saG 777600 2678400 100 40 := (List.cons.inj hpU).1
  rw [e]
  exact sa_key _ _ _ _ (by decide) (by decide)
 have HA2 := hZ9 (show Calls Tryz.prog 22 #[.slice ea 3 ec, .slice pa 1 pc, .agg #[.slice (some ⟨g, 0, none⟩) 1 c, .slice wa 0 wc, .slice ca 0 cc], .int .i64 1, .int .i64 2678400] U (AdvTo saL saP 1 2678400 (plB [left40 x]) [] [] U) from
  padvance_calls saL saP 1 2678400 _ _ [left40 x] [] [] (some ⟨g, 0, none⟩) wa ca c wc cc U (HE.out.below hbU) sa_run (by decide) (HP.out.below hbU) sa_fewP (RecAt.own (fun _ => rfl) hoU) (fun y hy => by obtain rfl := List.mem_singleton.1 hy; exact hrU) hkU (by simp)
   (i5_any (nil_own hwo)) (Nat.zero_le _) (i5_any (nil_own hco)) (Nat.zero_le _) (sa_advH _ (by decide)))
 rw [hpU] at HA2
 have HU := hZ9 hU
 have HbU := hZ9 (HbV.out.trans (hbU.mono HbV.out.size))
 clear hV2 hb22 ho2 hU hoU hbU hrU hpU hkU ho hwo hco hb2 hbx hgc hgf hgB hg1 hg2 hbV2
 have d0 := cell_of_row V2 _ 0 _ _ _ V2N.out
 have d1 := cell_of_row V2 _ 1 _ _ _ V2N.out
 have d2 := cell_of_row V2 _ 2 _ _ _ V2N.out
 go_upto_region 3 with (fail)
 rw [← HV2.out]
 go_upto_region 6 with (fail)
 rw [← HU.out]
 clear x6 x7 x9 f9 d0 d1 d2
 have d0 := cell_of_row U _ 0 _ _ _ UN.out
 have d1 := cell_of_row U _ 1 _ _ _ UN.out
 have d2 := cell_of_row U _ 2 _ _ _ UN.out
 have tQ := fun j => cell_of_row U _ j _ _ _ UC.out
 have k0 := tQ 0
 have k1 := tQ 1
 have k2 := tQ 2
 have k3 := tQ 3
 have k4 := tQ 4
 have k5 := tQ 5
 clear tQ
 go_wp2_with fail
 refine HA2.out.mono ?_
 intro e w3 hadv
 obtain ⟨G, hg, hst⟩ := hadv.gs
 obtain rfl := hg.one sa_g2
 rw [sa_fold2] at hst
 obtain ⟨a3, c3, X3, wa3, wc3, ca3, cc3, rfl, ho3, hpl3, hbo3, hwo3, hco3, hb3⟩ := hst
 obtain ⟨y1, y2, rfl, hy1, hy2⟩ := plB_pair hpl3
 obtain ⟨g3, cap3, eg, hgB3, hgl3, hg13, hg23, -, hgc3⟩ := own_cells35 ho3 (by simp)
 cases eg
 obtain ⟨V3, hV3⟩ : ∃ V3, V3 = w3.alloc (Obj.cells #[.slice (some ⟨g3, 0, none⟩) 2 c3, .slice wa3 0 wc3, .slice ca3 0 cc3] 45) := ⟨_, rfl⟩
 have hbV3 : Below w3.heap.size w3 V3 := by rw [hV3]; exact (Below.refl _ _).alloc (Nat.le_refl _) _
 have V3N := hZ9 (show V3.heap[w3.heap.size]? = some (Obj.cells #[.slice (some ⟨g3, 0, none⟩) 2 c3, .slice wa3 0 wc3, .slice ca3 0 cc3] 45) by rw [hV3]; exact heap_alloc_new _ _)
 have HF := hZ9 (HbU.out.trans ((hb3.trans (hbV3.mono hb3.size)).mono HbU.out.size))
 have z9 : V3.cell? ⟨g3, 9, none⟩ = some (.int .i64 40) := ((hbV3.cell (p := ⟨g3, 9, none⟩) hgl3).trans (hgc3 9 (by simp))).trans (by show some (Value.int .i64 y1.b.lf) = _; rw [hy1]; rfl)
 have z20 : V3.cell? ⟨g3, 20, none⟩ = some (.int .i64 125) := ((hbV3.cell (p := ⟨g3, 20, none⟩) hgl3).trans (hgc3 20 (by simp))).trans (by show some (Value.int .i64 y2.b.un) = _; rw [hy2]; rfl)
 have z21 : V3.cell? ⟨g3, 21, none⟩ = some (.int .i64 125) := ((hbV3.cell (p := ⟨g3, 21, none⟩) hgl3).trans (hgc3 21 (by simp))).trans (by show some (Value.int .i64 y2.b.lf) = _; rw [hy2]; rfl)
 have HV3 := hZ9 hV3
 clear hadv hg hpl3 hbo3 hwo3 hco3 hb3 hgc3 hgB3 hbV3 ho3 hV3 HA2 d0 d1 d2 k0 k1 k2 k3 k4 k5
 have d0 := cell_of_row V3 _ 0 _ _ _ V3N.out
 have d1 := cell_of_row V3 _ 1 _ _ _ V3N.out
 have d2 := cell_of_row V3 _ 2 _ _ _ V3N.out
 go_upto_region 7 with (fail)
 rw [← HV3.out]
 go_wp2
 go_ret
 exact ⟨rfl, HF.out⟩
theorem else35_law (l : List Ev) (P : List Pd) (L : List Bu) (WL CL : List I5) (ea pa ba wa ca : Option Addr) (en pn ec pc bc wc cc : Nat) (X : List BuX) (ac : Int) (t : Int) (ht1 : -9223372036854775808 ≤ t) (ht2 : t ≤ 9223372036854775807) (w : World) (he : EvsAt w (.slice ea en ec) l) (hp : PdsAt w (.slice pa pn pc) P) (hs : StIn w L WL CL ba bc X wa wc ca cc) (hk : ∀ b ∈ L, KeyB b) :
 Calls Tryz.prog 9 #[.agg #[.slice ea en ec, .slice pa pn pc, .slice ba X.length bc, .slice wa WL.length wc, .slice ca CL.length cc, .int .i64 ac], .int .i64 t] w fun e w' => e = .returned (.bool true) ∧ Below w.heap.size w w' := by
 obtain ⟨W, hW⟩ : ∃ W, W = w.alloc (Obj.cells #[.slice ea en ec, .slice pa pn pc, .slice ba X.length bc, .slice wa WL.length wc, .slice ca CL.length cc, .int .i64 ac] 47) := ⟨_, rfl⟩
 have hw0 : Below w.heap.size w W := by rw [hW]; exact (Below.refl _ _).alloc (Nat.le_refl _) _
 have rW : W.heap[w.heap.size]? = some (Obj.cells #[.slice ea en ec, .slice pa pn pc, .slice ba X.length bc, .slice wa WL.length wc, .slice ca CL.length cc, .int .i64 ac] 47) := by rw [hW]; exact heap_alloc_new _ _
 have hzW : w.heap.size < W.heap.size := (ltB9 rW)
 have HM := hZ9 (show ∀ w', Below W.heap.size W w' → w'.cell? ⟨w.heap.size, 0, none⟩ = some (.slice ea en ec) ∧ w'.cell? ⟨w.heap.size, 1, none⟩ = some (.slice pa pn pc) ∧ w'.cell? ⟨w.heap.size, 2, none⟩ = some (.slice ba X.length bc) ∧ w'.cell? ⟨w.heap.size, 3, none⟩ = some (.slice wa WL.length wc) ∧ w'.cell? ⟨w.heap.size, 4, none⟩ = some (.slice ca CL.length cc) ∧ w'.cell? ⟨w.heap.size, 5, none⟩ = some (.int .i64 ac) from fun w' hb => by
  have q := (hb.block _ hzW).trans rW
  exact ⟨cell_of_row w' _ 0 _ _ _ q, cell_of_row w' _ 1 _ _ _ q, cell_of_row w' _ 2 _ _ _ q, cell_of_row w' _ 3 _ _ _ q, cell_of_row w' _ 4 _ _ _ q, cell_of_row w' _ 5 _ _ _ q⟩)
 have HW := hZ9 hW
 have Hw0 := hZ9 hw0
 have HE := hZ9 (fun w' (hb : Below W.heap.size W w') => he.below (hw0.trans (hb.mono hw0.size)))
 have HP := hZ9 (fun w' (hb : Below W.heap.size W w') => hp.below (hw0.trans (hb.mono hw0.size)))
 have HS := hZ9 (fun w' (hb : Below W.heap.size W w') => hs.below (hw0.trans (hb.mono hw0.size)))
 have Hk := hZ9 hk
 have HLn := hZ9 hs.len
 have hbn : X.length ≤ maxLen := by obtain ⟨_, _, e, q1, q2⟩ := rec_shape hs.bu; cases e; omega
 have hwn : WL.length ≤ maxLen := by obtain ⟨_, _, e, q1, q2⟩ := rec_shape hs.wal; cases e; omega
 have hcn : CL.length ≤ maxLen := by obtain ⟨_, _, e, q1, q2⟩ := rec_shape hs.cnt; cases e; omega
 have HV := hZ9 (valid35_calls ea pa ba wa ca en pn X.length WL.length CL.length ec pc bc wc cc ac t l P W (HE.out W (Below.refl _ _)) (HP.out W (Below.refl _ _)) hbn hwn hcn ht1 ht2)
 have Ht1 := hZ9 ht1
 have Ht2 := hZ9 ht2
 obtain ⟨m0, m1, m2, m3, m4, m5⟩ := HM.out W (Below.refl _ _)
 clear hW rW hw0 he hp hs hk hbn hwn hcn hzW
 go_enter Tryz.func9, Tryz.ntmps9
 go_upto_region 1 with (fail)
 rw [← HW.out]
 go_wp2_with fail
 refine HV.out.mono ?_
 rintro e w1 ⟨⟨b, rfl, hv⟩, hb1⟩
 have HbW := hZ9 hb1
 have Hb1 := hZ9 (Hw0.out.trans (hb1.mono Hw0.out.size))
 have Hv := hZ9 hv
 clear m0 m1 m2 m3 m4 m5 hb1 hv
 obtain ⟨m0, m1, m2, m3, m4, m5⟩ := HM.out w1 HbW.out
 cases b with
 | false =>
  clear m0 m1 m2 m3 m4 m5
  go_wp2_with fail
  refine (alive35_calls w1).mono ?_
  rintro e wA ⟨rfl, hbA⟩
  have HbA := hZ9 (Hb1.out.trans (hbA.mono Hb1.out.size))
  clear hbA
  go_wp2
  go_ret
  exact ⟨rfl, HbA.out⟩
 | true =>
  have HC := hZ9 (Hv.out rfl)
  have HOr := hZ9 (ordered_calls _ X w1 (HS.out w1 HbW.out).bu)
  rw [(HS.out w1 HbW.out).pl] at HOr
  have HL60 := hZ9 (show L.length ≤ 60 by rw [← HLn.out]; exact HC.out.bl)
  have HwL := hZ9 (show WL.length ≤ 1000 from Nat.le_trans HC.out.wl (by decide))
  have HcL := hZ9 (show CL.length ≤ 1000 from Nat.le_trans HC.out.cl (by decide))
  clear HV Hv
  go_wp2_with fail
  refine HOr.out.mono ?_
  rintro e w2 ⟨⟨b, rfl, ho⟩, hb2⟩
  have HbW2 := hZ9 (HbW.out.trans (hb2.mono HbW.out.size))
  have Hb2 := hZ9 (Hb1.out.trans (hb2.mono Hb1.out.size))
  have Ho := hZ9 ho
  clear m0 m1 m2 m3 m4 m5 hb2 ho HOr
  cases b with
  | false =>
   go_wp2_with fail
   refine (alive35_calls w2).mono ?_
   rintro e wA ⟨rfl, hbA⟩
   have HbA := hZ9 (Hb2.out.trans (hbA.mono Hb2.out.size))
   clear hbA
   go_wp2
   go_ret
   exact ⟨rfl, HbA.out⟩
  | true =>
   have HO := hZ9 (Ho.out.1 rfl)
   obtain ⟨m0, m1, m2, m3, m4, m5⟩ := HM.out w2 HbW2.out
   have Mk := hZ9 (show ∀ w', Below w2.heap.size w2 w' → Below w2.heap.size w2 w' ∧ w'.cell? ⟨w.heap.size, 0, none⟩ = some (.slice ea en ec) ∧ w'.cell? ⟨w.heap.size, 1, none⟩ = some (.slice pa pn pc) ∧ w'.cell? ⟨w.heap.size, 2, none⟩ = some (.slice ba X.length bc) ∧ w'.cell? ⟨w.heap.size, 3, none⟩ = some (.slice wa WL.length wc) ∧ w'.cell? ⟨w.heap.size, 4, none⟩ = some (.slice ca CL.length cc) ∧ w'.cell? ⟨w.heap.size, 5, none⟩ = some (.int .i64 ac) from fun w' hb => ⟨hb, HM.out w' (HbW2.out.trans (hb.mono HbW2.out.size))⟩)
   have HIn := hZ9 (fun w' (hb : Below w2.heap.size w2 w') => HbW2.out.trans (hb.mono HbW2.out.size))
   clear Ho
   have HAdv := hZ9 (padv_calls l P ac t _ _ L WL CL ba wa ca bc wc cc X w2 HC.out.c HC.out.near (by have := Ht2.out; omega) (HE.out w2 HbW2.out) (HP.out w2 HbW2.out) (HS.out w2 HbW2.out) Hk.out (by have := HL60.out; omega) HwL.out HcL.out)
   go_wp2_with fail
   refine HAdv.out.mono ?_
   rintro e w3 ⟨G, hg, a3, c3, X3, wa3, wc3, ca3, cc3, rfl, hs3, hb3⟩
   obtain ⟨V, hV⟩ : ∃ V, V = w3.alloc (Obj.cells #[.slice a3 X3.length c3, .slice wa3 WL.length wc3, .slice ca3 CL.length cc3] 45) := ⟨_, rfl⟩
   have hbV : Below w3.heap.size w3 V := by rw [hV]; exact (Below.refl _ _).alloc (Nat.le_refl _) _
   have VN := hZ9 (show V.heap[w3.heap.size]? = some (Obj.cells #[.slice a3 X3.length c3, .slice wa3 WL.length wc3, .slice ca3 CL.length cc3] 45) by rw [hV]; exact heap_alloc_new _ _)
   have HV := hZ9 hV
   have HG := hZ9 hg
   have HS3 := hZ9 hs3
   have HbV3 := hZ9 hbV
   have HbV := hZ9 (HbW2.out.trans ((hb3.trans (hbV.mono hb3.size)).mono HbW2.out.size))
   have Hle3 := hZ9 (show W.heap.size ≤ w3.heap.size from Nat.le_trans HbW2.out.size hb3.size)
   clear hV hg hs3 hbV hb3 HAdv Mk HIn m0 m1 m2 m3 m4 m5
   obtain ⟨m0, m1, m2, m3, m4, m5⟩ := HM.out V HbV.out
   have e0 := cell_of_row V _ 0 _ _ _ VN.out
   have e1 := cell_of_row V _ 1 _ _ _ VN.out
   have e2 := cell_of_row V _ 2 _ _ _ VN.out
   go_upto_region 4 with (fail)
   rw [← HV.out]
   cases hoo : openE l ac with
   | none =>
    have HOp := hZ9 (opened_calls _ l ac V (HE.out V HbV.out))
    rw [hoo] at HOp
    have HOff := hZ9 (show G = [] from by
     rcases HG.out with ⟨-, h⟩ | ⟨h, -⟩
     · exact h
     have h3 := h.2.2
     unfold anchorL at h3
     rw [hoo] at h3
     exact absurd h3 (by decide))
    clear hoo
    go_wp2_with fail
    refine HOp.out.mono ?_
    rintro e w4 ⟨rfl, hb4⟩
    dsimp only
    generalize (none : Option Ev).getD default = d at *
    unfold evVal
    obtain ⟨V2, hV2⟩ : ∃ V2, V2 = w4.alloc (Obj.cells #[.int .i64 d.tm, .int .i64 d.kd, .int .i64 d.ac, .int .i64 d.sb, .string d.nu, .string d.nm, .int .i64 d.vl] 55) := ⟨_, rfl⟩
    have hbV2 : Below w4.heap.size w4 V2 := by rw [hV2]; exact (Below.refl _ _).alloc (Nat.le_refl _) _
    have HV2 := hZ9 hV2
    have HbV2 := hZ9 (hb4.trans (hbV2.mono hb4.size))
    clear hV2 hbV2 hb4 m0 m1 m2 m3 m4 m5 e0 e1 e2
    obtain ⟨m0, m1, m2, m3, m4, m5⟩ := HM.out V2 (HbV.out.trans (HbV2.out.mono HbV.out.size))
    have VN2 := hZ9 ((HbV2.out.block _ (ltB9 VN.out)).trans VN.out)
    have e0 := cell_of_row V2 _ 0 _ _ _ VN2.out
    have e1 := cell_of_row V2 _ 1 _ _ _ VN2.out
    have e2 := cell_of_row V2 _ 2 _ _ _ VN2.out
    go_upto_region 5 with (fail)
    rw [← HV2.out]
    have hoff : foldG G L = L := by rw [HOff.out]; rfl
    go_wp2_with fail
    refine (st_same (show StIn V2 L WL CL a3 c3 X3 wa3 wc3 ca3 cc3 by have h := HS3.out.below (HbV3.out.trans (HbV2.out.mono HbV3.out.size)); rw [hoff] at h; exact h) (HS.out V2 (HbV.out.trans (HbV2.out.mono HbV.out.size)))).mono ?_
    rintro e w5 ⟨rfl, hb5⟩
    have HbF := hZ9 (Hw0.out.trans (((HbV.out.trans (HbV2.out.mono HbV.out.size)).trans (hb5.mono (HbV.out.trans (HbV2.out.mono HbV.out.size)).size)).mono Hw0.out.size))
    clear hb5 m0 m1 m2 m3 m4 m5 e0 e1 e2
    go_wp2_with fail
    refine (alive35_calls w5).mono ?_
    rintro e wA ⟨rfl, hbA⟩
    have HbA := hZ9 (HbF.out.trans (hbA.mono HbF.out.size))
    clear hbA
    go_wp2
    go_ret
    exact ⟨rfl, HbA.out⟩
   | some o =>
    have HOp := hZ9 (opened_calls _ l ac V (HE.out V HbV.out))
    rw [hoo] at HOp
    have HIns := hZ9 (fun w1 => instant_calls t w1)
    have hd : (some o).getD default = o := rfl
    go_wp2_with fail
    refine HOp.out.mono ?_
    rintro e w4 ⟨rfl, hb4⟩
    dsimp only
    rw [hd, show (some o).isSome = true from rfl]
    clear hd
    generalize o = d at *
    unfold evVal
    obtain ⟨V2, hV2⟩ : ∃ V2, V2 = w4.alloc (Obj.cells #[.int .i64 d.tm, .int .i64 d.kd, .int .i64 d.ac, .int .i64 d.sb, .string d.nu, .string d.nm, .int .i64 d.vl] 55) := ⟨_, rfl⟩
    have hbV2 : Below w4.heap.size w4 V2 := by rw [hV2]; exact (Below.refl _ _).alloc (Nat.le_refl _) _
    have HV2 := hZ9 hV2
    have HbV2 := hZ9 (hb4.trans (hbV2.mono hb4.size))
    clear hV2 hbV2 hb4 m0 m1 m2 m3 m4 m5 e0 e1 e2
    obtain ⟨m0, m1, m2, m3, m4, m5⟩ := HM.out V2 (HbV.out.trans (HbV2.out.mono HbV.out.size))
    have VN2 := hZ9 ((HbV2.out.block _ (ltB9 VN.out)).trans VN.out)
    have e0 := cell_of_row V2 _ 0 _ _ _ VN2.out
    have e1 := cell_of_row V2 _ 1 _ _ _ VN2.out
    have e2 := cell_of_row V2 _ 2 _ _ _ VN2.out
    go_upto_region 5 with (fail)
    rw [← HV2.out]
    by_cases hti : 0 ≤ t ∧ t < 12622780800
    · rw [show (decide (0 ≤ t) && decide (t < 12622780800)) = true by rw [Bool.and_eq_true, decide_eq_true_eq, decide_eq_true_eq]; exact hti] at HIns
      clear hti hoo
      obtain ⟨U, hU⟩ : ∃ U, U = V2.setCell ⟨w3.heap.size, 0, none⟩ (.slice ba X.length bc) := ⟨_, rfl⟩
      have hb3U : Below w3.heap.size w3 U := (HbV3.out.trans (HbV2.out.mono HbV3.out.size)).trans (by rw [hU]; exact ⟨rfl, rfl, rfl, by simp, fun k hk => Below.heap_setCell _ _ _ _ (by show k ≠ w3.heap.size; omega)⟩)
      have hbWU : Below W.heap.size W U := (HbV.out.trans (HbV2.out.mono HbV.out.size)).trans (by rw [hU]; exact ⟨rfl, rfl, rfl, by simp, fun k hk => Below.heap_setCell _ _ _ _ (by show k ≠ w3.heap.size; have := Hle3.out; omega)⟩)
      have UN := hZ9 (show U.heap[w3.heap.size]? = some (Obj.cells #[.slice ba X.length bc, .slice wa3 WL.length wc3, .slice ca3 CL.length cc3] 45) by rw [hU]; exact row_set _ ((HbV2.out.block _ (ltB9 VN.out)).trans VN.out))
      have hsU := HS.out U hbWU
      have hs3U := HS3.out.below hb3U
      have HSame := hZ9 (st_same (show StIn U L WL CL ba bc X wa3 wc3 ca3 cc3 from ⟨hsU.bu, hsU.pl, hsU.rd, hs3U.wal, hs3U.cnt⟩) hsU)
      have HbU := hZ9 hbWU
      have HU := hZ9 hU
      clear hU hb3U hbWU hsU hs3U
      go_wp2_with fail
      refine (HIns.out V2).mono ?_
      rintro e w9 ⟨rfl, hb9⟩
      subst hb9
      dsimp only
      have ef := frozen_of_row V2 _ 0 _ _ VN2.out
      go_upto_region 8 with (fail)
      rw [← HU.out]
      clear m0 m1 m2 m3 m4 m5 e0 e1 e2 ef
      obtain ⟨m0, m1, m2, m3, m4, m5⟩ := HM.out U HbU.out
      have e0 := cell_of_row U _ 0 _ _ _ UN.out
      have e1 := cell_of_row U _ 1 _ _ _ UN.out
      have e2 := cell_of_row U _ 2 _ _ _ UN.out
      go_wp2_with fail
      refine HSame.out.mono ?_
      rintro e w5 ⟨rfl, hb5⟩
      have HbF := hZ9 (Hw0.out.trans ((HbU.out.trans (hb5.mono HbU.out.size)).mono Hw0.out.size))
      clear hb5 m0 m1 m2 m3 m4 m5 e0 e1 e2
      go_wp2_with fail
      refine (alive35_calls w5).mono ?_
      rintro e wA ⟨rfl, hbA⟩
      have HbA := hZ9 (HbF.out.trans (hbA.mono HbF.out.size))
      clear hbA
      go_wp2
      go_ret
      exact ⟨rfl, HbA.out⟩
    have HOff := hZ9 (show G = [] from by
     rcases HG.out with ⟨-, h⟩ | ⟨h, -⟩
     · exact h
     exact absurd ⟨h.1, h.2.1⟩ hti)
    rw [show (decide (0 ≤ t) && decide (t < 12622780800)) = false by rw [← Bool.not_eq_true, Bool.and_eq_true, decide_eq_true_eq, decide_eq_true_eq]; exact hti] at HIns
    clear hti hoo
    go_wp2_with fail
    refine (HIns.out V2).mono ?_
    rintro e w9 ⟨rfl, hb9⟩
    subst hb9
    dsimp only
    have hoff : foldG G L = L := by rw [HOff.out]; rfl
    go_wp2_with fail
    refine (st_same (show StIn V2 L WL CL a3 c3 X3 wa3 wc3 ca3 cc3 by have h := HS3.out.below (HbV3.out.trans (HbV2.out.mono HbV3.out.size)); rw [hoff] at h; exact h) (HS.out V2 (HbV.out.trans (HbV2.out.mono HbV.out.size)))).mono ?_
    rintro e w5 ⟨rfl, hb5⟩
    have HbF := hZ9 (Hw0.out.trans (((HbV.out.trans (HbV2.out.mono HbV.out.size)).trans (hb5.mono (HbV.out.trans (HbV2.out.mono HbV.out.size)).size)).mono Hw0.out.size))
    clear hb5 m0 m1 m2 m3 m4 m5 e0 e1 e2
    go_wp2_with fail
    refine (alive35_calls w5).mono ?_
    rintro e wA ⟨rfl, hbA⟩
    have HbA := hZ9 (HbF.out.trans (hbA.mono HbF.out.size))
    clear hbA
    go_wp2
    go_ret
    exact ⟨rfl, HbA.out⟩
theorem advance35_law (l : List Ev) (P : List Pd) (L : List Bu) (WL CL : List I5) (ea pa ba wa ca : Option Addr) (en pn ec pc bc wc cc : Nat) (X : List BuX) (ac : Int) (t u : Int) (ht1 : -9223372036854775808 ≤ t) (hu1 : -9223372036854775808 ≤ u) (hu2 : u ≤ 9223372036854775807) (w : World) (he : EvsAt w (.slice ea en ec) l) (hp : PdsAt w (.slice pa pn pc) P) (hs : StIn w L WL CL ba bc X wa wc ca cc) (hk : ∀ b ∈ L, KeyB b) :
 Calls Tryz.prog 6 #[.agg #[.slice ea en ec, .slice pa pn pc, .slice ba X.length bc, .slice wa WL.length wc, .slice ca CL.length cc, .int .i64 ac], .int .i64 t, .int .i64 u] w fun e w' => e = .returned (.bool true) ∧ Below w.heap.size w w' := by
 obtain ⟨W, hW⟩ : ∃ W, W = w.alloc (Obj.cells #[.slice ea en ec, .slice pa pn pc, .slice ba X.length bc, .slice wa WL.length wc, .slice ca CL.length cc, .int .i64 ac] 47) := ⟨_, rfl⟩
 have hw0 : Below w.heap.size w W := by rw [hW]; exact (Below.refl _ _).alloc (Nat.le_refl _) _
 have rW : W.heap[w.heap.size]? = some (Obj.cells #[.slice ea en ec, .slice pa pn pc, .slice ba X.length bc, .slice wa WL.length wc, .slice ca CL.length cc, .int .i64 ac] 47) := by rw [hW]; exact heap_alloc_new _ _
 have hzW : w.heap.size < W.heap.size := (ltB9 rW)
 have HM := hZ9 (show ∀ w', Below W.heap.size W w' → w'.cell? ⟨w.heap.size, 0, none⟩ = some (.slice ea en ec) ∧ w'.cell? ⟨w.heap.size, 1, none⟩ = some (.slice pa pn pc) ∧ w'.cell? ⟨w.heap.size, 2, none⟩ = some (.slice ba X.length bc) ∧ w'.cell? ⟨w.heap.size, 3, none⟩ = some (.slice wa WL.length wc) ∧ w'.cell? ⟨w.heap.size, 4, none⟩ = some (.slice ca CL.length cc) ∧ w'.cell? ⟨w.heap.size, 5, none⟩ = some (.int .i64 ac) from fun w' hb => by
  have q := (hb.block _ hzW).trans rW
  exact ⟨cell_of_row w' _ 0 _ _ _ q, cell_of_row w' _ 1 _ _ _ q, cell_of_row w' _ 2 _ _ _ q, cell_of_row w' _ 3 _ _ _ q, cell_of_row w' _ 4 _ _ _ q, cell_of_row w' _ 5 _ _ _ q⟩)
 have HW := hZ9 hW
 have Hw0 := hZ9 hw0
 have HE := hZ9 (fun w' (hb : Below W.heap.size W w') => he.below (hw0.trans (hb.mono hw0.size)))
 have HP := hZ9 (fun w' (hb : Below W.heap.size W w') => hp.below (hw0.trans (hb.mono hw0.size)))
 have HS := hZ9 (fun w' (hb : Below W.heap.size W w') => hs.below (hw0.trans (hb.mono hw0.size)))
 have Hk := hZ9 hk
 have HLn := hZ9 hs.len
 have hbn : X.length ≤ maxLen := by obtain ⟨_, _, e, q1, q2⟩ := rec_shape hs.bu; cases e; omega
 have hwn : WL.length ≤ maxLen := by obtain ⟨_, _, e, q1, q2⟩ := rec_shape hs.wal; cases e; omega
 have hcn : CL.length ≤ maxLen := by obtain ⟨_, _, e, q1, q2⟩ := rec_shape hs.cnt; cases e; omega
 have HV := hZ9 (valid35_calls ea pa ba wa ca en pn X.length WL.length CL.length ec pc bc wc cc ac u l P W (HE.out W (Below.refl _ _)) (HP.out W (Below.refl _ _)) hbn hwn hcn hu1 hu2)
 have Ht1 := hZ9 ht1
 have Ht2 := hZ9 hu2
 obtain ⟨m0, m1, m2, m3, m4, m5⟩ := HM.out W (Below.refl _ _)
 clear hW rW hw0 he hp hs hk hbn hwn hcn hzW
 go_enter Tryz.func6, Tryz.ntmps6
 go_upto_region 1 with (fail)
 rw [← HW.out]
 by_cases htu : u < t
 · clear HV
   go_wp2_with fail
   refine (alive35_calls W).mono ?_
   rintro e wA ⟨rfl, hbA⟩
   have HbA := hZ9 (Hw0.out.trans (hbA.mono Hw0.out.size))
   clear hbA
   go_wp2
   go_ret
   exact ⟨rfl, HbA.out⟩
 have HLe := hZ9 (show t ≤ u by omega)
 have HIns := hZ9 (fun w1 => instant_calls u w1)
 by_cases hti : 0 ≤ u ∧ u < 12622780800
 · rw [show (decide (0 ≤ u) && decide (u < 12622780800)) = true by rw [Bool.and_eq_true, decide_eq_true_eq, decide_eq_true_eq]; exact hti] at HIns
   have HIu := hZ9 hti
   clear hti
   go_wp2_with fail
   refine (HIns.out W).mono ?_
   rintro e w9 ⟨rfl, hb9⟩
   subst hb9
   dsimp only
   clear htu
   go_wp2_with fail
   refine HV.out.mono ?_
   rintro e w1 ⟨⟨b, rfl, hv⟩, hb1⟩
   have HbW := hZ9 hb1
   have Hb1 := hZ9 (Hw0.out.trans (hb1.mono Hw0.out.size))
   have Hv := hZ9 hv
   clear m0 m1 m2 m3 m4 m5 hb1 hv
   obtain ⟨m0, m1, m2, m3, m4, m5⟩ := HM.out w1 HbW.out
   cases b with
   | false =>
    clear m0 m1 m2 m3 m4 m5
    go_wp2_with fail
    refine (alive35_calls w1).mono ?_
    rintro e wA ⟨rfl, hbA⟩
    have HbA := hZ9 (Hb1.out.trans (hbA.mono Hb1.out.size))
    clear hbA
    go_wp2
    go_ret
    exact ⟨rfl, HbA.out⟩
   | true =>
    have HC := hZ9 (Hv.out rfl)
    have HOr := hZ9 (ordered_calls _ X w1 (HS.out w1 HbW.out).bu)
    rw [(HS.out w1 HbW.out).pl] at HOr
    have HL60 := hZ9 (show L.length ≤ 60 by rw [← HLn.out]; exact HC.out.bl)
    have HwL := hZ9 (show WL.length ≤ 1000 from Nat.le_trans HC.out.wl (by decide))
    have HcL := hZ9 (show CL.length ≤ 1000 from Nat.le_trans HC.out.cl (by decide))
    clear HV Hv
    go_wp2_with fail
    refine HOr.out.mono ?_
    rintro e w2 ⟨⟨b, rfl, ho⟩, hb2⟩
    have HbW2 := hZ9 (HbW.out.trans (hb2.mono HbW.out.size))
    have Hb2 := hZ9 (Hb1.out.trans (hb2.mono Hb1.out.size))
    have Ho := hZ9 ho
    clear m0 m1 m2 m3 m4 m5 hb2 ho HOr
    cases b with
    | false =>
     go_wp2_with fail
     refine (alive35_calls w2).mono ?_
     rintro e wA ⟨rfl, hbA⟩
     have HbA := hZ9 (Hb2.out.trans (hbA.mono Hb2.out.size))
     clear hbA
     go_wp2
     go_ret
     exact ⟨rfl, HbA.out⟩
    | true =>
     have HO := hZ9 (Ho.out.1 rfl)
     obtain ⟨m0, m1, m2, m3, m4, m5⟩ := HM.out w2 HbW2.out
     have Mk := hZ9 (show ∀ w', Below w2.heap.size w2 w' → Below w2.heap.size w2 w' ∧ w'.cell? ⟨w.heap.size, 0, none⟩ = some (.slice ea en ec) ∧ w'.cell? ⟨w.heap.size, 1, none⟩ = some (.slice pa pn pc) ∧ w'.cell? ⟨w.heap.size, 2, none⟩ = some (.slice ba X.length bc) ∧ w'.cell? ⟨w.heap.size, 3, none⟩ = some (.slice wa WL.length wc) ∧ w'.cell? ⟨w.heap.size, 4, none⟩ = some (.slice ca CL.length cc) ∧ w'.cell? ⟨w.heap.size, 5, none⟩ = some (.int .i64 ac) from fun w' hb => ⟨hb, HM.out w' (HbW2.out.trans (hb.mono HbW2.out.size))⟩)
     have HIn := hZ9 (fun w' (hb : Below w2.heap.size w2 w') => HbW2.out.trans (hb.mono HbW2.out.size))
     clear Ho
     have HNt := hZ9 (HC.out.near.mono HLe.out)
     have HAdv := hZ9 (padv_calls l P ac t _ _ L WL CL ba wa ca bc wc cc X w2 HC.out.c HNt.out (by have := Ht2.out; have := HLe.out; omega) (HE.out w2 HbW2.out) (HP.out w2 HbW2.out) (HS.out w2 HbW2.out) Hk.out (by have := HL60.out; omega) HwL.out HcL.out)
     go_wp2_with fail
     refine HAdv.out.mono ?_
     rintro e w3 ⟨G, hg, a3, c3, X3, wa3, wc3, ca3, cc3, rfl, hs3, hb3⟩
     obtain ⟨V, hV⟩ : ∃ V, V = w3.alloc (Obj.cells #[.slice a3 X3.length c3, .slice wa3 WL.length wc3, .slice ca3 CL.length cc3] 45) := ⟨_, rfl⟩
     have hbV : Below w3.heap.size w3 V := by rw [hV]; exact (Below.refl _ _).alloc (Nat.le_refl _) _
     have VN := hZ9 (show V.heap[w3.heap.size]? = some (Obj.cells #[.slice a3 X3.length c3, .slice wa3 WL.length wc3, .slice ca3 CL.length cc3] 45) by rw [hV]; exact heap_alloc_new _ _)
     have HV := hZ9 hV
     have HG := hZ9 hg
     have HS3 := hZ9 hs3
     have HbV3 := hZ9 hbV
     have HbV := hZ9 (HbW2.out.trans ((hb3.trans (hbV.mono hb3.size)).mono HbW2.out.size))
     have Hle3 := hZ9 (show W.heap.size ≤ w3.heap.size from Nat.le_trans HbW2.out.size hb3.size)
     clear hV hg hs3 hbV hb3 HAdv Mk HIn m0 m1 m2 m3 m4 m5
     obtain ⟨m0, m1, m2, m3, m4, m5⟩ := HM.out V HbV.out
     have e0 := cell_of_row V _ 0 _ _ _ VN.out
     have e1 := cell_of_row V _ 1 _ _ _ VN.out
     have e2 := cell_of_row V _ 2 _ _ _ VN.out
     go_upto_region 4 with (fail)
     rw [← HV.out]
     have HAt := hZ9 (adv_of (ac := ac) HC.out.c HNt.out (by have := Ht2.out; have := HLe.out; omega) (HE.out V HbV.out))
     have HAu := hZ9 (adv_of (ac := ac) HC.out.c HC.out.near (by have := Ht2.out; omega) (HE.out V HbV.out))
     have HAdv2 := hZ9 (padv_calls l P ac u _ _ (foldG G L) WL CL a3 wa3 ca3 c3 wc3 cc3 X3 V HC.out.c HC.out.near (by have := Ht2.out; omega) (HE.out V HbV.out) (HP.out V HbV.out) (HS3.out.below HbV3.out) (key_fold Hk.out (HG.out.key HAt.out)) (by have h1 := foldG_le G L; have h2 := HG.out.few HAt.out; have h3 := HL60.out; omega) HwL.out HcL.out)
     go_wp2_with fail
     refine HAdv2.out.mono ?_
     rintro e w4 ⟨G2, hg2, a4, c4, X4, wa4, wc4, ca4, cc4, rfl, hs4, hb4⟩
     rw [GsOf.two HC.out.c.r HO.out HG.out hg2 HLe.out HIu.out.2] at hs4
     obtain ⟨V2, hV2⟩ : ∃ V2, V2 = w4.alloc (Obj.cells #[.slice a4 X4.length c4, .slice wa4 WL.length wc4, .slice ca4 CL.length cc4] 45) := ⟨_, rfl⟩
     have hbV2 : Below w4.heap.size w4 V2 := by rw [hV2]; exact (Below.refl _ _).alloc (Nat.le_refl _) _
     have V2N := hZ9 (show V2.heap[w4.heap.size]? = some (Obj.cells #[.slice a4 X4.length c4, .slice wa4 WL.length wc4, .slice ca4 CL.length cc4] 45) by rw [hV2]; exact heap_alloc_new _ _)
     have HV2 := hZ9 hV2
     have HG2 := hZ9 hg2
     have H4 := hZ9 (fun w' (hb : Below V2.heap.size V2 w') => hs4.below (hbV2.trans (hb.mono hbV2.size)))
     have HbV2 := hZ9 (HbV.out.trans ((hb4.trans (hbV2.mono hb4.size)).mono HbV.out.size))
     have HKf := hZ9 (key_fold Hk.out (hg2.key HAu.out))
     have HLf := hZ9 (show (foldG G2 L).length ≤ 400000 by have h1 := foldG_le G2 L; have h2 := hg2.few HAu.out; have h3 := HL60.out; omega)
     have HAg := hZ9 (GsOf.again (L := L) HC.out.c.r HG.out hg2 HLe.out HIu.out.2)
     have HAg2 := hZ9 (GsOf.again (L := L) HC.out.c.r hg2 hg2 (Int.le_refl _) HIu.out.2)
     clear hV2 hg2 hs4 hbV2 hb4 HAdv2 m0 m1 m2 m3 m4 m5 e0 e1 e2
     obtain ⟨m0, m1, m2, m3, m4, m5⟩ := HM.out V2 HbV2.out
     have e0 := cell_of_row V2 _ 0 _ _ _ V2N.out
     have e1 := cell_of_row V2 _ 1 _ _ _ V2N.out
     have e2 := cell_of_row V2 _ 2 _ _ _ V2N.out
     have Mk := hZ9 (show ∀ w', Below V2.heap.size V2 w' → Below V2.heap.size V2 w' ∧ w'.cell? ⟨w.heap.size, 0, none⟩ = some (.slice ea en ec) ∧ w'.cell? ⟨w.heap.size, 1, none⟩ = some (.slice pa pn pc) ∧ w'.cell? ⟨w.heap.size, 2, none⟩ = some (.slice ba X.length bc) ∧ w'.cell? ⟨w.heap.size, 3, none⟩ = some (.slice wa WL.length wc) ∧ w'.cell? ⟨w.heap.size, 4, none⟩ = some (.slice ca CL.length cc) ∧ w'.cell? ⟨w.heap.size, 5, none⟩ = some (.int .i64 ac) ∧ w'.cell? ⟨w4.heap.size, 0, none⟩ = some (.slice a4 X4.length c4) ∧ w'.cell? ⟨w4.heap.size, 1, none⟩ = some (.slice wa4 WL.length wc4) ∧ w'.cell? ⟨w4.heap.size, 2, none⟩ = some (.slice ca4 CL.length cc4) from fun w' hb => by
      have q := (hb.block _ (ltB9 V2N.out)).trans V2N.out
      obtain ⟨m0, m1, m2, m3, m4, m5⟩ := HM.out w' (HbV2.out.trans (hb.mono HbV2.out.size))
      exact ⟨hb, m0, m1, m2, m3, m4, m5, cell_of_row w' _ 0 _ _ _ q, cell_of_row w' _ 1 _ _ _ q, cell_of_row w' _ 2 _ _ _ q⟩)
     have HIn := hZ9 (fun w' (hb : Below V2.heap.size V2 w') => HbV2.out.trans (hb.mono HbV2.out.size))
     go_upto_region 5 with (fail)
     rw [← HV2.out]
     go_upto_region 5 with (fail)
     go_region_held3 (fun w' : World => Below V2.heap.size V2 w' ∧ w'.cell? ⟨w.heap.size, 0, none⟩ = some (.slice ea en ec) ∧ w'.cell? ⟨w.heap.size, 1, none⟩ = some (.slice pa pn pc) ∧ w'.cell? ⟨w.heap.size, 2, none⟩ = some (.slice ba X.length bc) ∧ w'.cell? ⟨w.heap.size, 3, none⟩ = some (.slice wa WL.length wc) ∧ w'.cell? ⟨w.heap.size, 4, none⟩ = some (.slice ca CL.length cc) ∧ w'.cell? ⟨w.heap.size, 5, none⟩ = some (.int .i64 ac) ∧ w'.cell? ⟨w4.heap.size, 0, none⟩ = some (.slice a4 X4.length c4) ∧ w'.cell? ⟨w4.heap.size, 1, none⟩ = some (.slice wa4 WL.length wc4) ∧ w'.cell? ⟨w4.heap.size, 2, none⟩ = some (.slice ca4 CL.length cc4))
      (first
       | exact Mk.out _ (by assumption)
       | exact Mk.out _ (Below.drew (by assumption))
       | exact Mk.out _ (Below.refl _ _)
       | exact Mk.out _ (Below.drew (Below.refl _ _)))
      (first
       | (go_at_call 22
          refine (padv_calls l P ac u _ _ L WL CL _ _ _ _ _ _ X _ HC.out.c HC.out.near (by have := Ht2.out; omega) (HE.out _ (HIn.out _ (And.left (by assumption)))) (HP.out _ (HIn.out _ (And.left (by assumption)))) (HS.out _ (HIn.out _ (And.left (by assumption)))) Hk.out (by have := HL60.out; omega) HwL.out HcL.out).mono ?_
          rintro e w5 ⟨G5, hg5, a5, c5, X5, wa5, wc5, ca5, cc5, rfl, hs5, hb5⟩
          have hG5 := hg5.one HG2.out
          rw [hG5] at hs5
          have hY5 : Below V2.heap.size V2 w5 := Below.trans (And.left (by assumption)) (hb5.mono (Below.size (And.left (by assumption))))
          clear hb5)
       | (go_at_call 21
          refine (st_same (H4.out _ (And.left (by assumption))) hs5).mono ?_
          rintro e w7 ⟨rfl, hb7⟩
          have hY7 : Below V2.heap.size V2 w7 := Below.trans (And.left (by assumption)) (hb7.mono (Below.size (And.left (by assumption))))
          clear hb7))
     go_upto_region 7 with (fail)
     go_region_held3 (fun w' : World => Below V2.heap.size V2 w' ∧ w'.cell? ⟨w.heap.size, 0, none⟩ = some (.slice ea en ec) ∧ w'.cell? ⟨w.heap.size, 1, none⟩ = some (.slice pa pn pc) ∧ w'.cell? ⟨w.heap.size, 2, none⟩ = some (.slice ba X.length bc) ∧ w'.cell? ⟨w.heap.size, 3, none⟩ = some (.slice wa WL.length wc) ∧ w'.cell? ⟨w.heap.size, 4, none⟩ = some (.slice ca CL.length cc) ∧ w'.cell? ⟨w.heap.size, 5, none⟩ = some (.int .i64 ac) ∧ w'.cell? ⟨w4.heap.size, 0, none⟩ = some (.slice a4 X4.length c4) ∧ w'.cell? ⟨w4.heap.size, 1, none⟩ = some (.slice wa4 WL.length wc4) ∧ w'.cell? ⟨w4.heap.size, 2, none⟩ = some (.slice ca4 CL.length cc4))
      (first
       | exact Mk.out _ (by assumption)
       | exact Mk.out _ (Below.drew (by assumption))
       | exact Mk.out _ (Below.refl _ _)
       | exact Mk.out _ (Below.drew (Below.refl _ _)))
      (first
       | (fail_if_success (have hno := hs8)
          go_at_call 22
          refine (padv_calls l P ac t _ _ (foldG G2 L) WL CL _ _ _ _ _ _ X4 _ HC.out.c HNt.out (by have := Ht2.out; have := HLe.out; omega) (HE.out _ (HIn.out _ (And.left (by assumption)))) (HP.out _ (HIn.out _ (And.left (by assumption)))) (H4.out _ (And.left (by assumption))) HKf.out HLf.out HwL.out HcL.out).mono ?_
          rintro e w8 ⟨G8, hg8, a8, c8, X8, wa8, wc8, ca8, cc8, rfl, hs8, hb8⟩
          have hG8 := hg8.one HG.out
          rw [hG8, HAg.out] at hs8
          have hY8 : Below V2.heap.size V2 w8 := Below.trans (And.left (by assumption)) (hb8.mono (Below.size (And.left (by assumption))))
          clear hb8)
       | (go_at_call 22
          refine (padv_calls l P ac u _ _ (foldG G2 L) WL CL _ _ _ _ _ _ X4 _ HC.out.c HC.out.near (by have := Ht2.out; omega) (HE.out _ (HIn.out _ (And.left (by assumption)))) (HP.out _ (HIn.out _ (And.left (by assumption)))) (H4.out _ (And.left (by assumption))) HKf.out HLf.out HwL.out HcL.out).mono ?_
          rintro e w9 ⟨G9, hg9, a9, c9, X9, wa9, wc9, ca9, cc9, rfl, hs9, hb9⟩
          have hG9 := hg9.one HG2.out
          rw [hG9, HAg2.out] at hs9
          have hY9 : Below V2.heap.size V2 w9 := Below.trans (And.left (by assumption)) (hb9.mono (Below.size (And.left (by assumption))))
          clear hb9)
       | (fail_if_success (have hno := hY10)
          go_at_call 21
          refine (st_same hs8 (H4.out _ (And.left (by assumption)))).mono ?_
          rintro e w10 ⟨rfl, hb10⟩
          have hY10 : Below V2.heap.size V2 w10 := Below.trans (And.left (by assumption)) (hb10.mono (Below.size (And.left (by assumption))))
          clear hb10)
       | (go_at_call 21
          refine (st_same hs9 (H4.out _ (And.left (by assumption)))).mono ?_
          rintro e w11 ⟨rfl, hb11⟩
          have hY11 : Below V2.heap.size V2 w11 := Below.trans (And.left (by assumption)) (hb11.mono (Below.size (And.left (by assumption))))
          clear hb11)
       | (go_at_call 20
          refine (alive35_calls _).mono ?_
          rintro e w12 ⟨rfl, hb12⟩
          have hY12 : Below V2.heap.size V2 w12 := Below.trans (And.left (by assumption)) (hb12.mono (Below.size (And.left (by assumption))))
          clear hb12))
     have HFin := hZ9 (Hw0.out.trans ((HbV2.out.trans (hY12.mono HbV2.out.size)).mono Hw0.out.size))
     clear hY12
     go_wp2
     go_ret
     exact ⟨rfl, HFin.out⟩
 rw [show (decide (0 ≤ u) && decide (u < 12622780800)) = false by rw [← Bool.not_eq_true, Bool.and_eq_true, decide_eq_true_eq, decide_eq_true_eq]; exact hti] at HIns
 clear hti HV
 go_wp2_with fail
 refine (HIns.out W).mono ?_
 rintro e w9 ⟨rfl, hb9⟩
 subst hb9
 dsimp only
 go_wp2_with fail
 refine (alive35_calls W).mono ?_
 rintro e wA ⟨rfl, hbA⟩
 have HbA := hZ9 (Hw0.out.trans (hbA.mono Hw0.out.size))
 clear hbA
 go_wp2
 go_ret
 exact ⟨rfl, HbA.out⟩
end Go.Proofs.YtngippiilgdnoaaGreat
