/-
  The walks of the reference's book up to an instant, and of a subscription in it.
-/
import Derived.Test.YtngippiilgdnoaaGreatMgaz
import Derived.Test.YtngippiilgdnoaaGreatMgbd
namespace Go.Proofs.YtngippiilgdnoaaGreat
open Go.RowKit

theorem uptoE_take {l : List Ev} (hr : OkRun l) (t : Int) (k : Nat) (h : k < l.length) : (¬ (l[k]).tm ≤ t → uptoE (l.take (k + 1)) t = uptoE (l.take k) t) ∧ ((l[k]).tm ≤ t → uptoE (l.take k) t = l.take k ∧ uptoE (l.take (k + 1)) t = l.take (k + 1)) := by
  constructor
  · intro hc
    unfold uptoE
    rw [List.take_succ_eq_append_getElem h, List.filter_append]
    simp [hc]
  · intro hc
    have key : ∀ m, m ≤ k + 1 → uptoE (l.take m) t = l.take m := fun m hm => by
      unfold uptoE
      rw [List.filter_eq_self]
      intro x hx
      obtain ⟨j, hj, rfl⟩ := List.mem_take_iff_getElem.1 hx
      have := sorted_run hr j k (by omega) h (by omega)
      simp; omega
    exact ⟨key k (by omega), key (k + 1) (Nat.le_refl _)⟩
def UptoTo (b : Bk) (w : World) (e : Ending) (w' : World) : Prop := ∃ (a1 a2 a3 : Option Addr) (n1 n2 n3 c1 c2 c3 : Nat) (X : List SbX), e = .returned (.agg #[.slice a1 n1 c1, .slice a2 n2 c2, .slice a3 n3 c3]) ∧ BkAt w' (.slice a1 n1 c1) (.slice a2 n2 c2) (.slice a3 n3 c3) X b ∧ (∀ x ∈ X, FreshA w.heap.size x.pa) ∧ Below w.heap.size w w'
def upPhi (B : Nat) (a1 a2 a3 : Option Addr) (n1 n2 n3 c1 c2 c3 : Nat) (av : Option Addr) (n cap k : Nat) (bb o : Nat) (ev : Ev) (b : Bk) : Nat → Value → World → Prop
  | 0, v, _ => v = .agg #[.slice a1 n1 c1, .slice a2 n2 c2, .slice a3 n3 c3]
  | 1, v, _ => v = .slice av n cap
  | 2, v, _ => v = .int .i64 k
  | 3, v, _ => v = .pointer (some ⟨bb, o + k * 7, none⟩)
  | 4, v, _ => v = evVal ev
  | 5, v, w' => ∃ (a1 a2 a3 : Option Addr) (n1 n2 n3 c1 c2 c3 : Nat) (X : List SbX), v = .agg #[.slice a1 n1 c1, .slice a2 n2 c2, .slice a3 n3 c3] ∧ BkAt w' (.slice a1 n1 c1) (.slice a2 n2 c2) (.slice a3 n3 c3) X b ∧ ∀ x ∈ X, FreshA B x.pa
  | _, _, _ => True
theorem upPhi_stays {B : Nat} {a1 a2 a3 : Option Addr} {n1 n2 n3 c1 c2 c3 : Nat} {av : Option Addr} {n cap k bb o : Nat} {ev : Ev} {b : Bk} {w1 w2 : World} (hb : Below w1.heap.size w1 w2) : ∀ j y, upPhi B a1 a2 a3 n1 n2 n3 c1 c2 c3 av n cap k bb o ev b j y w1 → upPhi B a1 a2 a3 n1 n2 n3 c1 c2 c3 av n cap k bb o ev b j y w2
  | 0, _, h => h
  | 1, _, h => h
  | 2, _, h => h
  | 3, _, h => h
  | 4, _, h => h
  | 5, _, ⟨a1, a2, a3, n1, n2, n3, c1, c2, c3, X, h1, h2, h3⟩ => ⟨a1, a2, a3, n1, n2, n3, c1, c2, c3, X, h1, h2.below hb, h3⟩
  | _ + 6, _, _ => trivial
/-- The round's relation. -/
structure UpR (w : World) (b : Bk) (a1 a2 a3 : Option Addr) (n1 n2 n3 c1 c2 c3 : Nat) (X : List SbX) (wx : World) : Prop where
  r0 : wx.heap[w.heap.size]? = some (Obj.cells #[.slice none 0 0, .slice none 0 0, .slice none 0 0] 142)
  row : wx.heap[w.heap.size + 1]? = some (Obj.cells #[.slice a1 n1 c1, .slice a2 n2 c2, .slice a3 n3 c3] 142)
  bk : BkAt wx (.slice a1 n1 c1) (.slice a2 n2 c2) (.slice a3 n3 c3) X b
  fr : ∀ x ∈ X, FreshA w.heap.size x.pa
  b : Below w.heap.size w wx

set_option maxRecDepth 100000 in
set_option maxHeartbeats 12800000 in
theorem upto_calls (v : Value) (l : List Ev) (t : Int) (w : World) (h : EvsAt w v l) (hl : l.length ≤ 1000) (hr : OkRun l) :
    Calls Tryz.prog 183 #[v, .int .i64 t] w (UptoTo (bookOf (uptoE l t)) w) := by
  have HE := Lib.hid h.1
  have HSz := Lib.hid h.2
  have HSm := Lib.hid (small_book l)
  have Hr := Lib.hid hr
  obtain ⟨av, cap, rfl, hlc, hcm⟩ := rec_shape h.1
  unfold maxLen at hcm
  clear h hr
  obtain ⟨q0, q1, qb, qz⟩ := two_rows w (Obj.cells #[.slice none 0 0, .slice none 0 0, .slice none 0 0] 142) (Obj.cells #[.slice none 0 0, .slice none 0 0, .slice none 0 0] 142)
  have H0 := Lib.hid (show UpR w (bookOf (uptoE (l.take 0) t)) none none none 0 0 0 0 0 0 [] _ from ⟨q0, q1, ⟨SliceAt.nil _, SliceAt.nil _, rfl, fun x hx => (by cases hx), SliceAt.nil _⟩, (fun x hx => by cases hx), qb⟩)
  clear q0 q1 qb qz
  go_enter Tryz.func183, Tryz.ntmps183
  go_wp2_with fail
  go_loopw [6] (fun i wx => ∃ (k : Nat) (a1 a2 a3 : Option Addr) (n1 n2 n3 c1 c2 c3 : Nat) (X : List SbX), k ≤ l.length ∧ i = .int .i64 k ∧ UpR w (bookOf (uptoE (l.take k) t)) a1 a2 a3 n1 n2 n3 c1 c2 c3 X wx) (fun i _ => l.length - (intOf i).toNat)
  case atStart => exact ⟨0, none, none, none, 0, 0, 0, 0, 0, 0, [], Nat.zero_le _, rfl, H0.out⟩
  case round =>
    obtain ⟨wo, rfl⟩ : ∃ wo : World, wo = wr := ⟨_, rfl⟩
    obtain ⟨k, a1, a2, a3, n1, n2, n3, c1, c2, c3, X, hk, rfl, hR⟩ := hrel
    have HR := Lib.hid hR
    clear hR
    by_cases hlt : k < l.length
    · have hk1 : (k : Int) < (l.length : Int) := by omega
      have hk0 : (0 : Int) ≤ (k : Int) := Int.natCast_nonneg _
      have HU := Lib.hid (uptoE_take Hr.out t k hlt)
      have HSmk := Lib.hid ((HSm.out k (by omega)).mono (show k ≤ 1000 by omega))
      have HB1 := Lib.hid (bookOf_snoc l k hlt)
      have HOk := Lib.hid (Hr.out k hlt)
      have Hsz := Lib.hid (HSz.out l[k] (List.getElem_mem hlt))
      obtain ⟨av2, cap2, e2, -, -, hx⟩ := HE.out
      cases e2
      obtain ⟨bb, o, rfl, hB, hx⟩ := hx (by rintro rfl; cases hlt)
      have HXc := Lib.hid (show ∀ Y, Below w.heap.size w Y → ∀ j, j < 7 → Y.cell? ⟨bb, o + k * 7 + j, none⟩ = (evCells l[k])[j]? from fun Y hY j hj => (hY.cell (p := ⟨bb, _, none⟩) hB).trans (hx k hlt j hj))
      clear hx hB
      generalize l[k] = ev at *
      have x0 : wo.cell? ⟨bb, o + k * 7, none⟩ = some (.int .i64 ev.tm) := HXc.out wo HR.out.b 0 (by decide)
      by_cases htm : ev.tm ≤ t
      · obtain ⟨hu1, hu2⟩ := HU.out.2 htm
        have HU1 := Lib.hid hu1
        have HU2 := Lib.hid (show bookOf (uptoE (l.take (k + 1)) t) = applyB (bookOf (l.take k)) ev by rw [hu2, HB1.out])
        have HR := Lib.hid (show UpR w (bookOf (l.take k)) a1 a2 a3 n1 n2 n3 c1 c2 c3 X wo by have h := HR.out; rwa [hu1] at h)
        have HApp := Lib.hid (fun Y (hY : Below wo.heap.size wo Y) => apply_calls _ _ _ X (bookOf (l.take k)) ev _ Y (HR.out.bk.below hY) HOk.out HSmk.out Hsz.out.1 Hsz.out.2)
        clear hu1 hu2
        go_upto_region 6 with (fail)
        obtain ⟨wp, hwp⟩ : ∃ wp, wp = wo := ⟨_, rfl⟩
        rw [← hwp] at HR HApp ⊢
        clear hwp
        refine wp_region_free2 (fun w' => Below wp.heap.size wp w') (upPhi w.heap.size a1 a2 a3 n1 n2 n3 c1 c2 c3 (some ⟨bb, o, none⟩) l.length cap k bb o ev (applyB (bookOf (l.take k)) ev)) (by kernel_rfl) (by decide) (by kernel_rfl) (Below.refl _ _).drew ?_
        generalize hfr : (fun v : Nat → Value => _) = fr
        simp only [List.map_cons, List.map_nil, putsL, List.setIfInBounds_toArray, List.set_cons_succ, List.set_cons_zero, Nat.zero_add, Nat.reduceAdd] at hfr
        simp only [FreeOps]
        refine ⟨?_, ?_, ?_, ?_, ?_, ?_, ?_⟩
        · intro v w2 hC hd K hK
          have hrow := (hC.block _ (Array.getElem?_eq_some_iff.1 HR.out.row).1).trans HR.out.row
          have p0 := cell_of_row w2 _ 0 _ _ _ hrow
          have p1 := cell_of_row w2 _ 1 _ _ _ hrow
          have p2 := cell_of_row w2 _ 2 _ _ _ hrow
          clear hrow
          rw [← hfr] at hK ⊢
          go_simp
          exact hK _ _ hC (upPhi_stays (Below.refl _ _)) rfl
        · intro v w2 hC hd K hK
          rw [← hfr] at hK ⊢
          go_simp
          exact hK _ _ hC (upPhi_stays (Below.refl _ _)) rfl
        · intro v w2 hC hd K hK
          rw [← hfr] at hK ⊢
          go_simp
          exact hK _ _ hC (upPhi_stays (Below.refl _ _)) rfl
        · intro v w2 hC hd K hK
          obtain ⟨f1, f2, -⟩ := hd
          have e1 : v 1 = _ := f1
          have e2 : v 2 = _ := f2
          rw [← hfr] at hK ⊢
          simp only [e1, e2] at hK ⊢
          go_simp
          exact hK _ _ hC (upPhi_stays (Below.refl _ _)) rfl
        · intro v w2 hC hd K hK
          obtain ⟨f3, -⟩ := hd
          have e3 : v 3 = _ := f3
          have x0 : w2.cell? ⟨bb, o + k * 7, none⟩ = some (.int .i64 ev.tm) := HXc.out w2 (HR.out.b.trans (hC.mono HR.out.b.size)) 0 (by decide)
          have x1 : w2.cell? ⟨bb, o + k * 7 + 1, none⟩ = some (.int .i64 ev.kd) := HXc.out w2 (HR.out.b.trans (hC.mono HR.out.b.size)) 1 (by decide)
          have x2 : w2.cell? ⟨bb, o + k * 7 + 2, none⟩ = some (.int .i64 ev.ac) := HXc.out w2 (HR.out.b.trans (hC.mono HR.out.b.size)) 2 (by decide)
          have x3 : w2.cell? ⟨bb, o + k * 7 + 3, none⟩ = some (.int .i64 ev.sb) := HXc.out w2 (HR.out.b.trans (hC.mono HR.out.b.size)) 3 (by decide)
          have x4 : w2.cell? ⟨bb, o + k * 7 + 4, none⟩ = some (.string ev.nu) := HXc.out w2 (HR.out.b.trans (hC.mono HR.out.b.size)) 4 (by decide)
          have x5 : w2.cell? ⟨bb, o + k * 7 + 5, none⟩ = some (.string ev.nm) := HXc.out w2 (HR.out.b.trans (hC.mono HR.out.b.size)) 5 (by decide)
          have x6 : w2.cell? ⟨bb, o + k * 7 + 6, none⟩ = some (.int .i64 ev.vl) := HXc.out w2 (HR.out.b.trans (hC.mono HR.out.b.size)) 6 (by decide)
          rw [← hfr] at hK ⊢
          simp only [e3] at hK ⊢
          go_simp
          exact hK _ _ hC (upPhi_stays (Below.refl _ _)) rfl
        · intro v w2 hC hd K hK
          obtain ⟨f0, f4, -⟩ := hd
          have e0 : v 0 = _ := f0
          have e4 : v 4 = _ := f4
          have HF := Lib.hid (HApp.out w2 hC)
          rw [← hfr] at hK ⊢
          simp only [e0, e4] at hK ⊢
          go_simp
          refine HF.out.mono ?_
          rintro e w3 ⟨b1, b2, b3, m1, m2, m3, d1, d2, d3, X2, rfl, hbk3, hb3, hf3⟩
          refine hK _ _ (hC.trans (hb3.mono hC.size)) (upPhi_stays hb3) ⟨b1, b2, b3, m1, m2, m3, d1, d2, d3, X2, rfl, hbk3, fun x hx => ?_⟩
          rcases hf3 x hx with ⟨y, hy, e⟩ | h
          · rw [e]; exact HR.out.fr y hy
          · exact h.mono (Nat.le_trans HR.out.b.size hC.size)
        · intro v w2 hC hall
          obtain ⟨-, b1, b2, b3, m1, m2, m3, d1, d2, d3, X2, f5, hbk3, hf3⟩ := hall
          have e5 : v 5 = _ := f5
          have hrow3 := (hC.block _ (Array.getElem?_eq_some_iff.1 HR.out.row).1).trans HR.out.row
          refine wp_store_row _ _ _ rfl (w.heap.size + 1) #[.slice b1 m1 d1, .slice b2 m2 d2, .slice b3 m3 d3] (by rw [← hfr]; rfl) (by rw [← hfr]; exact e5) 142 _ hrow3 (by kernel_rfl) rfl (by simp [Value.oneCell']) ?_
          have HRn := Lib.hid (show UpR w (bookOf (uptoE (l.take (k + 1)) t)) b1 b2 b3 m1 m2 m3 d1 d2 d3 X2 (w2.setRow (w.heap.size + 1) #[.slice b1 m1 d1, .slice b2 m2 d2, .slice b3 m3 d3]) from ⟨(setRow_other _ _ _ _ (by omega)).trans ((hC.block _ (Array.getElem?_eq_some_iff.1 HR.out.r0).1).trans HR.out.r0), setRow_heap w2 _ _ #[.slice b1 m1 d1, .slice b2 m2 d2, .slice b3 m3 d3] _ _ hrow3, by rw [HU2.out]; exact hbk3.setRow hrow3 three_sl _, hf3, below_setRow1 (HR.out.b.trans (hC.mono HR.out.b.size)) (by omega) _⟩)
          obtain ⟨w6, hw6⟩ : ∃ w6, w6 = w2.setRow (w.heap.size + 1) #[.slice b1 m1 d1, .slice b2 m2 d2, .slice b3 m3 d3] := ⟨_, rfl⟩
          rw [← hw6] at HRn ⊢
          rw [← hfr]
          simp only [e5]
          generalize v 0 = z0, v 1 = z1, v 2 = z2, v 3 = z3, v 4 = z4
          clear hw6 hbk3 hrow3 e5 f5 hf3 hfr v hC HApp
          go_wp2
          exact ⟨⟨k + 1, b1, b2, b3, m1, m2, m3, d1, d2, d3, X2, by omega, by go_num, HRn.out⟩, by simp [intOf]; omega⟩
      · have HU1 := Lib.hid (HU.out.1 htm)
        go_wp2
        exact ⟨⟨k + 1, a1, a2, a3, n1, n2, n3, c1, c2, c3, X, by omega, by go_num, by rw [HU1.out]; exact HR.out⟩, by simp [intOf]; omega⟩
    · have HF := Lib.hid (show l.take k = l from List.take_of_length_le (by omega))
      have p0 := cell_of_row wo _ 0 _ _ _ HR.out.row
      have p1 := cell_of_row wo _ 1 _ _ _ HR.out.row
      have p2 := cell_of_row wo _ 2 _ _ _ HR.out.row
      have HbF := Lib.hid (below_setRow1 HR.out.b (Nat.le_refl _) #[.slice a1 n1 c1, .slice a2 n2 c2, .slice a3 n3 c3])
      have HbkF := Lib.hid (HR.out.bk.setRow HR.out.r0 three_sl #[.slice a1 n1 c1, .slice a2 n2 c2, .slice a3 n3 c3])
      have t0 := cell_setRow_same wo w.heap.size 0 _ #[.slice a1 n1 c1, .slice a2 n2 c2, .slice a3 n3 c3] _ _ HR.out.r0
      have t1 := cell_setRow_same wo w.heap.size 1 _ #[.slice a1 n1 c1, .slice a2 n2 c2, .slice a3 n3 c3] _ _ HR.out.r0
      have t2 := cell_setRow_same wo w.heap.size 2 _ #[.slice a1 n1 c1, .slice a2 n2 c2, .slice a3 n3 c3] _ _ HR.out.r0
      go_upto_region 7 with (fail)
      repeat (first | refine wpList_store_row rfl _ _ _ rfl w.heap.size #[.slice a1 n1 c1, .slice a2 n2 c2, .slice a3 n3 c3] rfl rfl 142 _ HR.out.r0 (by kernel_rfl) rfl (by simp [Value.oneCell']) ?_ | go_step)
      refine bodyPost_ret (v := .agg #[.slice a1 n1 c1, .slice a2 n2 c2, .slice a3 n3 c3]) (by simp [results, Tryz.results183, go_sem, t0, t1, t2]) rfl ?_
      exact ⟨a1, a2, a3, n1, n2, n3, c1, c2, c3, X, rfl, by have h := HbkF.out; rwa [HF.out] at h, HR.out.fr, HbF.out⟩
set_option maxRecDepth 100000 in
set_option maxHeartbeats 6400000 in
theorem rsub_none (v : Value) (l : List Ev) (n t : Int) (w : World) (h : EvsAt w v l) (hl : l.length ≤ 1000) (hr : OkRun l) (href : refS (bookOf (uptoE l t)) n = none) :
    Calls Tryz.prog 148 #[v, .int .i64 n, .int .i64 t] w (fun e w' => e = .returned (.tuple #[.agg #[.int .i64 0, .int .i64 0, .int .i64 0, .string ⟨#[]⟩, .slice none 0 0, .slice none 0 0, .bool false, .bool false], .bool false]) ∧ Below w.heap.size w w') := by
  obtain ⟨W, hW⟩ : ∃ W, W = w.alloc (Obj.cells #[.int .i64 0, .int .i64 0, .int .i64 0, .string ⟨#[]⟩, .slice none 0 0, .slice none 0 0, .bool false, .bool false] 181) := ⟨_, rfl⟩
  have hw0 : Below w.heap.size w W := by rw [hW]; go_grown
  have hz : W.heap.size = w.heap.size + 1 := by rw [hW]; simp
  have R0 := Lib.hid (show W.heap[w.heap.size]? = some (Obj.cells #[.int .i64 0, .int .i64 0, .int .i64 0, .string ⟨#[]⟩, .slice none 0 0, .slice none 0 0, .bool false, .bool false] 181) by rw [hW]; exact heap_alloc_new _ _)
  have HU := Lib.hid (upto_calls v l t W (h.below hw0) hl hr)
  have HL := Lib.hid (show (bookOf (uptoE l t)).subs.length ≤ 1000 by
    obtain ⟨g1, g2⟩ := upto_take hr t
    rw [g1]
    exact Nat.le_trans (small_book l _ g2).s (by omega))
  have HW := Lib.hid hW
  have Hw0 := Lib.hid hw0
  obtain ⟨av, cap, rfl, hlc, hcm⟩ := rec_shape h.1
  have Hz := Lib.hid hz
  have Href := Lib.hid href
  clear h hW hw0 hlc hcm hr hl hz href
  generalize hbk : bookOf (uptoE l t) = b at *
  clear hbk
  go_enter Tryz.func148, Tryz.ntmps148
  go_upto_region 1 with (fail)
  rw [← HW.out]
  go_wp2_with fail
  refine HU.out.mono ?_
  rintro e w2 ⟨a1, a2, a3, n1, n2, n3, c1, c2, c3, X, rfl, hbk2, hf2, hb2⟩
  have Hf2 := Lib.hid hf2
  obtain ⟨w3, hw3⟩ : ∃ w3, w3 = w2.alloc (Obj.cells #[.slice a1 n1 c1, .slice a2 n2 c2, .slice a3 n3 c3] 142) := ⟨_, rfl⟩
  have hb3 : Below w2.heap.size w2 w3 := by rw [hw3]; go_grown
  have R3 := Lib.hid (show w3.heap[w2.heap.size]? = some (Obj.cells #[.slice a1 n1 c1, .slice a2 n2 c2, .slice a3 n3 c3] 142) by rw [hw3]; exact heap_alloc_new _ _)
  have Hbk3 := Lib.hid (hbk2.below hb3)
  have Hb3 := Lib.hid (hb2.trans (hb3.mono hb2.size))
  have Hw3 := Lib.hid hw3
  clear hbk2 hf2 hb2 hw3 hb3
  have p0 := cell_of_row w3 _ 0 _ _ _ R3.out
  have p1 := cell_of_row w3 _ 1 _ _ _ R3.out
  have p2 := cell_of_row w3 _ 2 _ _ _ R3.out
  have HS := Lib.hid (sub_calls _ _ _ X b n w3 Hbk3.out)
  go_upto_region 2 with (fail)
  rw [← Hw3.out]
  go_wp2_with fail
  refine HS.out.mono ?_
  rintro e w4 ⟨rfl, hb4⟩
  have Hb4 := Lib.hid (Hb3.out.trans (hb4.mono Hb3.out.size))
  have R4 := Lib.hid ((hb4.block _ (Array.getElem?_eq_some_iff.1 R3.out).1).trans R3.out)
  have Hbk4 := Lib.hid (Hbk3.out.below hb4)
  have Q4 := Lib.hid ((Hb4.out.block w.heap.size (by rw [Hz.out]; omega)).trans R0.out)
  clear hb4 p0 p1 p2
  by_cases hneg : subIx b n < 0
  · have Hneg := Lib.hid hneg
    have HbF := Lib.hid (below_setRow1 (Hw0.out.trans (Hb4.out.mono Hw0.out.size)) (Nat.le_refl w.heap.size) #[.int .i64 0, .int .i64 0, .int .i64 0, .string ⟨#[]⟩, .slice none 0 0, .slice none 0 0, .bool false, .bool false])
    have t0 := cell_setRow_same w4 w.heap.size 0 _ #[.int .i64 0, .int .i64 0, .int .i64 0, .string ⟨#[]⟩, .slice none 0 0, .slice none 0 0, .bool false, .bool false] _ _ Q4.out
    have t1 := cell_setRow_same w4 w.heap.size 1 _ #[.int .i64 0, .int .i64 0, .int .i64 0, .string ⟨#[]⟩, .slice none 0 0, .slice none 0 0, .bool false, .bool false] _ _ Q4.out
    have t2 := cell_setRow_same w4 w.heap.size 2 _ #[.int .i64 0, .int .i64 0, .int .i64 0, .string ⟨#[]⟩, .slice none 0 0, .slice none 0 0, .bool false, .bool false] _ _ Q4.out
    have t3 := cell_setRow_same w4 w.heap.size 3 _ #[.int .i64 0, .int .i64 0, .int .i64 0, .string ⟨#[]⟩, .slice none 0 0, .slice none 0 0, .bool false, .bool false] _ _ Q4.out
    have t4 := cell_setRow_same w4 w.heap.size 4 _ #[.int .i64 0, .int .i64 0, .int .i64 0, .string ⟨#[]⟩, .slice none 0 0, .slice none 0 0, .bool false, .bool false] _ _ Q4.out
    have t5 := cell_setRow_same w4 w.heap.size 5 _ #[.int .i64 0, .int .i64 0, .int .i64 0, .string ⟨#[]⟩, .slice none 0 0, .slice none 0 0, .bool false, .bool false] _ _ Q4.out
    have t6 := cell_setRow_same w4 w.heap.size 6 _ #[.int .i64 0, .int .i64 0, .int .i64 0, .string ⟨#[]⟩, .slice none 0 0, .slice none 0 0, .bool false, .bool false] _ _ Q4.out
    have t7 := cell_setRow_same w4 w.heap.size 7 _ #[.int .i64 0, .int .i64 0, .int .i64 0, .string ⟨#[]⟩, .slice none 0 0, .slice none 0 0, .bool false, .bool false] _ _ Q4.out
    go_upto_region 4 with (fail)
    repeat (first | refine wpList_store_row rfl _ _ _ rfl w.heap.size #[.int .i64 0, .int .i64 0, .int .i64 0, .string ⟨#[]⟩, .slice none 0 0, .slice none 0 0, .bool false, .bool false] rfl rfl 181 _ Q4.out (by kernel_rfl) rfl (by simp [Value.oneCell']) ?_ | go_step)
    exact bodyPost_ret (v := .tuple #[.agg #[.int .i64 0, .int .i64 0, .int .i64 0, .string ⟨#[]⟩, .slice none 0 0, .slice none 0 0, .bool false, .bool false], .bool false]) (by simp [results, Tryz.results148, go_sem, t0, t1, t2, t3, t4, t5, t6, t7]) rfl ⟨rfl, HbF.out⟩
  · have hend : endedB b n = true := by
      have h := Href.out
      unfold refS at h
      cases he : endedB b n with
      | true => rfl
      | false =>
        rw [if_neg (by rw [he]; simp; omega)] at h
        have := ixOf_lt (p := fun s : Sb => decide (s.id = n)) (l := b.subs) (by unfold subIx at hneg; omega)
        have h2 : (subIx b n).toNat < b.subs.length := this.1
        rw [List.getElem?_eq_getElem h2] at h
        cases h
    have HEn := Lib.hid (ended_calls _ _ _ X b n w4 Hbk4.out)
    rw [hend] at HEn
    have p0 := cell_of_row w4 _ 0 _ _ _ R4.out
    have p1 := cell_of_row w4 _ 1 _ _ _ R4.out
    have p2 := cell_of_row w4 _ 2 _ _ _ R4.out
    clear hend
    go_wp2_with fail
    refine HEn.out.mono ?_
    rintro e w5 ⟨rfl, hb5⟩
    have Hb5 := Lib.hid (Hb4.out.trans (hb5.mono Hb4.out.size))
    have Q5 := Lib.hid ((hb5.block _ (Array.getElem?_eq_some_iff.1 Q4.out).1).trans Q4.out)
    clear hb5 p0 p1 p2
    have HbF := Lib.hid (below_setRow1 (Hw0.out.trans (Hb5.out.mono Hw0.out.size)) (Nat.le_refl w.heap.size) #[.int .i64 0, .int .i64 0, .int .i64 0, .string ⟨#[]⟩, .slice none 0 0, .slice none 0 0, .bool false, .bool false])
    have t0 := cell_setRow_same w5 w.heap.size 0 _ #[.int .i64 0, .int .i64 0, .int .i64 0, .string ⟨#[]⟩, .slice none 0 0, .slice none 0 0, .bool false, .bool false] _ _ Q5.out
    have t1 := cell_setRow_same w5 w.heap.size 1 _ #[.int .i64 0, .int .i64 0, .int .i64 0, .string ⟨#[]⟩, .slice none 0 0, .slice none 0 0, .bool false, .bool false] _ _ Q5.out
    have t2 := cell_setRow_same w5 w.heap.size 2 _ #[.int .i64 0, .int .i64 0, .int .i64 0, .string ⟨#[]⟩, .slice none 0 0, .slice none 0 0, .bool false, .bool false] _ _ Q5.out
    have t3 := cell_setRow_same w5 w.heap.size 3 _ #[.int .i64 0, .int .i64 0, .int .i64 0, .string ⟨#[]⟩, .slice none 0 0, .slice none 0 0, .bool false, .bool false] _ _ Q5.out
    have t4 := cell_setRow_same w5 w.heap.size 4 _ #[.int .i64 0, .int .i64 0, .int .i64 0, .string ⟨#[]⟩, .slice none 0 0, .slice none 0 0, .bool false, .bool false] _ _ Q5.out
    have t5 := cell_setRow_same w5 w.heap.size 5 _ #[.int .i64 0, .int .i64 0, .int .i64 0, .string ⟨#[]⟩, .slice none 0 0, .slice none 0 0, .bool false, .bool false] _ _ Q5.out
    have t6 := cell_setRow_same w5 w.heap.size 6 _ #[.int .i64 0, .int .i64 0, .int .i64 0, .string ⟨#[]⟩, .slice none 0 0, .slice none 0 0, .bool false, .bool false] _ _ Q5.out
    have t7 := cell_setRow_same w5 w.heap.size 7 _ #[.int .i64 0, .int .i64 0, .int .i64 0, .string ⟨#[]⟩, .slice none 0 0, .slice none 0 0, .bool false, .bool false] _ _ Q5.out
    go_upto_region 4 with (fail)
    repeat (first | refine wpList_store_row rfl _ _ _ rfl w.heap.size #[.int .i64 0, .int .i64 0, .int .i64 0, .string ⟨#[]⟩, .slice none 0 0, .slice none 0 0, .bool false, .bool false] rfl rfl 181 _ Q5.out (by kernel_rfl) rfl (by simp [Value.oneCell']) ?_ | go_step)
    exact bodyPost_ret (v := .tuple #[.agg #[.int .i64 0, .int .i64 0, .int .i64 0, .string ⟨#[]⟩, .slice none 0 0, .slice none 0 0, .bool false, .bool false], .bool false]) (by simp [results, Tryz.results148, go_sem, t0, t1, t2, t3, t4, t5, t6, t7]) rfl ⟨rfl, HbF.out⟩

def SubSome (q : Sb) (w : World) (e : Ending) (w' : World) : Prop := ∃ x : SbX, x.s = q ∧ e = .returned (.tuple #[sbVal x, .bool true]) ∧ StrsAt w' (.slice x.pa x.pn x.pc) x.s.prs ∧ x.s.plan.size ≤ maxLen ∧ FreshA w.heap.size x.pa ∧ Below w.heap.size w w'

set_option maxRecDepth 100000 in
set_option maxHeartbeats 6400000 in
theorem rsub_some (v : Value) (l : List Ev) (n t : Int) (w : World) (h : EvsAt w v l) (hl : l.length ≤ 1000) (hr : OkRun l) (q : Sb) (href : refS (bookOf (uptoE l t)) n = some q) :
    Calls Tryz.prog 148 #[v, .int .i64 n, .int .i64 t] w (SubSome q w) := by
  obtain ⟨W, hW⟩ : ∃ W, W = w.alloc (Obj.cells #[.int .i64 0, .int .i64 0, .int .i64 0, .string ⟨#[]⟩, .slice none 0 0, .slice none 0 0, .bool false, .bool false] 181) := ⟨_, rfl⟩
  have hw0 : Below w.heap.size w W := by rw [hW]; go_grown
  have hz : W.heap.size = w.heap.size + 1 := by rw [hW]; simp
  have R0 := Lib.hid (show W.heap[w.heap.size]? = some (Obj.cells #[.int .i64 0, .int .i64 0, .int .i64 0, .string ⟨#[]⟩, .slice none 0 0, .slice none 0 0, .bool false, .bool false] 181) by rw [hW]; exact heap_alloc_new _ _)
  have HU := Lib.hid (upto_calls v l t W (h.below hw0) hl hr)
  have HL := Lib.hid (show (bookOf (uptoE l t)).subs.length ≤ 1000 by
    obtain ⟨g1, g2⟩ := upto_take hr t
    rw [g1]
    exact Nat.le_trans (small_book l _ g2).s (by omega))
  have HW := Lib.hid hW
  have Hw0 := Lib.hid hw0
  obtain ⟨av, cap, rfl, hlc, hcm⟩ := rec_shape h.1
  have Hz := Lib.hid hz
  have Href := Lib.hid href
  clear h hW hw0 hlc hcm hr hl hz href
  generalize hbk : bookOf (uptoE l t) = b at *
  clear hbk
  go_enter Tryz.func148, Tryz.ntmps148
  go_upto_region 1 with (fail)
  rw [← HW.out]
  go_wp2_with fail
  refine HU.out.mono ?_
  rintro e w2 ⟨a1, a2, a3, n1, n2, n3, c1, c2, c3, X, rfl, hbk2, hf2, hb2⟩
  have Hf2 := Lib.hid hf2
  obtain ⟨w3, hw3⟩ : ∃ w3, w3 = w2.alloc (Obj.cells #[.slice a1 n1 c1, .slice a2 n2 c2, .slice a3 n3 c3] 142) := ⟨_, rfl⟩
  have hb3 : Below w2.heap.size w2 w3 := by rw [hw3]; go_grown
  have R3 := Lib.hid (show w3.heap[w2.heap.size]? = some (Obj.cells #[.slice a1 n1 c1, .slice a2 n2 c2, .slice a3 n3 c3] 142) by rw [hw3]; exact heap_alloc_new _ _)
  have Hbk3 := Lib.hid (hbk2.below hb3)
  have Hb3 := Lib.hid (hb2.trans (hb3.mono hb2.size))
  have Hw3 := Lib.hid hw3
  clear hbk2 hf2 hb2 hw3 hb3
  have p0 := cell_of_row w3 _ 0 _ _ _ R3.out
  have p1 := cell_of_row w3 _ 1 _ _ _ R3.out
  have p2 := cell_of_row w3 _ 2 _ _ _ R3.out
  have HS := Lib.hid (sub_calls _ _ _ X b n w3 Hbk3.out)
  go_upto_region 2 with (fail)
  rw [← Hw3.out]
  go_wp2_with fail
  refine HS.out.mono ?_
  rintro e w4 ⟨rfl, hb4⟩
  have Hb4 := Lib.hid (Hb3.out.trans (hb4.mono Hb3.out.size))
  have R4 := Lib.hid ((hb4.block _ (Array.getElem?_eq_some_iff.1 R3.out).1).trans R3.out)
  have Hbk4 := Lib.hid (Hbk3.out.below hb4)
  have Q4 := Lib.hid ((Hb4.out.block w.heap.size (by rw [Hz.out]; omega)).trans R0.out)
  clear hb4 p0 p1 p2
  have hneg : ¬ subIx b n < 0 := fun hc => by
    have h := Href.out
    unfold refS at h
    rw [if_pos (Or.inl hc)] at h
    cases h
  have hend : endedB b n = false := by
    have h := Href.out
    unfold refS at h
    cases he : endedB b n with
    | false => rfl
    | true =>
      rw [if_pos (Or.inr he)] at h
      cases h
  obtain ⟨k, hkb, hix, -⟩ := ixOf_yes (p := fun s : Sb => decide (s.id = n)) (l := b.subs) (by unfold subIx at hneg; omega)
  have hix : subIx b n = k := hix
  have hkX : k < X.length := by rw [Hbk4.out.len]; exact hkb
  have HXq := Lib.hid (show (X[k]).s = q by
    have h := Href.out
    unfold refS at h
    rw [if_neg (by rw [hend]; simp; omega), hix, Int.toNat_natCast] at h
    have h1 : (X.map (·.s))[k]? = b.subs[k]? := by rw [Hbk4.out.x]
    rw [List.getElem?_map, List.getElem?_eq_getElem hkX, h] at h1
    simpa using h1)
  have HEn := Lib.hid (ended_calls _ _ _ X b n w4 Hbk4.out)
  rw [hend] at HEn
  have p0 := cell_of_row w4 _ 0 _ _ _ R4.out
  have p1 := cell_of_row w4 _ 1 _ _ _ R4.out
  have p2 := cell_of_row w4 _ 2 _ _ _ R4.out
  rw [hix]
  have hk0 : (0 : Int) ≤ (k : Int) := Int.natCast_nonneg _
  have hXl : X.length ≤ 1000 := by rw [Hbk4.out.len]; exact HL.out
  clear hend hneg hix
  go_wp2_with fail
  refine HEn.out.mono ?_
  rintro e w5 ⟨rfl, hb5⟩
  have Hb5 := Lib.hid (Hb4.out.trans (hb5.mono Hb4.out.size))
  have Q5 := Lib.hid ((hb5.block _ (Array.getElem?_eq_some_iff.1 Q4.out).1).trans Q4.out)
  have R5 := Lib.hid ((hb5.block _ (Array.getElem?_eq_some_iff.1 R4.out).1).trans R4.out)
  have Hbk5 := Lib.hid (Hbk4.out.below hb5)
  have HRd := Lib.hid (Hbk5.out.r X[k] (List.getElem_mem hkX))
  have HFr := Lib.hid (Hf2.out X[k] (List.getElem_mem hkX))
  clear hb5 p0 p1 p2
  have p1 := cell_of_row w5 _ 1 _ _ _ R5.out
  have hkl : (k : Int) < (X.length : Int) := by omega
  obtain ⟨ay, cy, ey, -, -, hx⟩ := Hbk5.out.s
  cases ey
  obtain ⟨bb, o, rfl, hB, hx⟩ := hx (by rintro rfl; cases hkX)
  have hx := hx k hkX
  have x0 : w5.cell? ⟨bb, o + k * 8, none⟩ = some (.int .i64 (X[k]).s.id) := hx 0 (by decide)
  have x1 : w5.cell? ⟨bb, o + k * 8 + 1, none⟩ = some (.int .i64 (X[k]).s.ac) := hx 1 (by decide)
  have x2 : w5.cell? ⟨bb, o + k * 8 + 2, none⟩ = some (.int .i64 (X[k]).s.si) := hx 2 (by decide)
  have x3 : w5.cell? ⟨bb, o + k * 8 + 3, none⟩ = some (.string (X[k]).s.plan) := hx 3 (by decide)
  have x4 : w5.cell? ⟨bb, o + k * 8 + 4, none⟩ = some (.slice (X[k]).na (X[k]).nn (X[k]).nc) := hx 4 (by decide)
  have x5 : w5.cell? ⟨bb, o + k * 8 + 5, none⟩ = some (.slice (X[k]).pa (X[k]).pn (X[k]).pc) := hx 5 (by decide)
  have x6 : w5.cell? ⟨bb, o + k * 8 + 6, none⟩ = some (.bool (X[k]).s.su) := hx 6 (by decide)
  have x7 : w5.cell? ⟨bb, o + k * 8 + 7, none⟩ = some (.bool (X[k]).s.fa) := hx 7 (by decide)
  clear hx hB
  generalize X[k] = x at *
  have HbF := Lib.hid (below_setRow1 (Hw0.out.trans (Hb5.out.mono Hw0.out.size)) (Nat.le_refl w.heap.size) #[.int .i64 x.s.id, .int .i64 x.s.ac, .int .i64 x.s.si, .string x.s.plan, .slice x.na x.nn x.nc, .slice x.pa x.pn x.pc, .bool x.s.su, .bool x.s.fa])
  have HSt := Lib.hid (show StrsAt (w5.setRow w.heap.size #[.int .i64 x.s.id, .int .i64 x.s.ac, .int .i64 x.s.si, .string x.s.plan, .slice x.na x.nn x.nc, .slice x.pa x.pn x.pc, .bool x.s.su, .bool x.s.fa]) (.slice x.pa x.pn x.pc) x.s.prs from strs_hold HRd.out.2.1 HFr.out (fun g hg _ => setRow_other _ _ _ _ (by have := Hz.out; omega)) (by rw [setRow_size]; exact Nat.le_refl _))
  have t0 := cell_setRow_same w5 w.heap.size 0 _ #[.int .i64 x.s.id, .int .i64 x.s.ac, .int .i64 x.s.si, .string x.s.plan, .slice x.na x.nn x.nc, .slice x.pa x.pn x.pc, .bool x.s.su, .bool x.s.fa] _ _ Q5.out
  have t1 := cell_setRow_same w5 w.heap.size 1 _ #[.int .i64 x.s.id, .int .i64 x.s.ac, .int .i64 x.s.si, .string x.s.plan, .slice x.na x.nn x.nc, .slice x.pa x.pn x.pc, .bool x.s.su, .bool x.s.fa] _ _ Q5.out
  have t2 := cell_setRow_same w5 w.heap.size 2 _ #[.int .i64 x.s.id, .int .i64 x.s.ac, .int .i64 x.s.si, .string x.s.plan, .slice x.na x.nn x.nc, .slice x.pa x.pn x.pc, .bool x.s.su, .bool x.s.fa] _ _ Q5.out
  have t3 := cell_setRow_same w5 w.heap.size 3 _ #[.int .i64 x.s.id, .int .i64 x.s.ac, .int .i64 x.s.si, .string x.s.plan, .slice x.na x.nn x.nc, .slice x.pa x.pn x.pc, .bool x.s.su, .bool x.s.fa] _ _ Q5.out
  have t4 := cell_setRow_same w5 w.heap.size 4 _ #[.int .i64 x.s.id, .int .i64 x.s.ac, .int .i64 x.s.si, .string x.s.plan, .slice x.na x.nn x.nc, .slice x.pa x.pn x.pc, .bool x.s.su, .bool x.s.fa] _ _ Q5.out
  have t5 := cell_setRow_same w5 w.heap.size 5 _ #[.int .i64 x.s.id, .int .i64 x.s.ac, .int .i64 x.s.si, .string x.s.plan, .slice x.na x.nn x.nc, .slice x.pa x.pn x.pc, .bool x.s.su, .bool x.s.fa] _ _ Q5.out
  have t6 := cell_setRow_same w5 w.heap.size 6 _ #[.int .i64 x.s.id, .int .i64 x.s.ac, .int .i64 x.s.si, .string x.s.plan, .slice x.na x.nn x.nc, .slice x.pa x.pn x.pc, .bool x.s.su, .bool x.s.fa] _ _ Q5.out
  have t7 := cell_setRow_same w5 w.heap.size 7 _ #[.int .i64 x.s.id, .int .i64 x.s.ac, .int .i64 x.s.si, .string x.s.plan, .slice x.na x.nn x.nc, .slice x.pa x.pn x.pc, .bool x.s.su, .bool x.s.fa] _ _ Q5.out
  go_upto_region 5 with (fail)
  repeat (first | refine wpList_store_row rfl _ _ _ rfl w.heap.size #[.int .i64 x.s.id, .int .i64 x.s.ac, .int .i64 x.s.si, .string x.s.plan, .slice x.na x.nn x.nc, .slice x.pa x.pn x.pc, .bool x.s.su, .bool x.s.fa] rfl rfl 181 _ Q5.out (by kernel_rfl) rfl (by simp [Value.oneCell']) ?_ | go_step)
  exact bodyPost_ret (v := .tuple #[.agg #[.int .i64 x.s.id, .int .i64 x.s.ac, .int .i64 x.s.si, .string x.s.plan, .slice x.na x.nn x.nc, .slice x.pa x.pn x.pc, .bool x.s.su, .bool x.s.fa], .bool true]) (by simp [results, Tryz.results148, go_sem, t0, t1, t2, t3, t4, t5, t6, t7]) rfl ⟨x, HXq.out, rfl, HSt.out, HRd.out.2.2.1, HFr.out.mono (by rw [Hz.out]; omega), HbF.out⟩
end Go.Proofs.YtngippiilgdnoaaGreat
