/-
  The walk of the spells of a subscription.
  The walks of the reference's comparison of texts and of spells.
  The walk of the reference's spells.
  The walk of the periods in which a subscription has a product.
-/
import Derived.Test.YtngippiilgdnoaaGreatMgbr
import Derived.Test.YtngippiilgdnoaaGreatMgae
import Derived.Test.YtngippiilgdnoaaGreatMgaz
import Derived.Test.YtngippiilgdnoaaGreatMgbe
import Derived.Test.YtngippiilgdnoaaGreatMgaq
import Derived.Test.YtngippiilgdnoaaGreatMgaf
import Derived.Test.YtngippiilgdnoaaGreatMgbq
namespace Go.Proofs.YtngippiilgdnoaaGreat
open Go.RowKit

def spCells (p : Int × Int × SbX) : List Value := [.int .i64 p.1, .int .i64 p.2.1, .string p.2.2.s.plan, .slice p.2.2.pa p.2.2.pn p.2.2.pc, .bool p.2.2.s.su, .bool p.2.2.s.fa]
def spVal (p : Int × Int × SbX) : Value := .agg (spCells p).toArray
def plainSp (S : List (Int × Int × SbX)) : List Sp := S.map fun p => ⟨p.1, p.2.1, p.2.2.s⟩
theorem plainSp_len (S : List (Int × Int × SbX)) : (plainSp S).length = S.length := List.length_map _
theorem plainSp_snoc (S : List (Int × Int × SbX)) (p : Int × Int × SbX) : plainSp (S ++ [p]) = plainSp S ++ [⟨p.1, p.2.1, p.2.2.s⟩] := by unfold plainSp; rw [List.map_append]; rfl
theorem sp_one (p : Int × Int × SbX) : ∀ u ∈ spCells p, u.oneCell' = true := by
  intro u hu
  unfold spCells at hu
  simp only [List.mem_cons, List.not_mem_nil, or_false] at hu
  rcases hu with rfl | rfl | rfl | rfl | rfl | rfl <;> rfl
theorem Tryz.spellInfo : (Tryz.prog.info? 169).map (fun i => (i.zero, i.size, i.bytes)) = some (some (.agg #[.int .i64 0, .int .i64 0, .string ⟨#[]⟩, .slice none 0 0, .bool false, .bool false]), 6, 64) := by kernel_rfl
def SpsOk (base : Nat) (w : World) (S : List (Int × Int × SbX)) : Prop := ∀ p ∈ S, SbO base w p.2.2
theorem SpsOk.below {base : Nat} {w w' : World} {S : List (Int × Int × SbX)} (h : SpsOk base w S) (hb : Below w.heap.size w w') : SpsOk base w' S := fun p hp => (h p hp).below hb
/-- A subscription stays while a row of other records grows. -/
theorem SbO.growT {base base' : Nat} {w w' : World} {x : SbX} (h : SbO base w x) {v : Value} {e : TypeId} {sz n : Nat} {xs : List Value} (ho : w.ownsRow base' e sz v n xs) (he : e ≠ 9) (hg : w.grownBy w' v.ownBlock) : SbO base w' x :=
  ⟨own_grow h.row hg (own_other2 h.row ho he), h.na, h.nn, h.nc, h.nus, h.plan, h.sizes⟩
theorem SbO.down {b b' : Nat} {w : World} {x : SbX} (h : SbO b w x) (hb : b' ≤ b) : SbO b' w x := ⟨own_down h.row hb, h.na, h.nn, h.nc, h.nus, h.plan, h.sizes⟩
def SpsTo (N : List Sp) (w : World) (e : Ending) (w' : World) : Prop := ∃ (a : Option Addr) (c : Nat) (S : List (Int × Int × SbX)), e = .returned (.slice a S.length c) ∧ w'.ownsRow w.heap.size 169 6 (.slice a S.length c) S.length (S.flatMap spCells) ∧ plainSp S = N ∧ SpsOk w.heap.size w' S ∧ Below w.heap.size w w'
theorem rec_block {α : Type} {c : α → List Value} {sz : Nat} {w : World} {g : Nat} {cs : Array Value} {t : TypeId} {fr : Nat × Nat} (hg : w.heap[g]? = some (.cells cs t fr)) (x : α) (h : cs = (c x).toArray) : RecAt c sz w (.slice (some ⟨g, 0, none⟩) 1 1) [x] := by
  subst h
  refine ⟨_, 1, rfl, Nat.le_refl _, ⟨by decide, fun h => by cases h⟩, fun _ => ⟨g, 0, rfl, (Array.getElem?_eq_some_iff.1 hg).1, fun i hi => ?_⟩⟩
  obtain rfl : i = 0 := by simpa using hi
  intro j hj
  rw [cell_of_row _ _ _ _ _ _ hg]
  simp
def spPhi (Y : World) (gx : Nat) (a : Option Addr) (n cp : Nat) (nx : Int) (x : Int × SbX) : Nat → Value → World → Prop
  | 0, v, _ => v = .slice a n cp
  | 1, v, _ => v = .agg #[.int .i64 x.1, .int .i64 nx]
  | 2, v, _ => v = .pointer (some ⟨gx, 1, none⟩)
  | 3, v, _ => v = .pointer (some ⟨gx, 4, none⟩)
  | 4, v, _ => v = .string x.2.s.plan
  | 5, v, _ => v = .pointer (some ⟨gx, 1, none⟩)
  | 6, v, _ => v = .pointer (some ⟨gx, 6, none⟩)
  | 7, v, _ => v = .slice x.2.pa x.2.pn x.2.pc
  | 8, v, w => ∃ (pa : Option Addr) (pn pc : Nat), v = .slice pa pn pc ∧ w.ownsRow Y.heap.size 9 1 (.slice pa pn pc) x.2.s.prs.length (x.2.s.prs.flatMap strCells)
  | 9, v, _ => v = .pointer (some ⟨gx, 1, none⟩)
  | 10, v, _ => v = .pointer (some ⟨gx, 7, none⟩)
  | 11, v, _ => v = .bool x.2.s.su
  | 12, v, _ => v = .pointer (some ⟨gx, 1, none⟩)
  | 13, v, _ => v = .pointer (some ⟨gx, 8, none⟩)
  | 14, v, _ => v = .bool x.2.s.fa
  | 15, v, w => ∃ (pa : Option Addr) (pn pc : Nat), v = .agg #[.int .i64 x.1, .int .i64 nx, .string x.2.s.plan, .slice pa pn pc, .bool x.2.s.su, .bool x.2.s.fa] ∧ w.ownsRow Y.heap.size 9 1 (.slice pa pn pc) x.2.s.prs.length (x.2.s.prs.flatMap strCells)
  | 16, v, w => ∃ (g : Nat) (pa : Option Addr) (pn pc : Nat), v = .slice (some ⟨g, 0, none⟩) 1 1 ∧ w.heap[g]? = some (.cells #[.int .i64 x.1, .int .i64 nx, .string x.2.s.plan, .slice pa pn pc, .bool x.2.s.su, .bool x.2.s.fa] 169) ∧ w.ownsRow Y.heap.size 9 1 (.slice pa pn pc) x.2.s.prs.length (x.2.s.prs.flatMap strCells)
  | _ + 17, _, _ => True
theorem spPhi_stays {Y : World} {gx : Nat} {a : Option Addr} {n cp : Nat} {nx : Int} {x : Int × SbX} {w1 w2 : World} (hb : Below w1.heap.size w1 w2) : ∀ j y, spPhi Y gx a n cp nx x j y w1 → spPhi Y gx a n cp nx x j y w2
  | 0, _, h => h
  | 1, _, h => h
  | 2, _, h => h
  | 3, _, h => h
  | 4, _, h => h
  | 5, _, h => h
  | 6, _, h => h
  | 7, _, h => h
  | 9, _, h => h
  | 10, _, h => h
  | 11, _, h => h
  | 12, _, h => h
  | 13, _, h => h
  | 14, _, h => h
  | 8, _, ⟨pa, pn, pc, h1, h2⟩ => ⟨pa, pn, pc, h1, ownsRow_below h2 hb⟩
  | 15, _, ⟨pa, pn, pc, h1, h2⟩ => ⟨pa, pn, pc, h1, ownsRow_below h2 hb⟩
  | 16, _, ⟨g, pa, pn, pc, h1, h2, h3⟩ => ⟨g, pa, pn, pc, h1, (hb.block _ (Array.getElem?_eq_some_iff.1 h2).1).trans h2, ownsRow_below h3 hb⟩
  | _ + 17, _, _ => trivial

theorem plainM_get (X : List (Int × SbX)) (k : Nat) (h : k < X.length) : (plainM X)[k]'(by rw [plainM_len]; exact h) = ((X[k]).1, (X[k]).2.s) := List.getElem_map _
theorem momF_prs (n : Int) (l : List Ev) : ∀ k, k ≤ l.length → ∀ q ∈ (momF n (l.take k)).1, q.2.prs.length ≤ k
  | 0, _ => fun q hq => by rw [List.take_zero] at hq; cases hq
  | k + 1, hk => by
    have ih := momF_prs n l k (by omega)
    have h2 := prs_len n l (k + 1) hk
    rw [momF_take n l k (by omega)] at h2 ⊢
    generalize l[k]'(by omega) = e at h2 ⊢
    unfold momStep at h2 ⊢
    split
    · intro q hq; have := ih q hq; omega
    · rename_i hc
      rw [if_neg hc] at h2
      dsimp only at h2 ⊢
      intro q hq
      unfold putM at hq
      split at hq
      · split at hq
        · rcases List.mem_append.1 hq with hq | hq
          · have := ih q ((List.dropLast_sublist _).mem hq); omega
          · rw [List.mem_singleton.1 hq]; exact h2
        · rcases List.mem_append.1 hq with hq | hq
          · have := ih q hq; omega
          · rw [List.mem_singleton.1 hq]; exact h2
      · rw [List.mem_singleton.1 hq]; exact h2
theorem jmL_mem (M : List (Int × Sb)) : ∀ k, k ≤ M.length → ∀ q ∈ jmL (M.take k), q ∈ M
  | 0, _ => fun q hq => by rw [List.take_zero] at hq; cases hq
  | k + 1, hk => by
    have ih := jmL_mem M k (by omega)
    rw [jmL_take M k (by omega)]
    intro q hq
    unfold jmStep at hq
    split at hq
    · split at hq
      · exact ih q hq
      · rcases List.mem_append.1 hq with hq | hq
        · exact ih q hq
        · rw [List.mem_singleton.1 hq]; exact List.getElem_mem _
    · rw [List.mem_singleton.1 hq]; exact List.getElem_mem _

set_option maxRecDepth 100000 in
set_option maxHeartbeats 12800000 in
theorem spells_calls (v : Value) (l : List Ev) (n : Int) (w : World) (h : EvsAt w v l) (hl : l.length ≤ 1000) :
    Calls Tryz.prog 144 #[v, .int .i64 n] w (SpsTo (spellsL n l) w) := by
  have HMo := Lib.hid (moments_calls v l n w h hl)
  have HMl := Lib.hid (momF_len n l l.length (Nat.le_refl _))
  rw [List.take_of_length_le (Nat.le_refl _)] at HMl
  obtain ⟨av, cap, rfl, hcl, hcm⟩ := rec_shape h.1
  clear h hcl hcm
  go_enter Tryz.func144, Tryz.ntmps144
  go_wp2_with fail
  refine HMo.out.mono ?_
  rintro e w1 ⟨a1, c1, X1, rfl, own1, hp1, hok1, hb1⟩
  have hX1 : X1.length ≤ 1000 := by
    have h := HMl.out
    rw [← hp1, plainM_len] at h; omega
  have HJo := Lib.hid (joinedM_calls w.heap.size (.slice a1 X1.length c1) X1 w1 (RecAt.own (fun _ => rfl) own1) (by omega) hok1)
  have Hp1 := Lib.hid hp1
  have Hok1 := Lib.hid hok1
  have Hb1 := Lib.hid hb1
  clear own1 hp1 hok1 hb1 HMo HMl
  go_wp2_with fail
  refine HJo.out.mono ?_
  rintro e w2 ⟨a2, c2, X, rfl, own2, hp2, hmem, hb2⟩
  have HpX := Lib.hid (show plainM X = jmL (momF n l).1 by rw [hp2, Hp1.out])
  have HokX := Lib.hid (show MmsOk w.heap.size w2 X from fun p hp => ((Hok1.out p (hmem p hp)).below hb2))
  have HX := Lib.hid (show RecAt mmCells 9 w2 (.slice a2 X.length c2) X from RecAt.own (fun _ => rfl) own2)
  have HbX := Lib.hid (Hb1.out.trans (hb2.mono Hb1.out.size))
  have hXl : X.length ≤ 1000 := by
    have h1 := jmL_len (plainM X1) _ (Nat.le_refl _)
    rw [List.take_of_length_le (Nat.le_refl _), ← hp2, plainM_len, plainM_len] at h1; omega
  obtain ⟨ax, cx, ecx, hcx1, hcx2⟩ := own_shape own2
  cases ecx
  unfold maxLen at hcx2
  clear own2 hp2 hmem hb2 Hp1 Hok1 Hb1 HJo hX1
  go_wp2_with fail
  go_loopw [6, 16] (fun vo i wr => ∃ (k : Nat) (S : List (Int × Int × SbX)), k ≤ X.length ∧ i = .int .i64 k ∧ RowKit.Hid (plainSp S = spUpto (plainM X) k) ∧ wr.ownsRow w2.heap.size 169 6 vo S.length (S.flatMap spCells) ∧ SpsOk w2.heap.size wr S ∧ Below w2.heap.size w2 wr) (fun _ i _ => X.length - (intOf i).toNat)
  case atStart => exact ⟨0, [], Nat.zero_le _, rfl, Lib.hid rfl, World.ownsRow_nil _ _ _ _, (fun p hp => by cases hp), Below.refl _ _⟩
  case round =>
    obtain ⟨wo, rfl⟩ : ∃ wo : World, wo = wr := ⟨_, rfl⟩
    obtain ⟨k, S, hk, rfl, HP, hown, hok, hb⟩ := hrel
    obtain ⟨a, cp, rfl, hc1, hc2⟩ := own_shape hown
    unfold maxLen at hc2
    have Hown := Lib.hid hown
    have Hok := Lib.hid hok
    have Hb := Lib.hid hb
    have hSl : S.length ≤ 1000 := by
      have h := spUpto_len (plainM X) k
      rw [← HP.out, plainSp_len] at h; omega
    by_cases hlt : k < X.length
    · have hk1 : (k : Int) < (X.length : Int) := by omega
      have hk0 : (0 : Int) ≤ (k : Int) := Int.natCast_nonneg _
      have hlp : k < (plainM X).length := by rw [plainM_len]; exact hlt
      have HSu := Lib.hid (show spUpto (plainM X) (k + 1) = spUpto (plainM X) k ++ (if (X[k]).2.s.id = 0 then [] else [⟨(X[k]).1, nextAt (plainM X) k, (X[k]).2.s⟩]) by
        rw [spUpto_succ, spOne_at hlp, plainM_get X k hlt])
      have HPb := Lib.hid (show (X[k]).2.s.prs.length ≤ 1000 by
        have h1 : (plainM X)[k]'hlp ∈ jmL (momF n l).1 := by rw [← HpX.out]; exact List.getElem_mem _
        have h2 := jmL_mem (momF n l).1 _ (Nat.le_refl _)
        rw [List.take_of_length_le (Nat.le_refl _)] at h2
        have h3 := momF_prs n l l.length (Nat.le_refl _)
        rw [List.take_of_length_le (Nat.le_refl _)] at h3
        have h4 := h3 _ (h2 _ h1)
        rw [plainM_get X k hlt] at h4
        dsimp only at h4
        omega)
      have HSo := Lib.hid ((HokX.out _ (List.getElem_mem hlt)).below hb)
      have HXw := Lib.hid (HX.out.below hb)
      obtain ⟨a3, c3, e3, -, -, hx⟩ := HXw.out
      cases e3
      obtain ⟨bb, o, rfl, hB, hx⟩ := hx (by rintro rfl; cases hlt)
      have HNx := Lib.hid (show ∀ h : k + 1 < X.length, nextAt (plainM X) k = (X[k + 1]).1 ∧ wo.cell? ⟨bb, o + (k + 1) * 9, none⟩ = some (.int .i64 (X[k + 1]).1) from fun h => by
        refine ⟨?_, hx (k + 1) h 0 (by decide)⟩
        rw [nextAt_lt (by rw [plainM_len]; exact h), plainM_get X (k + 1) h])
      have HNe := Lib.hid (show ¬ k + 1 < X.length → nextAt (plainM X) k = 12622780800 from fun h => nextAt_end (by rw [plainM_len]; omega))
      have hx := hx k hlt
      have x0 : wo.cell? ⟨bb, o + k * 9, none⟩ = some (.int .i64 (X[k]).1) := hx 0 (by decide)
      have x1 : wo.cell? ⟨bb, o + k * 9 + 1, none⟩ = some (.int .i64 (X[k]).2.s.id) := hx 1 (by decide)
      have x2 : wo.cell? ⟨bb, o + k * 9 + 2, none⟩ = some (.int .i64 (X[k]).2.s.ac) := hx 2 (by decide)
      have x3 : wo.cell? ⟨bb, o + k * 9 + 3, none⟩ = some (.int .i64 (X[k]).2.s.si) := hx 3 (by decide)
      have x4 : wo.cell? ⟨bb, o + k * 9 + 4, none⟩ = some (.string (X[k]).2.s.plan) := hx 4 (by decide)
      have x5 : wo.cell? ⟨bb, o + k * 9 + 5, none⟩ = some (.slice (X[k]).2.na (X[k]).2.nn (X[k]).2.nc) := hx 5 (by decide)
      have x6 : wo.cell? ⟨bb, o + k * 9 + 6, none⟩ = some (.slice (X[k]).2.pa (X[k]).2.pn (X[k]).2.pc) := hx 6 (by decide)
      have x7 : wo.cell? ⟨bb, o + k * 9 + 7, none⟩ = some (.bool (X[k]).2.s.su) := hx 7 (by decide)
      have x8 : wo.cell? ⟨bb, o + k * 9 + 8, none⟩ = some (.bool (X[k]).2.s.fa) := hx 8 (by decide)
      clear hx hown hok hb hlp
      generalize X[k] = x at *
      obtain ⟨nx, hnx⟩ : ∃ nx, nx = nextAt (plainM X) k := ⟨_, rfl⟩
      rw [← hnx] at HSu HNx HNe
      clear hnx
      obtain ⟨Y, hY⟩ : ∃ Y, Y = wo.alloc (Obj.cells #[.int .i64 x.1, .int .i64 x.2.s.id, .int .i64 x.2.s.ac, .int .i64 x.2.s.si, .string x.2.s.plan, .slice x.2.na x.2.nn x.2.nc, .slice x.2.pa x.2.pn x.2.pc, .bool x.2.s.su, .bool x.2.s.fa] 239) := ⟨_, rfl⟩
      have hbY : Below wo.heap.size wo Y := by rw [hY]; go_grown
      have HYr := Lib.hid (show Y.heap[wo.heap.size]? = some (Obj.cells #[.int .i64 x.1, .int .i64 x.2.s.id, .int .i64 x.2.s.ac, .int .i64 x.2.s.si, .string x.2.s.plan, .slice x.2.na x.2.nn x.2.nc, .slice x.2.pa x.2.pn x.2.pc, .bool x.2.s.su, .bool x.2.s.fa] 239) by rw [hY]; exact heap_alloc_new _ _)
      have HbYo := Lib.hid hbY
      have HbY := Lib.hid (Hb.out.trans (hbY.mono Hb.out.size))
      have hwY : wo.heap.size < Y.heap.size := (Array.getElem?_eq_some_iff.1 HYr.out).1
      have hBY : bb < Y.heap.size := by omega
      have HY := Lib.hid hY
      clear hbY hY
      have y1 : Y.cell? ⟨wo.heap.size, 1, none⟩ = some (.int .i64 x.2.s.id) := cell_of_row Y _ 1 _ _ _ HYr.out
      by_cases hid : x.2.s.id = 0
      · have hi1 : (x.2.s.id == 0) = true := by simp [hid]
        have HE := Lib.hid (show spUpto (plainM X) (k + 1) = spUpto (plainM X) k by rw [HSu.out, if_pos hid, List.append_nil])
        have HownY := Lib.hid (ownsRow_below Hown.out HbYo.out)
        have HokY := Lib.hid (Hok.out.below HbYo.out)
        clear hid
        go_upto_region 6 with (fail)
        rw [← HY.out]
        go_wp2
        exact ⟨⟨k + 1, S, by omega, by go_num, Lib.hid (HP.out.trans HE.out.symm), HownY.out, HokY.out, HbY.out⟩, by simp [intOf]; omega⟩
      · have hi1 : (x.2.s.id == 0) = false := by simp [hid]
        have HE := Lib.hid (show spUpto (plainM X) (k + 1) = spUpto (plainM X) k ++ [⟨x.1, nx, x.2.s⟩] by rw [HSu.out, if_neg hid])
        have Hid := Lib.hid hid
        clear hid HSu
        have y0 : Y.cell? ⟨wo.heap.size, 0, none⟩ = some (.int .i64 x.1) := cell_of_row Y _ 0 _ _ _ HYr.out
        go_upto_region 6 with (fail)
        rw [← HY.out]
        by_cases hk2 : k + 1 < X.length
        · obtain ⟨hn1, hn2⟩ := HNx.out hk2
          have hk3 : (k : Int) + 1 < (X.length : Int) := by omega
          have nxc : (Y.alloc (Obj.cells #[.int .i64 x.1, .int .i64 12622780800] 25)).cell? ⟨bb, o + (k + 1) * 9, none⟩ = some (.int .i64 nx) := by
            rw [hn1, ← hn2]
            exact (((Below.refl _ Y).alloc (Nat.le_refl _) _).cell (p := ⟨bb, o + (k + 1) * 9, none⟩) hBY).trans (HbYo.out.cell (p := ⟨bb, o + (k + 1) * 9, none⟩) hB)
          have Hn1 := Lib.hid hn1
          clear hn1 hn2
          obtain ⟨Y3, hY3⟩ : ∃ Y3, Y3 = (Y.alloc (Obj.cells #[.int .i64 x.1, .int .i64 nx] 25)) := ⟨_, rfl⟩
          have r3 : Y3.heap[Y.heap.size]? = some (Obj.cells #[.int .i64 x.1, .int .i64 nx] 25) := by rw [hY3]; exact heap_alloc_new _ _
          have hbYY : Below Y.heap.size Y Y3 := by rw [hY3]; exact (Below.refl _ _).alloc (Nat.le_refl _) _
          have HR3 := Lib.hid r3
          have HbYY := Lib.hid hbYY
          have HY3 := Lib.hid hY3
          clear hY3 r3 hbYY
          go_upto_region 10 with (fail)
          clear y0 y1
          rw [← HY3.out]
          have Hb3 := Lib.hid (HbY.out.trans (HbYY.out.mono HbY.out.size))
          have HbO3 := Lib.hid (HbYo.out.trans (HbYY.out.mono HbYo.out.size))
          have HX3 := Lib.hid ((HbYY.out.block _ hwY).trans HYr.out)
          have HSo3 := Lib.hid (HSo.out.below HbO3.out)
          have h3z : Y.heap.size < Y3.heap.size := (Array.getElem?_eq_some_iff.1 HR3.out).1
          have Hpl := Lib.hid (HSo.out.row.1)
          have HCx := Lib.hid (show ∀ W, Below Y3.heap.size Y3 W → W.cell? ⟨wo.heap.size, 4, none⟩ = some (.string x.2.s.plan) ∧ W.cell? ⟨wo.heap.size, 6, none⟩ = some (.slice x.2.pa x.2.pn x.2.pc) ∧ W.cell? ⟨wo.heap.size, 7, none⟩ = some (.bool x.2.s.su) ∧ W.cell? ⟨wo.heap.size, 8, none⟩ = some (.bool x.2.s.fa) from fun W hW => by
            have q := (hW.block _ (by omega)).trans HX3.out
            exact ⟨cell_of_row W _ 4 _ _ _ q, cell_of_row W _ 6 _ _ _ q, cell_of_row W _ 7 _ _ _ q, cell_of_row W _ 8 _ _ _ q⟩)
          have HCp := Lib.hid (show ∀ W, Below Y3.heap.size Y3 W → W.cell? ⟨Y.heap.size, 0, none⟩ = some (.int .i64 x.1) ∧ W.cell? ⟨Y.heap.size, 1, none⟩ = some (.int .i64 nx) from fun W hW => by
            have q := (hW.block _ h3z).trans HR3.out
            exact ⟨cell_of_row W _ 0 _ _ _ q, cell_of_row W _ 1 _ _ _ q⟩)
          refine wp_region_free3 17 (fun W => Below Y3.heap.size Y3 W) (spPhi Y3 wo.heap.size a S.length cp nx x) (by kernel_rfl) (by kernel_rfl) (Below.refl _ _).drew ?_ ?_
          · generalize hfr : (fun v : Nat → Value => _) = fr
            simp only [List.take_succ_cons, List.take_zero, List.map_cons, List.map_nil, putsL, List.setIfInBounds_toArray, List.set_cons_succ, List.set_cons_zero, Nat.zero_add, Nat.reduceAdd] at hfr
            simp only [List.take_succ_cons, List.take_zero, FreeHead]
            refine ⟨?_, ?_, ?_, ?_, ?_, ?_, ?_, ?_, ?_, ?_, ?_, ?_, ?_, ?_, ?_, ?_, ?_, trivial⟩
            · intro v w3 hC hd K hK
              rw [← hfr] at hK ⊢
              go_simp
              exact hK _ _ hC (spPhi_stays (Below.refl _ _)) rfl
            · intro v w3 hC hd K hK
              obtain ⟨p0, p1⟩ := HCp.out w3 hC
              rw [← hfr] at hK ⊢
              go_simp
              exact hK _ _ hC (spPhi_stays (Below.refl _ _)) rfl
            · intro v w3 hC hd K hK
              rw [← hfr] at hK ⊢
              go_simp
              exact hK _ _ hC (spPhi_stays (Below.refl _ _)) rfl
            · intro v w3 hC hd K hK
              obtain ⟨f2, -⟩ := hd
              have e2 : v 2 = _ := f2
              rw [← hfr] at hK ⊢
              simp only [e2] at hK ⊢
              go_simp
              exact hK _ _ hC (spPhi_stays (Below.refl _ _)) rfl
            · intro v w3 hC hd K hK
              obtain ⟨f3, -⟩ := hd
              have e3 : v 3 = _ := f3
              obtain ⟨k4, k6, k7, k8⟩ := HCx.out w3 hC
              rw [← hfr] at hK ⊢
              simp only [e3] at hK ⊢
              go_simp
              exact hK _ _ hC (spPhi_stays (Below.refl _ _)) rfl
            · intro v w3 hC hd K hK
              rw [← hfr] at hK ⊢
              go_simp
              exact hK _ _ hC (spPhi_stays (Below.refl _ _)) rfl
            · intro v w3 hC hd K hK
              obtain ⟨f5, -⟩ := hd
              have e5 : v 5 = _ := f5
              rw [← hfr] at hK ⊢
              simp only [e5] at hK ⊢
              go_simp
              exact hK _ _ hC (spPhi_stays (Below.refl _ _)) rfl
            · intro v w3 hC hd K hK
              obtain ⟨f6, -⟩ := hd
              have e6 : v 6 = _ := f6
              obtain ⟨k4, k6, k7, k8⟩ := HCx.out w3 hC
              rw [← hfr] at hK ⊢
              simp only [e6] at hK ⊢
              go_simp
              exact hK _ _ hC (spPhi_stays (Below.refl _ _)) rfl
            · intro v w3 hC hd K hK
              obtain ⟨f7, -⟩ := hd
              have e7 : v 7 = _ := f7
              have hXs := rec_of_strs (HSo3.out.below hC).strs
              have hpl2 : x.2.s.prs.length ≤ 140737488355328 / 16 := by have := HPb.out; omega
              refine wp_append_copy (c := strCells) (sz := 1) (fun _ => rfl) str_one 9 58 _ 16 Tryz.underlying58 Tryz.strInfo rfl (by decide) rfl _ _ rfl Y3.heap.size hC.size none _ x.2.s.prs rfl (by rw [← hfr]; exact e7) (World.ownsRow_nil _ _ _ _) hXs (by unfold maxLen; omega) (by omega) (fun v' w' h1 h2 => ?_)
              obtain ⟨pa, pc, rfl, -, -⟩ := own_shape h1
              exact hK _ _ (hC.trans (h2.mono hC.size)) (spPhi_stays h2) ⟨pa, _, pc, rfl, h1⟩
            · intro v w3 hC hd K hK
              rw [← hfr] at hK ⊢
              go_simp
              exact hK _ _ hC (spPhi_stays (Below.refl _ _)) rfl
            · intro v w3 hC hd K hK
              obtain ⟨f9, -⟩ := hd
              have e9 : v 9 = _ := f9
              rw [← hfr] at hK ⊢
              simp only [e9] at hK ⊢
              go_simp
              exact hK _ _ hC (spPhi_stays (Below.refl _ _)) rfl
            · intro v w3 hC hd K hK
              obtain ⟨f10, -⟩ := hd
              have e10 : v 10 = _ := f10
              obtain ⟨k4, k6, k7, k8⟩ := HCx.out w3 hC
              rw [← hfr] at hK ⊢
              simp only [e10] at hK ⊢
              go_simp
              exact hK _ _ hC (spPhi_stays (Below.refl _ _)) rfl
            · intro v w3 hC hd K hK
              rw [← hfr] at hK ⊢
              go_simp
              exact hK _ _ hC (spPhi_stays (Below.refl _ _)) rfl
            · intro v w3 hC hd K hK
              obtain ⟨f12, -⟩ := hd
              have e12 : v 12 = _ := f12
              rw [← hfr] at hK ⊢
              simp only [e12] at hK ⊢
              go_simp
              exact hK _ _ hC (spPhi_stays (Below.refl _ _)) rfl
            · intro v w3 hC hd K hK
              obtain ⟨f13, -⟩ := hd
              have e13 : v 13 = _ := f13
              obtain ⟨k4, k6, k7, k8⟩ := HCx.out w3 hC
              rw [← hfr] at hK ⊢
              simp only [e13] at hK ⊢
              go_simp
              exact hK _ _ hC (spPhi_stays (Below.refl _ _)) rfl
            · intro v w3 hC hd K hK
              obtain ⟨f1, f4, f8, f11, f14, -⟩ := hd
              have e1 : v 1 = _ := f1
              have e4 : v 4 = _ := f4
              obtain ⟨pa, pn, pc, e8, ho⟩ : ∃ (pa : Option Addr) (pn pc : Nat), v 8 = .slice pa pn pc ∧ w3.ownsRow Y3.heap.size 9 1 (.slice pa pn pc) x.2.s.prs.length (x.2.s.prs.flatMap strCells) := f8
              have e11 : v 11 = _ := f11
              have e14 : v 14 = _ := f14
              have Ho := Lib.hid ho
              clear ho
              rw [← hfr] at hK ⊢
              simp only [e1, e4, e8, e11, e14] at hK ⊢
              go_simp
              exact hK _ _ hC (spPhi_stays (Below.refl _ _)) ⟨pa, pn, pc, rfl, Ho.out⟩
            · intro v w3 hC hd K hK
              obtain ⟨f15, -⟩ := hd
              obtain ⟨pa, pn, pc, e15, ho⟩ : ∃ (pa : Option Addr) (pn pc : Nat), v 15 = .agg #[.int .i64 x.1, .int .i64 nx, .string x.2.s.plan, .slice pa pn pc, .bool x.2.s.su, .bool x.2.s.fa] ∧ w3.ownsRow Y3.heap.size 9 1 (.slice pa pn pc) x.2.s.prs.length (x.2.s.prs.flatMap strCells) := f15
              have Ho := Lib.hid ho
              clear ho
              rw [← hfr] at hK ⊢
              simp only [e15] at hK ⊢
              go_simp
              exact hK _ _ (hC.alloc hC.size _) (spPhi_stays ((Below.refl _ _).alloc (Nat.le_refl _) _)) ⟨_, pa, pn, pc, rfl, heap_alloc_new _ _, ownsRow_below Ho.out ((Below.refl _ _).alloc (Nat.le_refl _) _)⟩
          · intro v w3 hC hall
            obtain ⟨g, pa, pn, pc, e16, hg, ho⟩ : ∃ (g : Nat) (pa : Option Addr) (pn pc : Nat), v 16 = .slice (some ⟨g, 0, none⟩) 1 1 ∧ w3.heap[g]? = some (.cells #[.int .i64 x.1, .int .i64 nx, .string x.2.s.plan, .slice pa pn pc, .bool x.2.s.su, .bool x.2.s.fa] 169) ∧ w3.ownsRow Y3.heap.size 9 1 (.slice pa pn pc) x.2.s.prs.length (x.2.s.prs.flatMap strCells) := hall.2
            have e0 : v 0 = .slice a S.length cp := hall.1.1.1.1.1.1.1.1.1.1.1.1.1.1.1.1.2
            have HownW := Lib.hid (ownsRow_below Hown.out (HbO3.out.trans (hC.mono HbO3.out.size)))
            have HokW := Lib.hid (Hok.out.below (HbO3.out.trans (hC.mono HbO3.out.size)))
            have HbW := Lib.hid (Hb3.out.trans (hC.mono Hb3.out.size))
            have hbs := HbW.out.size
            have hb3s := Hb3.out.size
            have HXE := Lib.hid (rec_block (c := spCells) (sz := 6) hg (x.1, nx, ⟨x.2.s, none, 0, 0, pa, pn, pc⟩) rfl)
            have HSn := Lib.hid (show SbO w2.heap.size w3 ⟨x.2.s, none, 0, 0, pa, pn, pc⟩ from ⟨own_down ho hb3s, rfl, rfl, rfl, HSo.out.nus, HSo.out.plan, HSo.out.sizes⟩)
            simp only [List.take_succ_cons, List.take_zero, List.map_cons, List.map_nil, putsL, List.setIfInBounds_toArray, List.set_cons_succ, List.set_cons_zero, Nat.zero_add, Nat.reduceAdd, List.drop_succ_cons, List.drop_zero]
            simp only [e0, e16]
            clear hg ho hC hall
            generalize v 1 = u1, v 2 = u2, v 3 = u3, v 4 = u4, v 5 = u5, v 6 = u6, v 7 = u7, v 8 = u8, v 9 = u9, v 10 = u10, v 11 = u11, v 12 = u12, v 13 = u13, v 14 = u14, v 15 = u15
            clear e0 e16
            go_wp2_with (at_builtin; refine append_rec2 (c := spCells) (sz := 6) (fun _ => rfl) sp_one 169 171 _ 64 Tryz.underlying171 Tryz.spellInfo rfl (by decide) rfl _ _ rfl w2.heap.size hbs _ _ S [(x.1, nx, ⟨x.2.s, none, 0, 0, pa, pn, pc⟩)] rfl rfl HownW.out HXE.out ?hl1 ?hb1 ?_)

            case hl1 => unfold maxLen; (try simp); omega
            case hb1 => (try simp); omega
            intro R hR v5 w5 own5 hg5
            have HRe := Lib.hid hR.out
            have HR5 := Lib.hid (show SpsOk w2.heap.size w5 R from fun p hp => by
              rw [HRe.out] at hp
              rcases List.mem_append.1 hp with hp | hp
              · exact (HokW.out p hp).growT HownW.out (by decide) hg5
              · rw [List.mem_singleton.1 hp]; exact HSn.out.growT HownW.out (by decide) hg5)
            have Hb5 := Lib.hid (HbW.out.grown hg5 hbs (fun g hg => (ownsRow_block HownW.out g hg).1))
            have Own5 := Lib.hid own5
            have HPf := Lib.hid (show plainSp R = spUpto (plainM X) (k + 1) by rw [HRe.out, plainSp_snoc, HE.out, HP.out])
            clear own5 hg5 hR
            go_wp2
            exact ⟨⟨k + 1, R, by omega, by go_num, HPf, Own5.out, HR5.out, Hb5.out⟩, by simp [intOf]; omega⟩
        · have Hn1 := Lib.hid (HNe.out hk2)
          have hk3 : ¬ ((k : Int) + 1 < (X.length : Int)) := by omega
          obtain ⟨Y3, hY3⟩ : ∃ Y3, Y3 = (Y.alloc (Obj.cells #[.int .i64 x.1, .int .i64 12622780800] 25)) := ⟨_, rfl⟩
          have r3 : Y3.heap[Y.heap.size]? = some (Obj.cells #[.int .i64 x.1, .int .i64 nx] 25) := by rw [hY3]; rw [Hn1.out]; exact heap_alloc_new _ _
          have hbYY : Below Y.heap.size Y Y3 := by rw [hY3]; exact (Below.refl _ _).alloc (Nat.le_refl _) _
          have HR3 := Lib.hid r3
          have HbYY := Lib.hid hbYY
          have HY3 := Lib.hid hY3
          clear hY3 r3 hbYY
          go_upto_region 10 with (fail)
          clear y0 y1
          rw [← HY3.out]
          have Hb3 := Lib.hid (HbY.out.trans (HbYY.out.mono HbY.out.size))
          have HbO3 := Lib.hid (HbYo.out.trans (HbYY.out.mono HbYo.out.size))
          have HX3 := Lib.hid ((HbYY.out.block _ hwY).trans HYr.out)
          have HSo3 := Lib.hid (HSo.out.below HbO3.out)
          have h3z : Y.heap.size < Y3.heap.size := (Array.getElem?_eq_some_iff.1 HR3.out).1
          have Hpl := Lib.hid (HSo.out.row.1)
          have HCx := Lib.hid (show ∀ W, Below Y3.heap.size Y3 W → W.cell? ⟨wo.heap.size, 4, none⟩ = some (.string x.2.s.plan) ∧ W.cell? ⟨wo.heap.size, 6, none⟩ = some (.slice x.2.pa x.2.pn x.2.pc) ∧ W.cell? ⟨wo.heap.size, 7, none⟩ = some (.bool x.2.s.su) ∧ W.cell? ⟨wo.heap.size, 8, none⟩ = some (.bool x.2.s.fa) from fun W hW => by
            have q := (hW.block _ (by omega)).trans HX3.out
            exact ⟨cell_of_row W _ 4 _ _ _ q, cell_of_row W _ 6 _ _ _ q, cell_of_row W _ 7 _ _ _ q, cell_of_row W _ 8 _ _ _ q⟩)
          have HCp := Lib.hid (show ∀ W, Below Y3.heap.size Y3 W → W.cell? ⟨Y.heap.size, 0, none⟩ = some (.int .i64 x.1) ∧ W.cell? ⟨Y.heap.size, 1, none⟩ = some (.int .i64 nx) from fun W hW => by
            have q := (hW.block _ h3z).trans HR3.out
            exact ⟨cell_of_row W _ 0 _ _ _ q, cell_of_row W _ 1 _ _ _ q⟩)
          refine wp_region_free3 17 (fun W => Below Y3.heap.size Y3 W) (spPhi Y3 wo.heap.size a S.length cp nx x) (by kernel_rfl) (by kernel_rfl) (Below.refl _ _).drew ?_ ?_
          · generalize hfr : (fun v : Nat → Value => _) = fr
            simp only [List.take_succ_cons, List.take_zero, List.map_cons, List.map_nil, putsL, List.setIfInBounds_toArray, List.set_cons_succ, List.set_cons_zero, Nat.zero_add, Nat.reduceAdd] at hfr
            simp only [List.take_succ_cons, List.take_zero, FreeHead]
            refine ⟨?_, ?_, ?_, ?_, ?_, ?_, ?_, ?_, ?_, ?_, ?_, ?_, ?_, ?_, ?_, ?_, ?_, trivial⟩
            · intro v w3 hC hd K hK
              rw [← hfr] at hK ⊢
              go_simp
              exact hK _ _ hC (spPhi_stays (Below.refl _ _)) rfl
            · intro v w3 hC hd K hK
              obtain ⟨p0, p1⟩ := HCp.out w3 hC
              rw [← hfr] at hK ⊢
              go_simp
              exact hK _ _ hC (spPhi_stays (Below.refl _ _)) rfl
            · intro v w3 hC hd K hK
              rw [← hfr] at hK ⊢
              go_simp
              exact hK _ _ hC (spPhi_stays (Below.refl _ _)) rfl
            · intro v w3 hC hd K hK
              obtain ⟨f2, -⟩ := hd
              have e2 : v 2 = _ := f2
              rw [← hfr] at hK ⊢
              simp only [e2] at hK ⊢
              go_simp
              exact hK _ _ hC (spPhi_stays (Below.refl _ _)) rfl
            · intro v w3 hC hd K hK
              obtain ⟨f3, -⟩ := hd
              have e3 : v 3 = _ := f3
              obtain ⟨k4, k6, k7, k8⟩ := HCx.out w3 hC
              rw [← hfr] at hK ⊢
              simp only [e3] at hK ⊢
              go_simp
              exact hK _ _ hC (spPhi_stays (Below.refl _ _)) rfl
            · intro v w3 hC hd K hK
              rw [← hfr] at hK ⊢
              go_simp
              exact hK _ _ hC (spPhi_stays (Below.refl _ _)) rfl
            · intro v w3 hC hd K hK
              obtain ⟨f5, -⟩ := hd
              have e5 : v 5 = _ := f5
              rw [← hfr] at hK ⊢
              simp only [e5] at hK ⊢
              go_simp
              exact hK _ _ hC (spPhi_stays (Below.refl _ _)) rfl
            · intro v w3 hC hd K hK
              obtain ⟨f6, -⟩ := hd
              have e6 : v 6 = _ := f6
              obtain ⟨k4, k6, k7, k8⟩ := HCx.out w3 hC
              rw [← hfr] at hK ⊢
              simp only [e6] at hK ⊢
              go_simp
              exact hK _ _ hC (spPhi_stays (Below.refl _ _)) rfl
            · intro v w3 hC hd K hK
              obtain ⟨f7, -⟩ := hd
              have e7 : v 7 = _ := f7
              have hXs := rec_of_strs (HSo3.out.below hC).strs
              have hpl2 : x.2.s.prs.length ≤ 140737488355328 / 16 := by have := HPb.out; omega
              refine wp_append_copy (c := strCells) (sz := 1) (fun _ => rfl) str_one 9 58 _ 16 Tryz.underlying58 Tryz.strInfo rfl (by decide) rfl _ _ rfl Y3.heap.size hC.size none _ x.2.s.prs rfl (by rw [← hfr]; exact e7) (World.ownsRow_nil _ _ _ _) hXs (by unfold maxLen; omega) (by omega) (fun v' w' h1 h2 => ?_)
              obtain ⟨pa, pc, rfl, -, -⟩ := own_shape h1
              exact hK _ _ (hC.trans (h2.mono hC.size)) (spPhi_stays h2) ⟨pa, _, pc, rfl, h1⟩
            · intro v w3 hC hd K hK
              rw [← hfr] at hK ⊢
              go_simp
              exact hK _ _ hC (spPhi_stays (Below.refl _ _)) rfl
            · intro v w3 hC hd K hK
              obtain ⟨f9, -⟩ := hd
              have e9 : v 9 = _ := f9
              rw [← hfr] at hK ⊢
              simp only [e9] at hK ⊢
              go_simp
              exact hK _ _ hC (spPhi_stays (Below.refl _ _)) rfl
            · intro v w3 hC hd K hK
              obtain ⟨f10, -⟩ := hd
              have e10 : v 10 = _ := f10
              obtain ⟨k4, k6, k7, k8⟩ := HCx.out w3 hC
              rw [← hfr] at hK ⊢
              simp only [e10] at hK ⊢
              go_simp
              exact hK _ _ hC (spPhi_stays (Below.refl _ _)) rfl
            · intro v w3 hC hd K hK
              rw [← hfr] at hK ⊢
              go_simp
              exact hK _ _ hC (spPhi_stays (Below.refl _ _)) rfl
            · intro v w3 hC hd K hK
              obtain ⟨f12, -⟩ := hd
              have e12 : v 12 = _ := f12
              rw [← hfr] at hK ⊢
              simp only [e12] at hK ⊢
              go_simp
              exact hK _ _ hC (spPhi_stays (Below.refl _ _)) rfl
            · intro v w3 hC hd K hK
              obtain ⟨f13, -⟩ := hd
              have e13 : v 13 = _ := f13
              obtain ⟨k4, k6, k7, k8⟩ := HCx.out w3 hC
              rw [← hfr] at hK ⊢
              simp only [e13] at hK ⊢
              go_simp
              exact hK _ _ hC (spPhi_stays (Below.refl _ _)) rfl
            · intro v w3 hC hd K hK
              obtain ⟨f1, f4, f8, f11, f14, -⟩ := hd
              have e1 : v 1 = _ := f1
              have e4 : v 4 = _ := f4
              obtain ⟨pa, pn, pc, e8, ho⟩ : ∃ (pa : Option Addr) (pn pc : Nat), v 8 = .slice pa pn pc ∧ w3.ownsRow Y3.heap.size 9 1 (.slice pa pn pc) x.2.s.prs.length (x.2.s.prs.flatMap strCells) := f8
              have e11 : v 11 = _ := f11
              have e14 : v 14 = _ := f14
              have Ho := Lib.hid ho
              clear ho
              rw [← hfr] at hK ⊢
              simp only [e1, e4, e8, e11, e14] at hK ⊢
              go_simp
              exact hK _ _ hC (spPhi_stays (Below.refl _ _)) ⟨pa, pn, pc, rfl, Ho.out⟩
            · intro v w3 hC hd K hK
              obtain ⟨f15, -⟩ := hd
              obtain ⟨pa, pn, pc, e15, ho⟩ : ∃ (pa : Option Addr) (pn pc : Nat), v 15 = .agg #[.int .i64 x.1, .int .i64 nx, .string x.2.s.plan, .slice pa pn pc, .bool x.2.s.su, .bool x.2.s.fa] ∧ w3.ownsRow Y3.heap.size 9 1 (.slice pa pn pc) x.2.s.prs.length (x.2.s.prs.flatMap strCells) := f15
              have Ho := Lib.hid ho
              clear ho
              rw [← hfr] at hK ⊢
              simp only [e15] at hK ⊢
              go_simp
              exact hK _ _ (hC.alloc hC.size _) (spPhi_stays ((Below.refl _ _).alloc (Nat.le_refl _) _)) ⟨_, pa, pn, pc, rfl, heap_alloc_new _ _, ownsRow_below Ho.out ((Below.refl _ _).alloc (Nat.le_refl _) _)⟩
          · intro v w3 hC hall
            obtain ⟨g, pa, pn, pc, e16, hg, ho⟩ : ∃ (g : Nat) (pa : Option Addr) (pn pc : Nat), v 16 = .slice (some ⟨g, 0, none⟩) 1 1 ∧ w3.heap[g]? = some (.cells #[.int .i64 x.1, .int .i64 nx, .string x.2.s.plan, .slice pa pn pc, .bool x.2.s.su, .bool x.2.s.fa] 169) ∧ w3.ownsRow Y3.heap.size 9 1 (.slice pa pn pc) x.2.s.prs.length (x.2.s.prs.flatMap strCells) := hall.2
            have e0 : v 0 = .slice a S.length cp := hall.1.1.1.1.1.1.1.1.1.1.1.1.1.1.1.1.2
            have HownW := Lib.hid (ownsRow_below Hown.out (HbO3.out.trans (hC.mono HbO3.out.size)))
            have HokW := Lib.hid (Hok.out.below (HbO3.out.trans (hC.mono HbO3.out.size)))
            have HbW := Lib.hid (Hb3.out.trans (hC.mono Hb3.out.size))
            have hbs := HbW.out.size
            have hb3s := Hb3.out.size
            have HXE := Lib.hid (rec_block (c := spCells) (sz := 6) hg (x.1, nx, ⟨x.2.s, none, 0, 0, pa, pn, pc⟩) rfl)
            have HSn := Lib.hid (show SbO w2.heap.size w3 ⟨x.2.s, none, 0, 0, pa, pn, pc⟩ from ⟨own_down ho hb3s, rfl, rfl, rfl, HSo.out.nus, HSo.out.plan, HSo.out.sizes⟩)
            simp only [List.take_succ_cons, List.take_zero, List.map_cons, List.map_nil, putsL, List.setIfInBounds_toArray, List.set_cons_succ, List.set_cons_zero, Nat.zero_add, Nat.reduceAdd, List.drop_succ_cons, List.drop_zero]
            simp only [e0, e16]
            clear hg ho hC hall
            generalize v 1 = u1, v 2 = u2, v 3 = u3, v 4 = u4, v 5 = u5, v 6 = u6, v 7 = u7, v 8 = u8, v 9 = u9, v 10 = u10, v 11 = u11, v 12 = u12, v 13 = u13, v 14 = u14, v 15 = u15
            clear e0 e16
            go_wp2_with (at_builtin; refine append_rec2 (c := spCells) (sz := 6) (fun _ => rfl) sp_one 169 171 _ 64 Tryz.underlying171 Tryz.spellInfo rfl (by decide) rfl _ _ rfl w2.heap.size hbs _ _ S [(x.1, nx, ⟨x.2.s, none, 0, 0, pa, pn, pc⟩)] rfl rfl HownW.out HXE.out ?hl2 ?hb2 ?_)

            case hl2 => unfold maxLen; (try simp); omega
            case hb2 => (try simp); omega
            intro R hR v5 w5 own5 hg5
            have HRe := Lib.hid hR.out
            have HR5 := Lib.hid (show SpsOk w2.heap.size w5 R from fun p hp => by
              rw [HRe.out] at hp
              rcases List.mem_append.1 hp with hp | hp
              · exact (HokW.out p hp).growT HownW.out (by decide) hg5
              · rw [List.mem_singleton.1 hp]; exact HSn.out.growT HownW.out (by decide) hg5)
            have Hb5 := Lib.hid (HbW.out.grown hg5 hbs (fun g hg => (ownsRow_block HownW.out g hg).1))
            have Own5 := Lib.hid own5
            have HPf := Lib.hid (show plainSp R = spUpto (plainM X) (k + 1) by rw [HRe.out, plainSp_snoc, HE.out, HP.out])
            clear own5 hg5 hR
            go_wp2
            exact ⟨⟨k + 1, R, by omega, by go_num, HPf, Own5.out, HR5.out, Hb5.out⟩, by simp [intOf]; omega⟩
    · have HE := Lib.hid (show spUpto (plainM X) k = spellsL n l by
        have e : k = X.length := by omega
        have e2 : X.length = (plainM X).length := (plainM_len X).symm
        unfold spellsL
        rw [e, e2, HpX.out])
      go_wp2
      go_ret
      exact ⟨a, cp, S, rfl, own_down Hown.out HbX.out.size, HP.out.trans HE.out, fun p hp => (Hok.out p hp).down HbX.out.size, HbX.out.trans (Hb.out.mono HbX.out.size)⟩
end Go.Proofs.YtngippiilgdnoaaGreat

namespace Go.Proofs.YtngippiilgdnoaaGreat
open Go.RowKit

theorem alikeTs_no {a b : List ByteArray} (h : ¬ a = b) : alikeTs a b = false := by
  cases hq : alikeTs a b with
  | false => rfl
  | true => exact absurd ((alikeTs_iff _ _).1 hq) h

set_option maxRecDepth 100000 in
set_option maxHeartbeats 3200000 in
theorem rtexts20_calls (v1 v2 : Value) (a b : List ByteArray) (w : World) (h1 : StrsAt w v1 a) (h2 : StrsAt w v2 b) :
    Calls Tryz.prog 184 #[v1, v2] w fun e w' => e = .returned (.bool (alikeTs a b)) ∧ Below w.heap.size w w' := by
  have HX := Lib.hid h1
  have HY := Lib.hid h2
  obtain ⟨a1, c1, rfl, hl1, hm1, -⟩ := h1
  obtain ⟨a2, c2, rfl, hl2, hm2, -⟩ := h2
  have hm1 := hm1.1
  have hm2 := hm2.1
  unfold maxLen at hm1 hm2
  by_cases hl : a.length = b.length
  · have hll : (a.length : Int) ≤ (b.length : Int) := by omega
    have hq1 : ((a.length : Int) == (b.length : Int)) = true := beq_iff_eq.2 (by omega)
    have hq2 : ((a.length : Int) != (b.length : Int)) = false := by rw [bne, hq1]; rfl
    have Hl := Lib.hid hl
    clear hl
    go_enter Tryz.func184, Tryz.ntmps184
    go_wp2_with fail
    go_loopw [5] (fun i wr => ∃ k : Nat, k ≤ a.length ∧ i = .int .i64 k ∧ RowKit.Hid (a.take k = b.take k) ∧ Below w.heap.size w wr) (fun i _ => a.length - (intOf i).toNat)
    case atStart => exact ⟨0, Nat.zero_le _, rfl, Lib.hid rfl, Below.refl _ _⟩
    case round =>
      obtain ⟨k, hk, rfl, Hn, hb⟩ := hrel
      by_cases hlt : k < a.length
      · have hlt2 : k < b.length := by have := Hl.out; omega
        obtain ⟨av2, cap2, ee, -, -, hxx⟩ := HX.out.below hb
        cases ee
        obtain ⟨b1, o1, rfl, hB1, hxx⟩ := hxx (by rintro rfl; cases hlt)
        obtain ⟨u0, -⟩ := hxx k hlt
        obtain ⟨av3, cap3, ee, -, -, hyy⟩ := HY.out.below hb
        cases ee
        obtain ⟨b2, o2, rfl, hB2, hyy⟩ := hyy (by rintro rfl; cases hlt2)
        obtain ⟨v0, -⟩ := hyy k hlt2
        rw [Nat.mul_one] at u0 v0
        have hk0 : (0 : Int) ≤ (k : Int) := Int.natCast_nonneg _
        have hk1 : (k : Int) < (a.length : Int) := by omega
        have hk2 : (k : Int) < (b.length : Int) := by omega
        have HS := Lib.hid (fun h => sub_snoc_eq hlt hlt2 Hn.out h)
        have HN := Lib.hid (fun h => @sub_ne_get _ a b k hlt hlt2 h)
        have Hb := Lib.hid hb
        clear hxx hyy hb hB1 hB2 hq1 hq2
        generalize a[k] = p at *
        generalize b[k] = q at *
        by_cases hpq : p = q
        · have HE := Lib.hid (HS.out hpq)
          have hq1 : (p.toList == q.toList) = true := (sameS_iff p q).2 hpq
          have hq2 : (p.toList != q.toList) = false := by rw [bne, hq1]; rfl
          clear HS HN hpq
          go_wp2_with fail
          go_quiet (fail)
          go_wp2
          exact ⟨⟨k + 1, by omega, by go_num, HE, below_drewN2 Hb.out _⟩, by simp [intOf]; omega⟩
        · have HE := Lib.hid (alikeTs_no (HN.out hpq))
          have hq1 : (p.toList == q.toList) = false := by
            cases hq : (p.toList == q.toList) with
            | false => rfl
            | true => exact absurd ((sameS_iff p q).1 hq) hpq
          have hq2 : (p.toList != q.toList) = true := by rw [bne, hq1]; rfl
          clear HS HN hpq
          go_wp2_with fail
          go_quiet (fail)
          go_wp2
          go_ret
          exact ⟨ret_bool HE.out.symm, below_drewN2 Hb.out _⟩
      · have HE := Lib.hid (show alikeTs a b = true from (alikeTs_iff _ _).2 (take_all_eq Hl.out (Nat.le_of_not_lt hlt) Hn.out))
        have Hb := Lib.hid hb
        clear hb hq1 hq2
        go_wp2
        go_ret
        exact ⟨ret_bool HE.out.symm, Hb.out⟩
  · have HE := Lib.hid (show alikeTs a b = false from alikeTs_no (fun h => hl (by rw [h])))
    have hq1 : ((a.length : Int) == (b.length : Int)) = false := beq_eq_false_iff_ne.2 (by omega)
    have hq2 : ((a.length : Int) != (b.length : Int)) = true := by rw [bne, hq1]; rfl
    clear hl
    go_enter Tryz.func184, Tryz.ntmps184
    go_wp2
    go_ret
    exact ⟨ret_bool HE.out.symm, Below.refl _ _⟩

theorem alikeRB_eq {a b : Sb} (h1 : a.plan = b.plan) (h2 : a.su = b.su) (h3 : a.fa = b.fa) : alikeRB a b = alikeTs a.prs b.prs := by
  unfold alikeRB
  rw [h1, h2, h3, (sameS_iff _ _).2 rfl]
  simp
theorem alikeRB_no {a b : Sb} (h : ¬ (a.plan = b.plan ∧ a.su = b.su ∧ a.fa = b.fa)) : alikeRB a b = false := by
  cases hq : alikeRB a b with
  | false => rfl
  | true =>
    unfold alikeRB at hq
    simp only [Bool.and_eq_true, beq_iff_eq] at hq
    exact absurd ⟨(sameS_iff _ _).1 hq.1.1.1, hq.1.1.2, hq.1.2⟩ h

set_option maxRecDepth 100000 in
set_option maxHeartbeats 6400000 in
theorem alike20_calls (p q : Int × Int × SbX) (w : World) (h1 : StrsAt w (.slice p.2.2.pa p.2.2.pn p.2.2.pc) p.2.2.s.prs) (h2 : StrsAt w (.slice q.2.2.pa q.2.2.pn q.2.2.pc) q.2.2.s.prs) :
    Calls Tryz.prog 149 #[spVal p, spVal q] w fun e w' => e = .returned (.bool (alikeRB p.2.2.s q.2.2.s)) ∧ Below w.heap.size w w' := by
  have HT := Lib.hid (fun W (hW : Below w.heap.size w W) => rtexts20_calls _ _ _ _ W (h1.below hW) (h2.below hW))
  obtain ⟨f, t, ⟨⟨i1, i2, i3, i4, nus, prs, su, fa⟩, na, nn, nc, pa, pn, pc⟩⟩ := p
  obtain ⟨g, u, ⟨⟨j1, j2, j3, j4, mus, qrs, tu, ga⟩, ma, mn, mc, qa, qn, qc⟩⟩ := q
  dsimp only at HT
  obtain ⟨W, hW, r0, r1, hw0, hz⟩ := two_rows2 w (Obj.cells #[.int .i64 f, .int .i64 t, .string i4, .slice pa pn pc, .bool su, .bool fa] 169) (Obj.cells #[.int .i64 g, .int .i64 u, .string j4, .slice qa qn qc, .bool tu, .bool ga] 169)
  unfold spVal spCells
  dsimp only
  have HW := Lib.hid hW
  have Hb := Lib.hid hw0
  have x2 := cell_of_row W _ 2 _ _ _ r0
  have y2 := cell_of_row W _ 2 _ _ _ r1
  have x3 := cell_of_row W _ 3 _ _ _ r0
  have y3 := cell_of_row W _ 3 _ _ _ r1
  have x4 := cell_of_row W _ 4 _ _ _ r0
  have y4 := cell_of_row W _ 4 _ _ _ r1
  have x5 := cell_of_row W _ 5 _ _ _ r0
  have y5 := cell_of_row W _ 5 _ _ _ r1
  clear hW r0 r1 hw0 hz h1 h2
  by_cases e2 : i4 = j4
  · have p2 : (i4.toList == j4.toList) = true := (sameS_iff i4 j4).2 e2
    have E2 := Lib.hid e2
    clear e2
    by_cases e3 : su = tu
    · have p3 : (su == tu) = true := beq_iff_eq.2 e3
      have E3 := Lib.hid e3
      clear e3
      by_cases e4 : fa = ga
      · have p4 : (fa == ga) = true := beq_iff_eq.2 e4
        have E4 := Lib.hid e4
        clear e4
        have HE := Lib.hid (show alikeRB ⟨i1, i2, i3, i4, nus, prs, su, fa⟩ ⟨j1, j2, j3, j4, mus, qrs, tu, ga⟩ = alikeTs prs qrs from alikeRB_eq E2.out E3.out E4.out)
        go_enter Tryz.func149, Tryz.ntmps149
        go_upto_region 1 with (fail)
        rw [← HW.out]
        go_wp2_with fail
        refine (HT.out W Hb.out).mono ?_
        rintro e w2 ⟨rfl, hb2⟩
        have Hb2 := Lib.hid (Hb.out.trans (hb2.mono Hb.out.size))
        clear hb2
        go_wp2
        go_ret
        exact ⟨ret_bool HE.out.symm, Hb2.out⟩
      · have p4 : (fa == ga) = false := beq_eq_false_iff_ne.2 e4
        have HE := Lib.hid (show alikeRB ⟨i1, i2, i3, i4, nus, prs, su, fa⟩ ⟨j1, j2, j3, j4, mus, qrs, tu, ga⟩ = false from alikeRB_no (fun h => e4 h.2.2))
        clear e4
        go_enter Tryz.func149, Tryz.ntmps149
        go_upto_region 1 with (fail)
        rw [← HW.out]
        go_wp2
        go_ret
        exact ⟨ret_bool HE.out.symm, Hb.out⟩
    · have p3 : (su == tu) = false := beq_eq_false_iff_ne.2 e3
      have HE := Lib.hid (show alikeRB ⟨i1, i2, i3, i4, nus, prs, su, fa⟩ ⟨j1, j2, j3, j4, mus, qrs, tu, ga⟩ = false from alikeRB_no (fun h => e3 h.2.1))
      clear e3
      go_enter Tryz.func149, Tryz.ntmps149
      go_upto_region 1 with (fail)
      rw [← HW.out]
      go_wp2
      go_ret
      exact ⟨ret_bool HE.out.symm, Hb.out⟩
  · have p2 : (i4.toList == j4.toList) = false := (by cases hq : (i4.toList == j4.toList) with | false => rfl | true => exact absurd ((sameS_iff i4 j4).1 hq) e2)
    have HE := Lib.hid (show alikeRB ⟨i1, i2, i3, i4, nus, prs, su, fa⟩ ⟨j1, j2, j3, j4, mus, qrs, tu, ga⟩ = false from alikeRB_no (fun h => e2 h.1))
    clear e2
    go_enter Tryz.func149, Tryz.ntmps149
    go_upto_region 1 with (fail)
    rw [← HW.out]
    go_wp2
    go_ret
    exact ⟨ret_bool HE.out.symm, Hb.out⟩
end Go.Proofs.YtngippiilgdnoaaGreat

namespace Go.Proofs.YtngippiilgdnoaaGreat
open Go.RowKit

/-- A spell's texts, beside a row that grows. -/
structure SpE (w : World) (o : Value) (p : Int × Int × SbX) : Prop where
  st : StrsAt w (.slice p.2.2.pa p.2.2.pn p.2.2.pc) p.2.2.s.prs
  pl : p.2.2.s.plan.size ≤ maxLen
  sp : PlainA p.2.2.pa
  off : p.2.2.s.prs ≠ [] → ∀ ad, p.2.2.pa = some ad → o.ownBlock ≠ some ad.block
theorem SpE.below {w w' : World} {o : Value} {p : Int × Int × SbX} (h : SpE w o p) (hb : Below w.heap.size w w') : SpE w' o p := ⟨h.st.below hb, h.pl, h.sp, h.off⟩
theorem SpE.turn {w w' : World} {o o' : Value} {p : Int × Int × SbX} (h : SpE w o p) (hg : w.grownBy w' o.ownBlock) (ho : ∀ g, o'.ownBlock = some g → o.ownBlock = some g ∨ w.heap.size ≤ g) : SpE w' o' p := by
  by_cases hne : p.2.2.s.prs = []
  · refine ⟨?_, h.pl, h.sp, fun h => absurd hne h⟩
    obtain ⟨av, cap, e, h1, h2, -⟩ := h.st
    rw [e, hne]
    rw [hne] at h1
    exact ⟨av, cap, rfl, h1, h2, fun h => absurd rfl h⟩
  · obtain ⟨av, cap, e, h1, h2, h3⟩ := h.st
    obtain ⟨b, o2, e2, hB, hx⟩ := h3 hne
    have hpa : p.2.2.pa = some ⟨b, o2, none⟩ := by
      simp only [Value.slice.injEq] at e
      rw [e.1, e2]
    have hoff := h.off hne _ hpa
    have hbl : w'.heap[b]? = w.heap[b]? := hg.block b hB (fun e => hoff e.symm)
    refine ⟨⟨av, cap, e, h1, h2, fun _ => ⟨b, o2, e2, Nat.lt_of_lt_of_le hB hg.size, fun i hi => ⟨(World.cell?_of_block (a := ⟨b, _, none⟩) hbl).trans (hx i hi).1, (hx i hi).2⟩⟩⟩, h.pl, h.sp, fun _ ad had hq => ?_⟩
    rw [hpa] at had
    cases had
    rcases ho b hq with h | h
    · exact hoff h
    · omega
theorem plainSp_put (S : List (Int × Int × SbX)) (q p : Int × Int × SbX) (h1 : q.2.1 = p.1) (h2 : alikeRB q.2.2.s p.2.2.s = true) : plainSp (S ++ [(q.1, p.2.1, q.2.2)]) = rspPut (plainSp (S ++ [q])) p.1 p.2.1 p.2.2.s := by
  rw [plainSp_snoc, plainSp_snoc, rspPut_eq _ ⟨q.1, q.2.1, q.2.2.s⟩ _ _ _ h1 h2]
theorem plainSp_new (S : List (Int × Int × SbX)) (q p : Int × Int × SbX) (h : ¬ (q.2.1 = p.1 ∧ alikeRB q.2.2.s p.2.2.s = true)) : plainSp (S ++ [q] ++ [p]) = rspPut (plainSp (S ++ [q])) p.1 p.2.1 p.2.2.s := by
  rw [plainSp_snoc, plainSp_snoc, rspPut_ne _ ⟨q.1, q.2.1, q.2.2.s⟩ _ _ _ h]
def RSpTo (N : List Sp) (w : World) (e : Ending) (w' : World) : Prop := ∃ (a : Option Addr) (c : Nat) (S : List (Int × Int × SbX)), e = .returned (.slice a S.length c) ∧ w'.ownsRow w.heap.size 169 6 (.slice a S.length c) S.length (S.flatMap spCells) ∧ plainSp S = N ∧ (∀ p ∈ S, SpE w' (.slice a S.length c) p) ∧ Below w.heap.size w w'
theorem own_down2 {w : World} {base base' : Nat} {e : TypeId} {sz n : Nat} {v : Value} {xs : List Value} (h : w.ownsRow base e sz v n xs) (hb : base' ≤ base) : w.ownsRow base' e sz v n xs := own_down h hb

set_option maxRecDepth 100000 in
set_option maxHeartbeats 25600000 in
theorem rspells_calls (v : Value) (l : List Ev) (n : Int) (w : World) (h : EvsAt w v l) (hl : l.length ≤ 1000) (hr : OkRun l) :
    Calls Tryz.prog 109 #[v, .int .i64 n] w (RSpTo (rspL n l l.length) w) := by
  have HA := Lib.hid h
  have Hr := Lib.hid hr
  have Hll := Lib.hid (rspL_len n l)
  obtain ⟨av, cap, rfl, hcl, hcm⟩ := rec_shape h.1
  unfold maxLen at hcm
  clear h hr
  go_enter Tryz.func109, Tryz.ntmps109
  go_wp2_with fail
  go_loopw [5, 6] (fun vo i wr => ∃ (k : Nat) (S : List (Int × Int × SbX)), k ≤ l.length ∧ i = .int .i64 k ∧ RowKit.Hid (plainSp S = rspL n l k) ∧ wr.ownsRow w.heap.size 169 6 vo S.length (S.flatMap spCells) ∧ RowKit.Hid (∀ p ∈ S, SpE wr vo p) ∧ Below w.heap.size w wr) (fun _ i _ => l.length - (intOf i).toNat)
  case atStart => exact ⟨0, [], Nat.zero_le _, rfl, Lib.hid rfl, World.ownsRow_nil _ _ _ _, Lib.hid (fun p hp => by cases hp), Below.refl _ _⟩
  case round =>
    obtain ⟨wo, rfl⟩ : ∃ wo : World, wo = wr := ⟨_, rfl⟩
    obtain ⟨k, S, hk, rfl, HP, hown, HE, hb⟩ := hrel
    obtain ⟨a, cp, rfl, hc1, hc2⟩ := own_shape hown
    unfold maxLen at hc2
    have Hown := Lib.hid hown
    have Hb := Lib.hid hb
    have hSl : S.length ≤ 1000 := by
      have h := Hll.out k
      rw [← HP.out, plainSp_len] at h; omega
    by_cases hlt : k < l.length
    · have hk1 : (k : Int) < (l.length : Int) := by omega
      have hk0 : (0 : Int) ≤ (k : Int) := Int.natCast_nonneg _
      have HSu := Lib.hid (rspL_succ n l k)
      have HSe := Lib.hid (fun h => rspStep_eq n l (rspL n l k) k hlt h)
      have HSn := Lib.hid (fun h => rspStep_none n l (rspL n l k) k hlt h)
      have HSs := Lib.hid (fun h1 s h2 => @rspStep_some n l (rspL n l k) k hlt h1 s h2)
      have HAw := Lib.hid (HA.out.below hb)
      obtain ⟨a2, c2, e2, -, -, hx⟩ := HAw.out.1
      cases e2
      obtain ⟨bb, o, rfl, hB, hx⟩ := hx (by rintro rfl; cases hlt)
      have x0 : wo.cell? ⟨bb, o + k * 7, none⟩ = some (.int .i64 (l[k]).tm) := hx k hlt 0 (by decide)
      have HNx := Lib.hid (show ∀ h : k + 1 < l.length, toAt l k = (l[k + 1]).tm ∧ wo.cell? ⟨bb, o + (k + 1) * 7, none⟩ = some (.int .i64 (l[k + 1]).tm) from fun h => ⟨toAt_lt h, hx (k + 1) h 0 (by decide)⟩)
      have HNe := Lib.hid (show ¬ k + 1 < l.length → toAt l k = 12622780800 from fun h => toAt_end (by omega))
      have HRn := Lib.hid (fun (W : World) (hW : Below wo.heap.size wo W) (href : refS (bookOf (uptoE l (l[k]).tm)) n = none) => rsub_none _ l n (l[k]).tm W (HAw.out.below hW) hl Hr.out href)
      have HRs := Lib.hid (fun (W : World) (hW : Below wo.heap.size wo W) (q : Sb) (href : refS (bookOf (uptoE l (l[k]).tm)) n = some q) => rsub_some _ l n (l[k]).tm W (HAw.out.below hW) hl Hr.out q href)
      clear hx hown
      generalize (l[k]).tm = fr at *
      obtain ⟨tz, hto⟩ : ∃ tz, tz = toAt l k := ⟨_, rfl⟩
      rw [← hto] at HSe HSs HNx HNe
      clear hto
      generalize hrf : refS (bookOf (uptoE l fr)) n = rf at *
      clear hrf
      have HRn := Lib.hid (fun h => HRn.out wo (Below.refl _ _) h)
      have HRs := Lib.hid (fun q h => HRs.out wo (Below.refl _ _) q h)
      by_cases hk2 : k + 1 < l.length
      · obtain ⟨hn1, hn2⟩ := HNx.out hk2
        have hk3 : (k : Int) + 1 < (l.length : Int) := by omega
        have nxc : wo.cell? ⟨bb, o + (k + 1) * 7, none⟩ = some (.int .i64 tz) := by rw [hn1, ← hn2]
        clear hn1 hn2 HNx HNe hb
        cases rf with
        | none =>
          have HF := Lib.hid (HSn.out (by first | rfl | trivial))
          go_wp2_with fail
          refine (HRn.out (by first | rfl | trivial)).mono ?_
          rintro e w3 ⟨rfl, hb3⟩
          have HbW := Lib.hid (Hb.out.trans ((hb3.mono Hb.out.size).alloc (Nat.le_trans Hb.out.size hb3.size) (Obj.cells #[.int .i64 0, .int .i64 0, .int .i64 0, .string ⟨#[]⟩, .slice none 0 0, .slice none 0 0, .bool false, .bool false] 181)))
          have HbWo := Lib.hid (hb3.alloc hb3.size (Obj.cells #[.int .i64 0, .int .i64 0, .int .i64 0, .string ⟨#[]⟩, .slice none 0 0, .slice none 0 0, .bool false, .bool false] 181))
          have HownW := Lib.hid (ownsRow_below Hown.out HbWo.out)
          have HEW := Lib.hid (fun p hp => (HE.out p hp).below HbWo.out)
          clear hb3
          by_cases hft : fr = tz
          · have hft2 : (fr == tz) = true := beq_iff_eq.2 hft
            clear hft
            go_wp2
            exact ⟨⟨k + 1, S, by omega, by go_num, Lib.hid (HP.out.trans (by rw [HSu.out, HF.out])), HownW.out, HEW, HbW.out⟩, by simp [intOf]; omega⟩
          · have hft2 : (fr == tz) = false := beq_eq_false_iff_ne.2 hft
            clear hft
            go_wp2
            exact ⟨⟨k + 1, S, by omega, by go_num, Lib.hid (HP.out.trans (by rw [HSu.out, HF.out])), HownW.out, HEW, HbW.out⟩, by simp [intOf]; omega⟩
        | some q0 =>
          go_wp2_with fail
          refine (HRs.out q0 (by first | rfl | trivial)).mono ?_
          rintro e w3 ⟨x, hxq, rfl, hst3, hpl3, hfr3, hb3⟩
          obtain ⟨w4, hw4⟩ : ∃ w4, w4 = w3.alloc (Obj.cells #[.int .i64 x.s.id, .int .i64 x.s.ac, .int .i64 x.s.si, .string x.s.plan, .slice x.na x.nn x.nc, .slice x.pa x.pn x.pc, .bool x.s.su, .bool x.s.fa] 181) := ⟨_, rfl⟩
          have h34 : Below w3.heap.size w3 w4 := by rw [hw4]; go_grown
          have Hxq := Lib.hid hxq
          have Hw4r := Lib.hid (show w4.heap[w3.heap.size]? = some (Obj.cells #[.int .i64 x.s.id, .int .i64 x.s.ac, .int .i64 x.s.si, .string x.s.plan, .slice x.na x.nn x.nc, .slice x.pa x.pn x.pc, .bool x.s.su, .bool x.s.fa] 181) by rw [hw4]; exact heap_alloc_new _ _)
          have HbWo := Lib.hid (hb3.trans (h34.mono hb3.size))
          have HbW := Lib.hid (Hb.out.trans (HbWo.out.mono Hb.out.size))
          have HownW := Lib.hid (ownsRow_below Hown.out HbWo.out)
          have HEW := Lib.hid (fun p hp => (HE.out p hp).below HbWo.out)
          have HxW := Lib.hid (show SpE w4 (.slice a S.length cp) (fr, tz, x) from ⟨hst3.below h34, hpl3, hfr3.plain, fun _ ad had hq => by
            have h1 := (hfr3 ad had).2
            have h2 := (ownsRow_block Hown.out _ hq).2
            omega⟩)
          have Hw4 := Lib.hid hw4
          clear hst3 hpl3 hfr3 hb3 h34 hxq hw4
          have y3 : w4.cell? ⟨w3.heap.size, 3, none⟩ = some (.string x.s.plan) := cell_of_row w4 _ 3 _ _ _ Hw4r.out
          have y5 : w4.cell? ⟨w3.heap.size, 5, none⟩ = some (.slice x.pa x.pn x.pc) := cell_of_row w4 _ 5 _ _ _ Hw4r.out
          have y6 : w4.cell? ⟨w3.heap.size, 6, none⟩ = some (.bool x.s.su) := cell_of_row w4 _ 6 _ _ _ Hw4r.out
          have y7 : w4.cell? ⟨w3.heap.size, 7, none⟩ = some (.bool x.s.fa) := cell_of_row w4 _ 7 _ _ _ Hw4r.out
          unfold sbVal
          go_upto_region 9 with (fail)
          rw [← Hw4.out]
          by_cases hft : fr = tz
          · have HF := Lib.hid (HSe.out hft)
            have hft2 : (fr == tz) = true := beq_iff_eq.2 hft
            clear hft y3 y5 y6 y7
            go_wp2
            exact ⟨⟨k + 1, S, by omega, by go_num, Lib.hid (HP.out.trans (by rw [HSu.out, HF.out])), HownW.out, HEW, HbW.out⟩, by simp [intOf]; omega⟩
          · have HF := Lib.hid (show rspStep n l (rspL n l k) k = rspPut (rspL n l k) fr tz x.s by rw [Hxq.out]; exact HSs.out hft q0 (by first | rfl | trivial))
            have hft2 : (fr == tz) = false := beq_eq_false_iff_ne.2 hft
            clear hft
            obtain ⟨gs, hgs⟩ : ∃ gs, gs = w4.heap.size := ⟨_, rfl⟩
            obtain ⟨Y, hY⟩ : ∃ Y, Y = w4.alloc (Obj.cells #[.int .i64 fr, .int .i64 tz, .string x.s.plan, .slice x.pa x.pn x.pc, .bool x.s.su, .bool x.s.fa] 169) := ⟨_, rfl⟩
            have hbY : Below w4.heap.size w4 Y := by rw [hY]; go_grown
            have HYr := Lib.hid (show Y.heap[gs]? = some (Obj.cells #[.int .i64 fr, .int .i64 tz, .string x.s.plan, .slice x.pa x.pn x.pc, .bool x.s.su, .bool x.s.fa] 169) by rw [hY, hgs]; exact heap_alloc_new _ _)
            have HbY := Lib.hid (HbW.out.trans (hbY.mono HbW.out.size))
            have HownY := Lib.hid (ownsRow_below HownW.out hbY)
            have HEY := Lib.hid (fun p hp => (HEW.out p hp).below hbY)
            have HxY := Lib.hid (HxW.out.below hbY)
            have HY := Lib.hid hY
            have Hgs := Lib.hid hgs
            have hgY : gs < Y.heap.size := (Array.getElem?_eq_some_iff.1 HYr.out).1
            clear hY hgs hbY
            go_upto_region 11 with (fail)
            rw [← HY.out, ← Hgs.out]
            clear y3 y5 y6 y7
            by_cases hS : S = []
            · subst hS
              go_upto_region 12 with (fail)
              go_big_quiet (fail)
              obtain ⟨V, hV⟩ : ∃ V, V = Y.drewN nq := ⟨_, rfl⟩
              have hbV : Below Y.heap.size Y V := by rw [hV]; exact below_drewN2 (Below.refl _ _) _
              rw [← hV]
              have HbV := Lib.hid (HbY.out.trans (hbV.mono HbY.out.size))
              have HownV := Lib.hid (ownsRow_below HownY.out hbV)
              have HVr := Lib.hid ((hbV.block _ hgY).trans HYr.out)
              have HEV := Lib.hid (fun p hp => (HEY.out p hp).below hbV)
              have HxV := Lib.hid (HxY.out.below hbV)
              clear hV hbV
              have HX1 := Lib.hid (RecAt.one (c := spCells) (sz := 6) V (fr, tz, x) 169 #[.int .i64 fr, .int .i64 tz, .string x.s.plan, .slice x.pa x.pn x.pc, .bool x.s.su, .bool x.s.fa] rfl)
              have hVs := HbV.out.size
              go_upto_region 14 with (fail)
              have c0 : V.cell? ⟨gs, 0, none⟩ = some (.int .i64 fr) := cell_of_row V _ 0 _ _ _ HVr.out
              have c1 : V.cell? ⟨gs, 1, none⟩ = some (.int .i64 tz) := cell_of_row V _ 1 _ _ _ HVr.out
              have c2 : V.cell? ⟨gs, 2, none⟩ = some (.string x.s.plan) := cell_of_row V _ 2 _ _ _ HVr.out
              have c3 : V.cell? ⟨gs, 3, none⟩ = some (.slice x.pa x.pn x.pc) := cell_of_row V _ 3 _ _ _ HVr.out
              have c4 : V.cell? ⟨gs, 4, none⟩ = some (.bool x.s.su) := cell_of_row V _ 4 _ _ _ HVr.out
              have c5 : V.cell? ⟨gs, 5, none⟩ = some (.bool x.s.fa) := cell_of_row V _ 5 _ _ _ HVr.out
              go_wp2_with (at_builtin; refine append_one (c := spCells) (sz := 6) (fun _ => rfl) sp_one 169 171 _ 64 Tryz.underlying171 Tryz.spellInfo rfl (by decide) rfl _ _ rfl w.heap.size (by first | omega | (simp; done) | (simp; omega)) _ _ [] (fr, tz, x) rfl rfl (HownV.out.alloc _) HX1.out (by unfold maxLen; first | omega | (simp; done) | (simp; omega)) (by first | omega | (simp; done) | (simp; omega)) ?_)
              intro R hR v5 w5 own5 hg5 hh5
              have HRe := Lib.hid (show R = [] ++ [(fr, tz, x)] by rw [hR.out]; first | rfl | simp)
              have HE5 := Lib.hid (show ∀ p ∈ R, SpE w5 v5 p from fun p hp => by
                rw [HRe.out] at hp
                rcases List.mem_append.1 hp with hp | hp
                · exact ((HEV.out p hp).below ((Below.refl _ _).alloc (Nat.le_refl _) _)).turn hg5 (fun g h => by have := hh5.out g h; simpa using this)
                · rw [List.mem_singleton.1 hp]; exact (HxV.out.below ((Below.refl _ _).alloc (Nat.le_refl _) _)).turn hg5 (fun g h => by have := hh5.out g h; simpa using this))
              have Hb5 := Lib.hid ((HbV.out.alloc hVs _).grown hg5 (by simp <;> omega) (fun g hg => (ownsRow_block HownV.out g hg).1))
              have Own5 := Lib.hid own5
              have HPf := Lib.hid (show plainSp R = rspL n l (k + 1) by rw [HRe.out, HSu.out, HF.out, ← HP.out]; exact rfl)
              clear own5 hg5 hh5 hR hVs c0 c1 c2 c3 c4 c5
              go_wp2
              exact ⟨⟨k + 1, R, by omega, by go_num, HPf, Own5.out, HE5, Hb5.out⟩, by simp [intOf]; omega⟩
            · obtain ⟨M, q, rfl⟩ : ∃ M q, S = M ++ [q] := ⟨_, _, (List.dropLast_concat_getLast hS).symm⟩
              clear hS
              obtain ⟨g0, rfl, hln, hgB, hgl, hownM, hcell⟩ := own_last (c := spCells) (sz := 6) (fun _ => rfl) HownY.out
              have HownM := Lib.hid hownM
              have z0 : Y.cell? ⟨g0, M.length * 6, none⟩ = some (.int .i64 q.1) := hcell 0 (by decide)
              have z1 : Y.cell? ⟨g0, M.length * 6 + 1, none⟩ = some (.int .i64 q.2.1) := hcell 1 (by decide)
              have z2 : Y.cell? ⟨g0, M.length * 6 + 2, none⟩ = some (.string q.2.2.s.plan) := hcell 2 (by decide)
              have z3 : Y.cell? ⟨g0, M.length * 6 + 3, none⟩ = some (.slice q.2.2.pa q.2.2.pn q.2.2.pc) := hcell 3 (by decide)
              have z4 : Y.cell? ⟨g0, M.length * 6 + 4, none⟩ = some (.bool q.2.2.s.su) := hcell 4 (by decide)
              have z5 : Y.cell? ⟨g0, M.length * 6 + 5, none⟩ = some (.bool q.2.2.s.fa) := hcell 5 (by decide)
              rw [hln] at hc1 hSl ⊢
              have hj1 : IntKind.i64.wrap ((M.length : Int) + 1 - 1) = (M.length : Int) := by rw [Int.add_sub_cancel]; exact IntWalk.i64_in _ (by omega)
              have hj2 : (0 : Int) < (M.length : Int) + 1 := by omega
              have hj3 : ((M.length : Int) + 1).toNat = M.length + 1 := by omega
              have hj4 : IntKind.i64.wrap (M.length : Int) = (M.length : Int) := IntWalk.i64_in _ (by omega)
              have hj5 : (0 : Int) ≤ (M.length : Int) := Int.natCast_nonneg _
              have hj6 : (M.length : Int) < (M.length : Int) + 1 := by omega
              have J := Lib.hid (And.intro hj1 (And.intro hj2 (And.intro hj3 (And.intro hj4 (And.intro hj5 hj6)))))
              rw [hln] at HEY HxY
              have HownL := Lib.hid (show Y.ownsRow w.heap.size 169 6 (.slice (some ⟨g0, 0, none⟩) (M.length + 1) cp) (M ++ [q]).length ((M ++ [q]).flatMap spCells) by rw [hln]; exact HownM.out)
              clear hownM hcell hln
              go_upto_region 12 with (fail)
              by_cases hqf : q.2.1 = fr
              · have hqf2 : (q.2.1 == fr) = true := beq_iff_eq.2 hqf
                have Hqf := Lib.hid hqf
                clear hqf
                have HT := Lib.hid (show ∀ W, Below Y.heap.size Y W → Calls Tryz.prog 149 #[spVal q, spVal (fr, tz, x)] W fun e w' => e = .returned (.bool (alikeRB q.2.2.s x.s)) ∧ Below W.heap.size W w' from fun W hW => alike20_calls q (fr, tz, x) W (((HEY.out q (by simp)).below hW).st) ((HxY.out.below hW).st))
                have hrr := Below.refl Y.heap.size Y
                have u0 := fun p : BelowOf Y => BelowOf.cell (a := ⟨g0, M.length * 6, none⟩) hgl z0 p
                have u1 := fun p : BelowOf Y => BelowOf.cell (a := ⟨g0, M.length * 6 + 1, none⟩) hgl z1 p
                have u2 := fun p : BelowOf Y => BelowOf.cell (a := ⟨g0, M.length * 6 + 2, none⟩) hgl z2 p
                have u3 := fun p : BelowOf Y => BelowOf.cell (a := ⟨g0, M.length * 6 + 3, none⟩) hgl z3 p
                have u4 := fun p : BelowOf Y => BelowOf.cell (a := ⟨g0, M.length * 6 + 4, none⟩) hgl z4 p
                have u5 := fun p : BelowOf Y => BelowOf.cell (a := ⟨g0, M.length * 6 + 5, none⟩) hgl z5 p
                have y0 := fun p : BelowOf Y => BelowOf.cell (a := ⟨gs, 0, none⟩) hgY (show Y.cell? ⟨gs, 0, none⟩ = some (.int .i64 fr) from cell_of_row Y _ 0 _ _ _ HYr.out) p
                have y1 := fun p : BelowOf Y => BelowOf.cell (a := ⟨gs, 1, none⟩) hgY (show Y.cell? ⟨gs, 1, none⟩ = some (.int .i64 tz) from cell_of_row Y _ 1 _ _ _ HYr.out) p
                have y2 := fun p : BelowOf Y => BelowOf.cell (a := ⟨gs, 2, none⟩) hgY (show Y.cell? ⟨gs, 2, none⟩ = some (.string x.s.plan) from cell_of_row Y _ 2 _ _ _ HYr.out) p
                have y3 := fun p : BelowOf Y => BelowOf.cell (a := ⟨gs, 3, none⟩) hgY (show Y.cell? ⟨gs, 3, none⟩ = some (.slice x.pa x.pn x.pc) from cell_of_row Y _ 3 _ _ _ HYr.out) p
                have y4 := fun p : BelowOf Y => BelowOf.cell (a := ⟨gs, 4, none⟩) hgY (show Y.cell? ⟨gs, 4, none⟩ = some (.bool x.s.su) from cell_of_row Y _ 4 _ _ _ HYr.out) p
                have y5 := fun p : BelowOf Y => BelowOf.cell (a := ⟨gs, 5, none⟩) hgY (show Y.cell? ⟨gs, 5, none⟩ = some (.bool x.s.fa) from cell_of_row Y _ 5 _ _ _ HYr.out) p
                clear z0 z1 z2 z3 z4 z5
                cases hal : alikeRB q.2.2.s x.s with
                | true =>
                  rw [hal] at HT
                  have Hal := Lib.hid hal
                  clear hal
                  refine wp_region_quiet_below hrr (by kernel_rfl) (by kernel_rfl) ?_
                  repeat (go_big_quiet_step (first | (go_at_call 149; refine calls_below_of (HT.out _ (BelowOf.h _)) (fun e w' h => h))))
                  refine wpQuiet_nil ?_
                  intro V hV
                  have hbV : Below Y.heap.size Y V := by obtain ⟨pq, rfl⟩ := hV; exact pq.h
                  clear hV u0 y0 u1 y1 u2 y2 u3 y3 u4 y4 u5 y5 hrr
                  have HbV := Lib.hid (HbY.out.trans (hbV.mono HbY.out.size))
                  have HownV := Lib.hid (ownsRow_below HownM.out hbV)
                  have HEV := Lib.hid (fun p hp => (HEY.out p hp).below hbV)
                  have c1 : V.cell? ⟨g0, M.length * 6 + 1, none⟩ = some (.int .i64 q.2.1) := (HownV.out.cellAt _ (by omega)).trans (by
                    have h := flat_get spCells 6 (fun _ => rfl) (M ++ [q]) M.length 1 (by simp) (by decide)
                    rw [List.getElem_concat_length rfl] at h
                    exact h)
                  have f1 := HownV.out.frozenAt (M.length * 6 + 1)
                  have hst := HownV.out.stored (M.length * 6 + 1) (.int .i64 tz)
                  rw [flat_set1 (c := spCells) (sz := 6) (fun _ => rfl) (M ++ [q]) M.length 1 (q.1, tz, q.2.2) (.int .i64 tz) (by simp) (by decide) (by rw [List.getElem_concat_length rfl]; rfl), List.set_append_right _ _ (Nat.le_refl _), Nat.sub_self, List.set_cons_zero] at hst
                  obtain ⟨V2, hV2⟩ : ∃ V2, V2 = V.setCell ⟨g0, M.length * 6 + 1, none⟩ (.int .i64 tz) := ⟨_, rfl⟩
                  rw [← hV2] at hst
                  have SO := Lib.hid (show V2.ownsRow w.heap.size 169 6 (.slice (some ⟨g0, 0, none⟩) (M.length + 1) cp) (M ++ [(q.1, tz, q.2.2)]).length ((M ++ [(q.1, tz, q.2.2)]).flatMap spCells) by rw [List.length_append, List.length_singleton]; exact hst.1)
                  have HE2 := Lib.hid (show ∀ p ∈ M ++ [(q.1, tz, q.2.2)], SpE V2 (.slice (some ⟨g0, 0, none⟩) (M.length + 1) cp) p from fun p hp => by
                    rcases List.mem_append.1 hp with hp | hp
                    · exact (HEV.out p (List.mem_append_left _ hp)).turn hst.2 (fun g h => Or.inl h)
                    · rw [List.mem_singleton.1 hp]
                      have h := (HEV.out q (by simp)).turn hst.2 (fun g h => Or.inl h)
                      exact ⟨h.st, h.pl, h.sp, h.off⟩)
                  have Hb2 := Lib.hid (HbV.out.grown hst.2 HbV.out.size (fun g hg => by cases hg; exact hgB))
                  have HPf := Lib.hid (show plainSp (M ++ [(q.1, tz, q.2.2)]) = rspL n l (k + 1) by rw [HSu.out, HF.out, ← HP.out]; exact plainSp_put M q (fr, tz, x) Hqf.out Hal.out)
                  have HV2 := Lib.hid hV2
                  clear hst hV2 hbV
                  go_upto_region 13 with (fail)
                  go_wp2
                  rw [← HV2.out]
                  exact ⟨⟨k + 1, M ++ [(q.1, tz, q.2.2)], by omega, by go_num, HPf, SO.out, HE2, Hb2.out⟩, by simp [intOf]; omega⟩
                | false =>
                  rw [hal] at HT
                  have Hal := Lib.hid hal
                  clear hal
                  refine wp_region_quiet_below hrr (by kernel_rfl) (by kernel_rfl) ?_
                  repeat (go_big_quiet_step (first | (go_at_call 149; refine calls_below_of (HT.out _ (BelowOf.h _)) (fun e w' h => h))))
                  refine wpQuiet_nil ?_
                  intro V hV
                  have hbV : Below Y.heap.size Y V := by obtain ⟨pq, rfl⟩ := hV; exact pq.h
                  clear hV u0 y0 u1 y1 u2 y2 u3 y3 u4 y4 u5 y5 hrr hj1 hj2 hj3 hj4 hj5 hj6
                  have HbV := Lib.hid (HbY.out.trans (hbV.mono HbY.out.size))
                  have HownV := Lib.hid (ownsRow_below HownL.out hbV)
                  have HVr := Lib.hid ((hbV.block _ hgY).trans HYr.out)
                  have HEV := Lib.hid (fun p hp => (HEY.out p hp).below hbV)
                  have HxV := Lib.hid (HxY.out.below hbV)
                  clear hbV
                  have HX2 := Lib.hid (RecAt.one (c := spCells) (sz := 6) V (fr, tz, x) 169 #[.int .i64 fr, .int .i64 tz, .string x.s.plan, .slice x.pa x.pn x.pc, .bool x.s.su, .bool x.s.fa] rfl)
                  have hVs := HbV.out.size
                  go_upto_region 14 with (fail)
                  have c0 : V.cell? ⟨gs, 0, none⟩ = some (.int .i64 fr) := cell_of_row V _ 0 _ _ _ HVr.out
                  have c1 : V.cell? ⟨gs, 1, none⟩ = some (.int .i64 tz) := cell_of_row V _ 1 _ _ _ HVr.out
                  have c2 : V.cell? ⟨gs, 2, none⟩ = some (.string x.s.plan) := cell_of_row V _ 2 _ _ _ HVr.out
                  have c3 : V.cell? ⟨gs, 3, none⟩ = some (.slice x.pa x.pn x.pc) := cell_of_row V _ 3 _ _ _ HVr.out
                  have c4 : V.cell? ⟨gs, 4, none⟩ = some (.bool x.s.su) := cell_of_row V _ 4 _ _ _ HVr.out
                  have c5 : V.cell? ⟨gs, 5, none⟩ = some (.bool x.s.fa) := cell_of_row V _ 5 _ _ _ HVr.out
                  go_wp2_with (at_builtin; refine append_one (c := spCells) (sz := 6) (fun _ => rfl) sp_one 169 171 _ 64 Tryz.underlying171 Tryz.spellInfo rfl (by decide) rfl _ _ rfl w.heap.size (by first | omega | (simp; done) | (simp; omega)) _ _ (M ++ [q]) (fr, tz, x) rfl rfl (HownV.out.alloc _) HX2.out (by unfold maxLen; first | omega | (simp; done) | (simp; omega)) (by first | omega | (simp; done) | (simp; omega)) ?_)
                  intro R hR v5 w5 own5 hg5 hh5
                  have HRe := Lib.hid (show R = (M ++ [q]) ++ [(fr, tz, x)] by rw [hR.out]; first | rfl | simp)
                  have HE5 := Lib.hid (show ∀ p ∈ R, SpE w5 v5 p from fun p hp => by
                    rw [HRe.out] at hp
                    rcases List.mem_append.1 hp with hp | hp
                    · exact ((HEV.out p hp).below ((Below.refl _ _).alloc (Nat.le_refl _) _)).turn hg5 (fun g h => by have := hh5.out g h; simpa using this)
                    · rw [List.mem_singleton.1 hp]; exact (HxV.out.below ((Below.refl _ _).alloc (Nat.le_refl _) _)).turn hg5 (fun g h => by have := hh5.out g h; simpa using this))
                  have Hb5 := Lib.hid ((HbV.out.alloc hVs _).grown hg5 (by simp <;> omega) (fun g hg => (ownsRow_block HownV.out g hg).1))
                  have Own5 := Lib.hid own5
                  have HPf := Lib.hid (show plainSp R = rspL n l (k + 1) by rw [HRe.out, HSu.out, HF.out, ← HP.out]; exact plainSp_new M q (fr, tz, x) (fun h => by have := Hal.out; rw [show alikeRB q.2.2.s x.s = true from h.2] at this; cases this))
                  clear own5 hg5 hh5 hR hVs c0 c1 c2 c3 c4 c5
                  go_wp2
                  exact ⟨⟨k + 1, R, by omega, by go_num, HPf, Own5.out, HE5, Hb5.out⟩, by simp [intOf]; omega⟩
              · have hqf2 : (q.2.1 == fr) = false := beq_eq_false_iff_ne.2 hqf
                have Hqf := Lib.hid hqf
                clear hqf
                go_big_quiet (fail)
                clear hj1 hj2 hj3 hj4 hj5 hj6 z0 z1 z2 z3 z4 z5
                obtain ⟨V, hV⟩ : ∃ V, V = Y.drewN nq := ⟨_, rfl⟩
                have hbV : Below Y.heap.size Y V := by rw [hV]; exact below_drewN2 (Below.refl _ _) _
                rw [← hV]
                have HbV := Lib.hid (HbY.out.trans (hbV.mono HbY.out.size))
                have HownV := Lib.hid (ownsRow_below HownL.out hbV)
                have HVr := Lib.hid ((hbV.block _ hgY).trans HYr.out)
                have HEV := Lib.hid (fun p hp => (HEY.out p hp).below hbV)
                have HxV := Lib.hid (HxY.out.below hbV)
                clear hV hbV
                have HX3 := Lib.hid (RecAt.one (c := spCells) (sz := 6) V (fr, tz, x) 169 #[.int .i64 fr, .int .i64 tz, .string x.s.plan, .slice x.pa x.pn x.pc, .bool x.s.su, .bool x.s.fa] rfl)
                have hVs := HbV.out.size
                go_upto_region 14 with (fail)
                have c0 : V.cell? ⟨gs, 0, none⟩ = some (.int .i64 fr) := cell_of_row V _ 0 _ _ _ HVr.out
                have c1 : V.cell? ⟨gs, 1, none⟩ = some (.int .i64 tz) := cell_of_row V _ 1 _ _ _ HVr.out
                have c2 : V.cell? ⟨gs, 2, none⟩ = some (.string x.s.plan) := cell_of_row V _ 2 _ _ _ HVr.out
                have c3 : V.cell? ⟨gs, 3, none⟩ = some (.slice x.pa x.pn x.pc) := cell_of_row V _ 3 _ _ _ HVr.out
                have c4 : V.cell? ⟨gs, 4, none⟩ = some (.bool x.s.su) := cell_of_row V _ 4 _ _ _ HVr.out
                have c5 : V.cell? ⟨gs, 5, none⟩ = some (.bool x.s.fa) := cell_of_row V _ 5 _ _ _ HVr.out
                go_wp2_with (at_builtin; refine append_one (c := spCells) (sz := 6) (fun _ => rfl) sp_one 169 171 _ 64 Tryz.underlying171 Tryz.spellInfo rfl (by decide) rfl _ _ rfl w.heap.size (by first | omega | (simp; done) | (simp; omega)) _ _ (M ++ [q]) (fr, tz, x) rfl rfl (HownV.out.alloc _) HX3.out (by unfold maxLen; first | omega | (simp; done) | (simp; omega)) (by first | omega | (simp; done) | (simp; omega)) ?_)
                intro R hR v5 w5 own5 hg5 hh5
                have HRe := Lib.hid (show R = (M ++ [q]) ++ [(fr, tz, x)] by rw [hR.out]; first | rfl | simp)
                have HE5 := Lib.hid (show ∀ p ∈ R, SpE w5 v5 p from fun p hp => by
                  rw [HRe.out] at hp
                  rcases List.mem_append.1 hp with hp | hp
                  · exact ((HEV.out p hp).below ((Below.refl _ _).alloc (Nat.le_refl _) _)).turn hg5 (fun g h => by have := hh5.out g h; simpa using this)
                  · rw [List.mem_singleton.1 hp]; exact (HxV.out.below ((Below.refl _ _).alloc (Nat.le_refl _) _)).turn hg5 (fun g h => by have := hh5.out g h; simpa using this))
                have Hb5 := Lib.hid ((HbV.out.alloc hVs _).grown hg5 (by simp <;> omega) (fun g hg => (ownsRow_block HownV.out g hg).1))
                have Own5 := Lib.hid own5
                have HPf := Lib.hid (show plainSp R = rspL n l (k + 1) by rw [HRe.out, HSu.out, HF.out, ← HP.out]; exact plainSp_new M q (fr, tz, x) (fun h => Hqf.out h.1))
                clear own5 hg5 hh5 hR hVs c0 c1 c2 c3 c4 c5
                go_wp2
                exact ⟨⟨k + 1, R, by omega, by go_num, HPf, Own5.out, HE5, Hb5.out⟩, by simp [intOf]; omega⟩
      · have Hn1 := Lib.hid (HNe.out hk2)
        have hk3 : ¬ ((k : Int) + 1 < (l.length : Int)) := by omega
        obtain rfl : 12622780800 = tz := Hn1.out.symm
        clear HNx HNe hb
        cases rf with
        | none =>
          have HF := Lib.hid (HSn.out (by first | rfl | trivial))
          go_wp2_with fail
          refine (HRn.out (by first | rfl | trivial)).mono ?_
          rintro e w3 ⟨rfl, hb3⟩
          have HbW := Lib.hid (Hb.out.trans ((hb3.mono Hb.out.size).alloc (Nat.le_trans Hb.out.size hb3.size) (Obj.cells #[.int .i64 0, .int .i64 0, .int .i64 0, .string ⟨#[]⟩, .slice none 0 0, .slice none 0 0, .bool false, .bool false] 181)))
          have HbWo := Lib.hid (hb3.alloc hb3.size (Obj.cells #[.int .i64 0, .int .i64 0, .int .i64 0, .string ⟨#[]⟩, .slice none 0 0, .slice none 0 0, .bool false, .bool false] 181))
          have HownW := Lib.hid (ownsRow_below Hown.out HbWo.out)
          have HEW := Lib.hid (fun p hp => (HE.out p hp).below HbWo.out)
          clear hb3
          by_cases hft : fr = (12622780800 : Int)
          · have hft2 : (fr == (12622780800 : Int)) = true := beq_iff_eq.2 hft
            clear hft
            go_wp2
            exact ⟨⟨k + 1, S, by omega, by go_num, Lib.hid (HP.out.trans (by rw [HSu.out, HF.out])), HownW.out, HEW, HbW.out⟩, by simp [intOf]; omega⟩
          · have hft2 : (fr == (12622780800 : Int)) = false := beq_eq_false_iff_ne.2 hft
            clear hft
            go_wp2
            exact ⟨⟨k + 1, S, by omega, by go_num, Lib.hid (HP.out.trans (by rw [HSu.out, HF.out])), HownW.out, HEW, HbW.out⟩, by simp [intOf]; omega⟩
        | some q0 =>
          go_wp2_with fail
          refine (HRs.out q0 (by first | rfl | trivial)).mono ?_
          rintro e w3 ⟨x, hxq, rfl, hst3, hpl3, hfr3, hb3⟩
          obtain ⟨w4, hw4⟩ : ∃ w4, w4 = w3.alloc (Obj.cells #[.int .i64 x.s.id, .int .i64 x.s.ac, .int .i64 x.s.si, .string x.s.plan, .slice x.na x.nn x.nc, .slice x.pa x.pn x.pc, .bool x.s.su, .bool x.s.fa] 181) := ⟨_, rfl⟩
          have h34 : Below w3.heap.size w3 w4 := by rw [hw4]; go_grown
          have Hxq := Lib.hid hxq
          have Hw4r := Lib.hid (show w4.heap[w3.heap.size]? = some (Obj.cells #[.int .i64 x.s.id, .int .i64 x.s.ac, .int .i64 x.s.si, .string x.s.plan, .slice x.na x.nn x.nc, .slice x.pa x.pn x.pc, .bool x.s.su, .bool x.s.fa] 181) by rw [hw4]; exact heap_alloc_new _ _)
          have HbWo := Lib.hid (hb3.trans (h34.mono hb3.size))
          have HbW := Lib.hid (Hb.out.trans (HbWo.out.mono Hb.out.size))
          have HownW := Lib.hid (ownsRow_below Hown.out HbWo.out)
          have HEW := Lib.hid (fun p hp => (HE.out p hp).below HbWo.out)
          have HxW := Lib.hid (show SpE w4 (.slice a S.length cp) (fr, (12622780800 : Int), x) from ⟨hst3.below h34, hpl3, hfr3.plain, fun _ ad had hq => by
            have h1 := (hfr3 ad had).2
            have h2 := (ownsRow_block Hown.out _ hq).2
            omega⟩)
          have Hw4 := Lib.hid hw4
          clear hst3 hpl3 hfr3 hb3 h34 hxq hw4
          have y3 : w4.cell? ⟨w3.heap.size, 3, none⟩ = some (.string x.s.plan) := cell_of_row w4 _ 3 _ _ _ Hw4r.out
          have y5 : w4.cell? ⟨w3.heap.size, 5, none⟩ = some (.slice x.pa x.pn x.pc) := cell_of_row w4 _ 5 _ _ _ Hw4r.out
          have y6 : w4.cell? ⟨w3.heap.size, 6, none⟩ = some (.bool x.s.su) := cell_of_row w4 _ 6 _ _ _ Hw4r.out
          have y7 : w4.cell? ⟨w3.heap.size, 7, none⟩ = some (.bool x.s.fa) := cell_of_row w4 _ 7 _ _ _ Hw4r.out
          unfold sbVal
          go_upto_region 9 with (fail)
          rw [← Hw4.out]
          by_cases hft : fr = (12622780800 : Int)
          · have HF := Lib.hid (HSe.out hft)
            have hft2 : (fr == (12622780800 : Int)) = true := beq_iff_eq.2 hft
            clear hft y3 y5 y6 y7
            go_wp2
            exact ⟨⟨k + 1, S, by omega, by go_num, Lib.hid (HP.out.trans (by rw [HSu.out, HF.out])), HownW.out, HEW, HbW.out⟩, by simp [intOf]; omega⟩
          · have HF := Lib.hid (show rspStep n l (rspL n l k) k = rspPut (rspL n l k) fr (12622780800 : Int) x.s by rw [Hxq.out]; exact HSs.out hft q0 (by first | rfl | trivial))
            have hft2 : (fr == (12622780800 : Int)) = false := beq_eq_false_iff_ne.2 hft
            clear hft
            obtain ⟨gs, hgs⟩ : ∃ gs, gs = w4.heap.size := ⟨_, rfl⟩
            obtain ⟨Y, hY⟩ : ∃ Y, Y = w4.alloc (Obj.cells #[.int .i64 fr, .int .i64 (12622780800 : Int), .string x.s.plan, .slice x.pa x.pn x.pc, .bool x.s.su, .bool x.s.fa] 169) := ⟨_, rfl⟩
            have hbY : Below w4.heap.size w4 Y := by rw [hY]; go_grown
            have HYr := Lib.hid (show Y.heap[gs]? = some (Obj.cells #[.int .i64 fr, .int .i64 (12622780800 : Int), .string x.s.plan, .slice x.pa x.pn x.pc, .bool x.s.su, .bool x.s.fa] 169) by rw [hY, hgs]; exact heap_alloc_new _ _)
            have HbY := Lib.hid (HbW.out.trans (hbY.mono HbW.out.size))
            have HownY := Lib.hid (ownsRow_below HownW.out hbY)
            have HEY := Lib.hid (fun p hp => (HEW.out p hp).below hbY)
            have HxY := Lib.hid (HxW.out.below hbY)
            have HY := Lib.hid hY
            have Hgs := Lib.hid hgs
            have hgY : gs < Y.heap.size := (Array.getElem?_eq_some_iff.1 HYr.out).1
            clear hY hgs hbY
            go_upto_region 11 with (fail)
            rw [← HY.out, ← Hgs.out]
            clear y3 y5 y6 y7
            by_cases hS : S = []
            · subst hS
              go_upto_region 12 with (fail)
              go_big_quiet (fail)
              obtain ⟨V, hV⟩ : ∃ V, V = Y.drewN nq := ⟨_, rfl⟩
              have hbV : Below Y.heap.size Y V := by rw [hV]; exact below_drewN2 (Below.refl _ _) _
              rw [← hV]
              have HbV := Lib.hid (HbY.out.trans (hbV.mono HbY.out.size))
              have HownV := Lib.hid (ownsRow_below HownY.out hbV)
              have HVr := Lib.hid ((hbV.block _ hgY).trans HYr.out)
              have HEV := Lib.hid (fun p hp => (HEY.out p hp).below hbV)
              have HxV := Lib.hid (HxY.out.below hbV)
              clear hV hbV
              have HX4 := Lib.hid (RecAt.one (c := spCells) (sz := 6) V (fr, (12622780800 : Int), x) 169 #[.int .i64 fr, .int .i64 (12622780800 : Int), .string x.s.plan, .slice x.pa x.pn x.pc, .bool x.s.su, .bool x.s.fa] rfl)
              have hVs := HbV.out.size
              go_upto_region 14 with (fail)
              have c0 : V.cell? ⟨gs, 0, none⟩ = some (.int .i64 fr) := cell_of_row V _ 0 _ _ _ HVr.out
              have c1 : V.cell? ⟨gs, 1, none⟩ = some (.int .i64 (12622780800 : Int)) := cell_of_row V _ 1 _ _ _ HVr.out
              have c2 : V.cell? ⟨gs, 2, none⟩ = some (.string x.s.plan) := cell_of_row V _ 2 _ _ _ HVr.out
              have c3 : V.cell? ⟨gs, 3, none⟩ = some (.slice x.pa x.pn x.pc) := cell_of_row V _ 3 _ _ _ HVr.out
              have c4 : V.cell? ⟨gs, 4, none⟩ = some (.bool x.s.su) := cell_of_row V _ 4 _ _ _ HVr.out
              have c5 : V.cell? ⟨gs, 5, none⟩ = some (.bool x.s.fa) := cell_of_row V _ 5 _ _ _ HVr.out
              go_wp2_with (at_builtin; refine append_one (c := spCells) (sz := 6) (fun _ => rfl) sp_one 169 171 _ 64 Tryz.underlying171 Tryz.spellInfo rfl (by decide) rfl _ _ rfl w.heap.size (by first | omega | (simp; done) | (simp; omega)) _ _ [] (fr, (12622780800 : Int), x) rfl rfl (HownV.out.alloc _) HX4.out (by unfold maxLen; first | omega | (simp; done) | (simp; omega)) (by first | omega | (simp; done) | (simp; omega)) ?_)
              intro R hR v5 w5 own5 hg5 hh5
              have HRe := Lib.hid (show R = [] ++ [(fr, (12622780800 : Int), x)] by rw [hR.out]; first | rfl | simp)
              have HE5 := Lib.hid (show ∀ p ∈ R, SpE w5 v5 p from fun p hp => by
                rw [HRe.out] at hp
                rcases List.mem_append.1 hp with hp | hp
                · exact ((HEV.out p hp).below ((Below.refl _ _).alloc (Nat.le_refl _) _)).turn hg5 (fun g h => by have := hh5.out g h; simpa using this)
                · rw [List.mem_singleton.1 hp]; exact (HxV.out.below ((Below.refl _ _).alloc (Nat.le_refl _) _)).turn hg5 (fun g h => by have := hh5.out g h; simpa using this))
              have Hb5 := Lib.hid ((HbV.out.alloc hVs _).grown hg5 (by simp <;> omega) (fun g hg => (ownsRow_block HownV.out g hg).1))
              have Own5 := Lib.hid own5
              have HPf := Lib.hid (show plainSp R = rspL n l (k + 1) by rw [HRe.out, HSu.out, HF.out, ← HP.out]; exact rfl)
              clear own5 hg5 hh5 hR hVs c0 c1 c2 c3 c4 c5
              go_wp2
              exact ⟨⟨k + 1, R, by omega, by go_num, HPf, Own5.out, HE5, Hb5.out⟩, by simp [intOf]; omega⟩
            · obtain ⟨M, q, rfl⟩ : ∃ M q, S = M ++ [q] := ⟨_, _, (List.dropLast_concat_getLast hS).symm⟩
              clear hS
              obtain ⟨g0, rfl, hln, hgB, hgl, hownM, hcell⟩ := own_last (c := spCells) (sz := 6) (fun _ => rfl) HownY.out
              have HownM := Lib.hid hownM
              have z0 : Y.cell? ⟨g0, M.length * 6, none⟩ = some (.int .i64 q.1) := hcell 0 (by decide)
              have z1 : Y.cell? ⟨g0, M.length * 6 + 1, none⟩ = some (.int .i64 q.2.1) := hcell 1 (by decide)
              have z2 : Y.cell? ⟨g0, M.length * 6 + 2, none⟩ = some (.string q.2.2.s.plan) := hcell 2 (by decide)
              have z3 : Y.cell? ⟨g0, M.length * 6 + 3, none⟩ = some (.slice q.2.2.pa q.2.2.pn q.2.2.pc) := hcell 3 (by decide)
              have z4 : Y.cell? ⟨g0, M.length * 6 + 4, none⟩ = some (.bool q.2.2.s.su) := hcell 4 (by decide)
              have z5 : Y.cell? ⟨g0, M.length * 6 + 5, none⟩ = some (.bool q.2.2.s.fa) := hcell 5 (by decide)
              rw [hln] at hc1 hSl ⊢
              have hj1 : IntKind.i64.wrap ((M.length : Int) + 1 - 1) = (M.length : Int) := by rw [Int.add_sub_cancel]; exact IntWalk.i64_in _ (by omega)
              have hj2 : (0 : Int) < (M.length : Int) + 1 := by omega
              have hj3 : ((M.length : Int) + 1).toNat = M.length + 1 := by omega
              have hj4 : IntKind.i64.wrap (M.length : Int) = (M.length : Int) := IntWalk.i64_in _ (by omega)
              have hj5 : (0 : Int) ≤ (M.length : Int) := Int.natCast_nonneg _
              have hj6 : (M.length : Int) < (M.length : Int) + 1 := by omega
              have J := Lib.hid (And.intro hj1 (And.intro hj2 (And.intro hj3 (And.intro hj4 (And.intro hj5 hj6)))))
              rw [hln] at HEY HxY
              have HownL := Lib.hid (show Y.ownsRow w.heap.size 169 6 (.slice (some ⟨g0, 0, none⟩) (M.length + 1) cp) (M ++ [q]).length ((M ++ [q]).flatMap spCells) by rw [hln]; exact HownM.out)
              clear hownM hcell hln
              go_upto_region 12 with (fail)
              by_cases hqf : q.2.1 = fr
              · have hqf2 : (q.2.1 == fr) = true := beq_iff_eq.2 hqf
                have Hqf := Lib.hid hqf
                clear hqf
                have HT := Lib.hid (show ∀ W, Below Y.heap.size Y W → Calls Tryz.prog 149 #[spVal q, spVal (fr, (12622780800 : Int), x)] W fun e w' => e = .returned (.bool (alikeRB q.2.2.s x.s)) ∧ Below W.heap.size W w' from fun W hW => alike20_calls q (fr, (12622780800 : Int), x) W (((HEY.out q (by simp)).below hW).st) ((HxY.out.below hW).st))
                have hrr := Below.refl Y.heap.size Y
                have u0 := fun p : BelowOf Y => BelowOf.cell (a := ⟨g0, M.length * 6, none⟩) hgl z0 p
                have u1 := fun p : BelowOf Y => BelowOf.cell (a := ⟨g0, M.length * 6 + 1, none⟩) hgl z1 p
                have u2 := fun p : BelowOf Y => BelowOf.cell (a := ⟨g0, M.length * 6 + 2, none⟩) hgl z2 p
                have u3 := fun p : BelowOf Y => BelowOf.cell (a := ⟨g0, M.length * 6 + 3, none⟩) hgl z3 p
                have u4 := fun p : BelowOf Y => BelowOf.cell (a := ⟨g0, M.length * 6 + 4, none⟩) hgl z4 p
                have u5 := fun p : BelowOf Y => BelowOf.cell (a := ⟨g0, M.length * 6 + 5, none⟩) hgl z5 p
                have y0 := fun p : BelowOf Y => BelowOf.cell (a := ⟨gs, 0, none⟩) hgY (show Y.cell? ⟨gs, 0, none⟩ = some (.int .i64 fr) from cell_of_row Y _ 0 _ _ _ HYr.out) p
                have y1 := fun p : BelowOf Y => BelowOf.cell (a := ⟨gs, 1, none⟩) hgY (show Y.cell? ⟨gs, 1, none⟩ = some (.int .i64 (12622780800 : Int)) from cell_of_row Y _ 1 _ _ _ HYr.out) p
                have y2 := fun p : BelowOf Y => BelowOf.cell (a := ⟨gs, 2, none⟩) hgY (show Y.cell? ⟨gs, 2, none⟩ = some (.string x.s.plan) from cell_of_row Y _ 2 _ _ _ HYr.out) p
                have y3 := fun p : BelowOf Y => BelowOf.cell (a := ⟨gs, 3, none⟩) hgY (show Y.cell? ⟨gs, 3, none⟩ = some (.slice x.pa x.pn x.pc) from cell_of_row Y _ 3 _ _ _ HYr.out) p
                have y4 := fun p : BelowOf Y => BelowOf.cell (a := ⟨gs, 4, none⟩) hgY (show Y.cell? ⟨gs, 4, none⟩ = some (.bool x.s.su) from cell_of_row Y _ 4 _ _ _ HYr.out) p
                have y5 := fun p : BelowOf Y => BelowOf.cell (a := ⟨gs, 5, none⟩) hgY (show Y.cell? ⟨gs, 5, none⟩ = some (.bool x.s.fa) from cell_of_row Y _ 5 _ _ _ HYr.out) p
                clear z0 z1 z2 z3 z4 z5
                cases hal : alikeRB q.2.2.s x.s with
                | true =>
                  rw [hal] at HT
                  have Hal := Lib.hid hal
                  clear hal
                  refine wp_region_quiet_below hrr (by kernel_rfl) (by kernel_rfl) ?_
                  repeat (go_big_quiet_step (first | (go_at_call 149; refine calls_below_of (HT.out _ (BelowOf.h _)) (fun e w' h => h))))
                  refine wpQuiet_nil ?_
                  intro V hV
                  have hbV : Below Y.heap.size Y V := by obtain ⟨pq, rfl⟩ := hV; exact pq.h
                  clear hV u0 y0 u1 y1 u2 y2 u3 y3 u4 y4 u5 y5 hrr
                  have HbV := Lib.hid (HbY.out.trans (hbV.mono HbY.out.size))
                  have HownV := Lib.hid (ownsRow_below HownM.out hbV)
                  have HEV := Lib.hid (fun p hp => (HEY.out p hp).below hbV)
                  have c1 : V.cell? ⟨g0, M.length * 6 + 1, none⟩ = some (.int .i64 q.2.1) := (HownV.out.cellAt _ (by omega)).trans (by
                    have h := flat_get spCells 6 (fun _ => rfl) (M ++ [q]) M.length 1 (by simp) (by decide)
                    rw [List.getElem_concat_length rfl] at h
                    exact h)
                  have f1 := HownV.out.frozenAt (M.length * 6 + 1)
                  have hst := HownV.out.stored (M.length * 6 + 1) (.int .i64 (12622780800 : Int))
                  rw [flat_set1 (c := spCells) (sz := 6) (fun _ => rfl) (M ++ [q]) M.length 1 (q.1, (12622780800 : Int), q.2.2) (.int .i64 (12622780800 : Int)) (by simp) (by decide) (by rw [List.getElem_concat_length rfl]; rfl), List.set_append_right _ _ (Nat.le_refl _), Nat.sub_self, List.set_cons_zero] at hst
                  obtain ⟨V2, hV2⟩ : ∃ V2, V2 = V.setCell ⟨g0, M.length * 6 + 1, none⟩ (.int .i64 (12622780800 : Int)) := ⟨_, rfl⟩
                  rw [← hV2] at hst
                  have SO := Lib.hid (show V2.ownsRow w.heap.size 169 6 (.slice (some ⟨g0, 0, none⟩) (M.length + 1) cp) (M ++ [(q.1, (12622780800 : Int), q.2.2)]).length ((M ++ [(q.1, (12622780800 : Int), q.2.2)]).flatMap spCells) by rw [List.length_append, List.length_singleton]; exact hst.1)
                  have HE2 := Lib.hid (show ∀ p ∈ M ++ [(q.1, (12622780800 : Int), q.2.2)], SpE V2 (.slice (some ⟨g0, 0, none⟩) (M.length + 1) cp) p from fun p hp => by
                    rcases List.mem_append.1 hp with hp | hp
                    · exact (HEV.out p (List.mem_append_left _ hp)).turn hst.2 (fun g h => Or.inl h)
                    · rw [List.mem_singleton.1 hp]
                      have h := (HEV.out q (by simp)).turn hst.2 (fun g h => Or.inl h)
                      exact ⟨h.st, h.pl, h.sp, h.off⟩)
                  have Hb2 := Lib.hid (HbV.out.grown hst.2 HbV.out.size (fun g hg => by cases hg; exact hgB))
                  have HPf := Lib.hid (show plainSp (M ++ [(q.1, (12622780800 : Int), q.2.2)]) = rspL n l (k + 1) by rw [HSu.out, HF.out, ← HP.out]; exact plainSp_put M q (fr, (12622780800 : Int), x) Hqf.out Hal.out)
                  have HV2 := Lib.hid hV2
                  clear hst hV2 hbV
                  go_upto_region 13 with (fail)
                  go_wp2
                  rw [← HV2.out]
                  exact ⟨⟨k + 1, M ++ [(q.1, (12622780800 : Int), q.2.2)], by omega, by go_num, HPf, SO.out, HE2, Hb2.out⟩, by simp [intOf]; omega⟩
                | false =>
                  rw [hal] at HT
                  have Hal := Lib.hid hal
                  clear hal
                  refine wp_region_quiet_below hrr (by kernel_rfl) (by kernel_rfl) ?_
                  repeat (go_big_quiet_step (first | (go_at_call 149; refine calls_below_of (HT.out _ (BelowOf.h _)) (fun e w' h => h))))
                  refine wpQuiet_nil ?_
                  intro V hV
                  have hbV : Below Y.heap.size Y V := by obtain ⟨pq, rfl⟩ := hV; exact pq.h
                  clear hV u0 y0 u1 y1 u2 y2 u3 y3 u4 y4 u5 y5 hrr hj1 hj2 hj3 hj4 hj5 hj6
                  have HbV := Lib.hid (HbY.out.trans (hbV.mono HbY.out.size))
                  have HownV := Lib.hid (ownsRow_below HownL.out hbV)
                  have HVr := Lib.hid ((hbV.block _ hgY).trans HYr.out)
                  have HEV := Lib.hid (fun p hp => (HEY.out p hp).below hbV)
                  have HxV := Lib.hid (HxY.out.below hbV)
                  clear hbV
                  have HX5 := Lib.hid (RecAt.one (c := spCells) (sz := 6) V (fr, (12622780800 : Int), x) 169 #[.int .i64 fr, .int .i64 (12622780800 : Int), .string x.s.plan, .slice x.pa x.pn x.pc, .bool x.s.su, .bool x.s.fa] rfl)
                  have hVs := HbV.out.size
                  go_upto_region 14 with (fail)
                  have c0 : V.cell? ⟨gs, 0, none⟩ = some (.int .i64 fr) := cell_of_row V _ 0 _ _ _ HVr.out
                  have c1 : V.cell? ⟨gs, 1, none⟩ = some (.int .i64 (12622780800 : Int)) := cell_of_row V _ 1 _ _ _ HVr.out
                  have c2 : V.cell? ⟨gs, 2, none⟩ = some (.string x.s.plan) := cell_of_row V _ 2 _ _ _ HVr.out
                  have c3 : V.cell? ⟨gs, 3, none⟩ = some (.slice x.pa x.pn x.pc) := cell_of_row V _ 3 _ _ _ HVr.out
                  have c4 : V.cell? ⟨gs, 4, none⟩ = some (.bool x.s.su) := cell_of_row V _ 4 _ _ _ HVr.out
                  have c5 : V.cell? ⟨gs, 5, none⟩ = some (.bool x.s.fa) := cell_of_row V _ 5 _ _ _ HVr.out
                  go_wp2_with (at_builtin; refine append_one (c := spCells) (sz := 6) (fun _ => rfl) sp_one 169 171 _ 64 Tryz.underlying171 Tryz.spellInfo rfl (by decide) rfl _ _ rfl w.heap.size (by first | omega | (simp; done) | (simp; omega)) _ _ (M ++ [q]) (fr, (12622780800 : Int), x) rfl rfl (HownV.out.alloc _) HX5.out (by unfold maxLen; first | omega | (simp; done) | (simp; omega)) (by first | omega | (simp; done) | (simp; omega)) ?_)
                  intro R hR v5 w5 own5 hg5 hh5
                  have HRe := Lib.hid (show R = (M ++ [q]) ++ [(fr, (12622780800 : Int), x)] by rw [hR.out]; first | rfl | simp)
                  have HE5 := Lib.hid (show ∀ p ∈ R, SpE w5 v5 p from fun p hp => by
                    rw [HRe.out] at hp
                    rcases List.mem_append.1 hp with hp | hp
                    · exact ((HEV.out p hp).below ((Below.refl _ _).alloc (Nat.le_refl _) _)).turn hg5 (fun g h => by have := hh5.out g h; simpa using this)
                    · rw [List.mem_singleton.1 hp]; exact (HxV.out.below ((Below.refl _ _).alloc (Nat.le_refl _) _)).turn hg5 (fun g h => by have := hh5.out g h; simpa using this))
                  have Hb5 := Lib.hid ((HbV.out.alloc hVs _).grown hg5 (by simp <;> omega) (fun g hg => (ownsRow_block HownV.out g hg).1))
                  have Own5 := Lib.hid own5
                  have HPf := Lib.hid (show plainSp R = rspL n l (k + 1) by rw [HRe.out, HSu.out, HF.out, ← HP.out]; exact plainSp_new M q (fr, (12622780800 : Int), x) (fun h => by have := Hal.out; rw [show alikeRB q.2.2.s x.s = true from h.2] at this; cases this))
                  clear own5 hg5 hh5 hR hVs c0 c1 c2 c3 c4 c5
                  go_wp2
                  exact ⟨⟨k + 1, R, by omega, by go_num, HPf, Own5.out, HE5, Hb5.out⟩, by simp [intOf]; omega⟩
              · have hqf2 : (q.2.1 == fr) = false := beq_eq_false_iff_ne.2 hqf
                have Hqf := Lib.hid hqf
                clear hqf
                go_big_quiet (fail)
                clear hj1 hj2 hj3 hj4 hj5 hj6 z0 z1 z2 z3 z4 z5
                obtain ⟨V, hV⟩ : ∃ V, V = Y.drewN nq := ⟨_, rfl⟩
                have hbV : Below Y.heap.size Y V := by rw [hV]; exact below_drewN2 (Below.refl _ _) _
                rw [← hV]
                have HbV := Lib.hid (HbY.out.trans (hbV.mono HbY.out.size))
                have HownV := Lib.hid (ownsRow_below HownL.out hbV)
                have HVr := Lib.hid ((hbV.block _ hgY).trans HYr.out)
                have HEV := Lib.hid (fun p hp => (HEY.out p hp).below hbV)
                have HxV := Lib.hid (HxY.out.below hbV)
                clear hV hbV
                have HX6 := Lib.hid (RecAt.one (c := spCells) (sz := 6) V (fr, (12622780800 : Int), x) 169 #[.int .i64 fr, .int .i64 (12622780800 : Int), .string x.s.plan, .slice x.pa x.pn x.pc, .bool x.s.su, .bool x.s.fa] rfl)
                have hVs := HbV.out.size
                go_upto_region 14 with (fail)
                have c0 : V.cell? ⟨gs, 0, none⟩ = some (.int .i64 fr) := cell_of_row V _ 0 _ _ _ HVr.out
                have c1 : V.cell? ⟨gs, 1, none⟩ = some (.int .i64 (12622780800 : Int)) := cell_of_row V _ 1 _ _ _ HVr.out
                have c2 : V.cell? ⟨gs, 2, none⟩ = some (.string x.s.plan) := cell_of_row V _ 2 _ _ _ HVr.out
                have c3 : V.cell? ⟨gs, 3, none⟩ = some (.slice x.pa x.pn x.pc) := cell_of_row V _ 3 _ _ _ HVr.out
                have c4 : V.cell? ⟨gs, 4, none⟩ = some (.bool x.s.su) := cell_of_row V _ 4 _ _ _ HVr.out
                have c5 : V.cell? ⟨gs, 5, none⟩ = some (.bool x.s.fa) := cell_of_row V _ 5 _ _ _ HVr.out
                go_wp2_with (at_builtin; refine append_one (c := spCells) (sz := 6) (fun _ => rfl) sp_one 169 171 _ 64 Tryz.underlying171 Tryz.spellInfo rfl (by decide) rfl _ _ rfl w.heap.size (by first | omega | (simp; done) | (simp; omega)) _ _ (M ++ [q]) (fr, (12622780800 : Int), x) rfl rfl (HownV.out.alloc _) HX6.out (by unfold maxLen; first | omega | (simp; done) | (simp; omega)) (by first | omega | (simp; done) | (simp; omega)) ?_)
                intro R hR v5 w5 own5 hg5 hh5
                have HRe := Lib.hid (show R = (M ++ [q]) ++ [(fr, (12622780800 : Int), x)] by rw [hR.out]; first | rfl | simp)
                have HE5 := Lib.hid (show ∀ p ∈ R, SpE w5 v5 p from fun p hp => by
                  rw [HRe.out] at hp
                  rcases List.mem_append.1 hp with hp | hp
                  · exact ((HEV.out p hp).below ((Below.refl _ _).alloc (Nat.le_refl _) _)).turn hg5 (fun g h => by have := hh5.out g h; simpa using this)
                  · rw [List.mem_singleton.1 hp]; exact (HxV.out.below ((Below.refl _ _).alloc (Nat.le_refl _) _)).turn hg5 (fun g h => by have := hh5.out g h; simpa using this))
                have Hb5 := Lib.hid ((HbV.out.alloc hVs _).grown hg5 (by simp <;> omega) (fun g hg => (ownsRow_block HownV.out g hg).1))
                have Own5 := Lib.hid own5
                have HPf := Lib.hid (show plainSp R = rspL n l (k + 1) by rw [HRe.out, HSu.out, HF.out, ← HP.out]; exact plainSp_new M q (fr, (12622780800 : Int), x) (fun h => Hqf.out h.1))
                clear own5 hg5 hh5 hR hVs c0 c1 c2 c3 c4 c5
                go_wp2
                exact ⟨⟨k + 1, R, by omega, by go_num, HPf, Own5.out, HE5, Hb5.out⟩, by simp [intOf]; omega⟩
    · have HF := Lib.hid (show rspL n l k = rspL n l l.length by rw [show k = l.length by omega])
      go_wp2
      go_ret
      exact ⟨a, cp, S, rfl, Hown.out, HP.out.trans HF.out, HE.out, hb⟩
end Go.Proofs.YtngippiilgdnoaaGreat

namespace Go.Proofs.YtngippiilgdnoaaGreat
open Go.RowKit

theorem any_step {s : ByteArray} {N : List ByteArray} {k : Nat} (h : k < N.length) (h1 : (N.take k).any (fun a => sameS a s) = false) (h2 : sameS N[k] s = false) : (N.take (k + 1)).any (fun a => sameS a s) = false := by
  rw [List.take_succ_eq_append_getElem h, List.any_append, h1]; simp [h2]

set_option maxRecDepth 100000 in
set_option maxHeartbeats 3200000 in
theorem active1_calls (p : Int × Int × SbX) (s : ByteArray) (gb base : Nat) (w : World) (h : SbO base w p.2.2) (hgb : gb < w.heap.size) (hc : w.cell? ⟨gb, 0, none⟩ = some (.string s)) :
    Calls Tryz.prog 108 #[spVal p, .pointer (some ⟨gb, 0, none⟩)] w fun e w' => e = .returned (.bool (hasT s p.2.2.s)) ∧ Below w.heap.size w w' := by
  obtain ⟨f, t, ⟨⟨i1, i2, i3, i4, nus, prs, su, fa⟩, na, nn, nc, pa, pn, pc⟩⟩ := p
  have hst := h.strs
  dsimp only at hst
  obtain ⟨W, hW⟩ : ∃ W, W = w.alloc (Obj.cells #[.int .i64 f, .int .i64 t, .string i4, .slice pa pn pc, .bool su, .bool fa] 169) := ⟨_, rfl⟩
  have hw0 : Below w.heap.size w W := by rw [hW]; go_grown
  have r0 : W.heap[w.heap.size]? = some (Obj.cells #[.int .i64 f, .int .i64 t, .string i4, .slice pa pn pc, .bool su, .bool fa] 169) := by rw [hW]; exact heap_alloc_new _ _
  have x3 := cell_of_row W _ 3 _ _ _ r0
  have c0 : W.cell? ⟨gb, 0, none⟩ = some (.string s) := (hw0.cell (p := ⟨gb, 0, none⟩) hgb).trans hc
  have HS := Lib.hid (hst.below hw0)
  have Hb := Lib.hid hw0
  have HW := Lib.hid hW
  obtain ⟨a1, c1, e1, hl1, hm1, -⟩ := hst
  cases e1
  have hm1 := hm1.1
  unfold maxLen at hm1
  have HH := Lib.hid (show hasT s ⟨i1, i2, i3, i4, nus, prs, su, fa⟩ = prs.any (fun a => sameS a s) from rfl)
  unfold spVal spCells
  dsimp only
  clear hW hw0 r0 hc h
  go_enter Tryz.func108, Tryz.ntmps108
  go_upto_region 1 with (fail)
  rw [← HW.out]
  go_wp2_with fail
  go_loop [9] (fun i => ∃ k : Nat, k ≤ prs.length ∧ i = .int .i64 k ∧ (prs.take k).any (fun a => sameS a s) = false) (fun i => prs.length - (intOf i).toNat)
  case atStart => exact ⟨0, Nat.zero_le _, rfl, rfl⟩
  case round =>
    obtain ⟨k, hk, rfl, hn⟩ := hrel
    have Hn := Lib.hid hn
    clear hn
    by_cases hlt : k < prs.length
    · obtain ⟨av2, cap2, ee, -, -, hxx⟩ := HS.out
      cases ee
      obtain ⟨b1, o1, rfl, hB1, hxx⟩ := hxx (by rintro rfl; cases hlt)
      obtain ⟨u0, -⟩ := hxx k hlt
      rw [Nat.mul_one] at u0
      have hk0 : (0 : Int) ≤ (k : Int) := Int.natCast_nonneg _
      have hk1 : (k : Int) < (prs.length : Int) := by omega
      have HT := Lib.hid (fun h => any_step hlt Hn.out h)
      have HY := Lib.hid (fun h => any_hit (p := fun a => sameS a s) hlt h)
      clear hxx
      generalize prs[k] = p at *
      cases hq : sameS p s with
      | true =>
        have HE := Lib.hid (HY.out hq)
        have hq1 : (p.toList == s.toList) = true := hq
        clear HT HY hq
        go_wp2
        go_ret
        exact ⟨ret_bool (by rw [HH.out, HE.out]), Hb.out⟩
      | false =>
        have HE := Lib.hid (HT.out hq)
        have hq1 : (p.toList == s.toList) = false := hq
        clear HT HY hq
        go_wp2
        exact ⟨⟨k + 1, by omega, by go_num, HE.out⟩, by simp [intOf]; omega⟩
    · have HE := Lib.hid (any_end (p := fun a => sameS a s) (Nat.le_of_not_lt hlt) Hn.out)
      go_wp2
      go_ret
      exact ⟨ret_bool (by rw [HH.out, HE.out]), Hb.out⟩

theorem keptP_take (k : Sp → Bool) (S : List Sp) (j : Nat) (h : j < S.length) : keptP k (S.take (j + 1)) = keptP k (S.take j) ++ (if k S[j] = true then [((S[j]).f, (S[j]).t)] else []) := by
  unfold keptP
  rw [List.take_succ_eq_append_getElem h, List.filter_append, List.map_append]
  congr 1
  cases hb : k S[j] <;> simp [hb]
theorem keptP_len (k : Sp → Bool) (S : List Sp) : (keptP k S).length ≤ S.length := by
  unfold keptP; rw [List.length_map]; exact List.length_filter_le _ _
theorem plainSp_get (S : List (Int × Int × SbX)) (k : Nat) (h : k < S.length) : (plainSp S)[k]'(by rw [plainSp_len]; exact h) = ⟨(S[k]).1, (S[k]).2.1, (S[k]).2.2.s⟩ := List.getElem_map _

set_option maxRecDepth 100000 in
set_option maxHeartbeats 6400000 in
theorem during_calls (v : Value) (l : List Ev) (n : Int) (s : ByteArray) (gb : Nat) (w : World) (h : EvsAt w v l) (hl : l.length ≤ 1000) (hgb : gb < w.heap.size) (hc : w.cell? ⟨gb, 0, none⟩ = some (.string s)) :
    Calls Tryz.prog 107 #[v, .int .i64 n, .func (.func 108) #[] #[.pointer (some ⟨gb, 0, none⟩)]] w (PersTo w (actL n s l)) := by
  have HSp := Lib.hid (spells_calls v l n w h hl)
  have HSl := Lib.hid (spellsL_len n l)
  have Hc := Lib.hid hc
  obtain ⟨av, cap, rfl, hcl, hcm⟩ := rec_shape h.1
  clear h hcl hcm hc
  go_enter Tryz.func107, Tryz.ntmps107
  go_wp2_with fail
  refine HSp.out.mono ?_
  rintro e w2 ⟨a2, c2, S, rfl, own2, hp2, hok2, hb2⟩
  have hSl : S.length ≤ 1000 := by
    have h := HSl.out
    rw [← hp2, plainSp_len] at h; omega
  obtain ⟨ax, cx, ecx, hcx1, hcx2⟩ := own_shape own2
  cases ecx
  unfold maxLen at hcx2
  have HpS := Lib.hid hp2
  have HokS := Lib.hid hok2
  have HS := Lib.hid (show RecAt spCells 6 w2 (.slice a2 S.length c2) S from RecAt.own (fun _ => rfl) own2)
  have Hb2 := Lib.hid hb2
  have Hc2 := Lib.hid (show w2.cell? ⟨gb, 0, none⟩ = some (.string s) from (hb2.cell (p := ⟨gb, 0, none⟩) hgb).trans Hc.out)
  have hgb2 : gb < w2.heap.size := Nat.lt_of_lt_of_le hgb hb2.size
  clear own2 hp2 hok2 hb2 HSp HSl hgb Hc
  go_wp2_with fail
  go_loopw [7, 14] (fun vo i wr => ∃ (k : Nat) (O : List (Int × Int)), k ≤ S.length ∧ i = .int .i64 k ∧ RowKit.Hid (O = keptP (fun a => hasT s a.s) ((plainSp S).take k)) ∧ wr.ownsRow w2.heap.size 25 2 vo O.length (O.flatMap perCells) ∧ Below w2.heap.size w2 wr) (fun _ i _ => S.length - (intOf i).toNat)
  case atStart => exact ⟨0, [], Nat.zero_le _, rfl, Lib.hid rfl, World.ownsRow_nil _ _ _ _, Below.refl _ _⟩
  case round =>
    obtain ⟨wo, rfl⟩ : ∃ wo : World, wo = wr := ⟨_, rfl⟩
    obtain ⟨k, O, hk, rfl, HP, hown, hb⟩ := hrel
    obtain ⟨a, cp, rfl, hc1, hc2⟩ := own_shape hown
    unfold maxLen at hc2
    have Hown := Lib.hid hown
    have Hb := Lib.hid hb
    have hOl : O.length ≤ 1000 := by
      have h := keptP_len (fun a => hasT s a.s) ((plainSp S).take k)
      rw [← HP.out, List.length_take] at h; omega
    by_cases hlt : k < S.length
    · have hk1 : (k : Int) < (S.length : Int) := by omega
      have hk0 : (0 : Int) ≤ (k : Int) := Int.natCast_nonneg _
      have HTk := Lib.hid (keptP_take (fun a => hasT s a.s) (plainSp S) k (by rw [plainSp_len]; exact hlt))
      rw [plainSp_get S k hlt] at HTk
      have HSo := Lib.hid ((HokS.out _ (List.getElem_mem hlt)).below hb)
      have HSw := Lib.hid (HS.out.below hb)
      obtain ⟨a3, c3, e3, -, -, hx⟩ := HSw.out
      cases e3
      obtain ⟨bb, o, rfl, hB, hx⟩ := hx (by rintro rfl; cases hlt)
      have hx := hx k hlt
      have x0 : wo.cell? ⟨bb, o + k * 6, none⟩ = some (.int .i64 (S[k]).1) := hx 0 (by decide)
      have x1 : wo.cell? ⟨bb, o + k * 6 + 1, none⟩ = some (.int .i64 (S[k]).2.1) := hx 1 (by decide)
      have x2 : wo.cell? ⟨bb, o + k * 6 + 2, none⟩ = some (.string (S[k]).2.2.s.plan) := hx 2 (by decide)
      have x3 : wo.cell? ⟨bb, o + k * 6 + 3, none⟩ = some (.slice (S[k]).2.2.pa (S[k]).2.2.pn (S[k]).2.2.pc) := hx 3 (by decide)
      have x4 : wo.cell? ⟨bb, o + k * 6 + 4, none⟩ = some (.bool (S[k]).2.2.s.su) := hx 4 (by decide)
      have x5 : wo.cell? ⟨bb, o + k * 6 + 5, none⟩ = some (.bool (S[k]).2.2.s.fa) := hx 5 (by decide)
      clear hx hown
      generalize S[k] = x at *
      obtain ⟨Y, hY⟩ : ∃ Y, Y = wo.alloc (Obj.cells #[.int .i64 x.1, .int .i64 x.2.1, .string x.2.2.s.plan, .slice x.2.2.pa x.2.2.pn x.2.2.pc, .bool x.2.2.s.su, .bool x.2.2.s.fa] 169) := ⟨_, rfl⟩
      have hbY : Below wo.heap.size wo Y := by rw [hY]; go_grown
      have HYr := Lib.hid (show Y.heap[wo.heap.size]? = some (Obj.cells #[.int .i64 x.1, .int .i64 x.2.1, .string x.2.2.s.plan, .slice x.2.2.pa x.2.2.pn x.2.2.pc, .bool x.2.2.s.su, .bool x.2.2.s.fa] 169) by rw [hY]; exact heap_alloc_new _ _)
      have HbYo := Lib.hid hbY
      have HbY := Lib.hid (Hb.out.trans (hbY.mono Hb.out.size))
      have HCall := Lib.hid (active1_calls x s gb w.heap.size Y (HSo.out.below hbY) (Nat.lt_of_lt_of_le hgb2 (Nat.le_trans Hb.out.size hbY.size)) ((HbY.out.cell (p := ⟨gb, 0, none⟩) hgb2).trans Hc2.out))
      have HY := Lib.hid hY
      have hwY : wo.heap.size < Y.heap.size := (Array.getElem?_eq_some_iff.1 HYr.out).1
      clear hbY hY hb
      have y0 : Y.cell? ⟨wo.heap.size, 0, none⟩ = some (.int .i64 x.1) := cell_of_row Y _ 0 _ _ _ HYr.out
      have y1 : Y.cell? ⟨wo.heap.size, 1, none⟩ = some (.int .i64 x.2.1) := cell_of_row Y _ 1 _ _ _ HYr.out
      have y2 : Y.cell? ⟨wo.heap.size, 2, none⟩ = some (.string x.2.2.s.plan) := cell_of_row Y _ 2 _ _ _ HYr.out
      have y3 : Y.cell? ⟨wo.heap.size, 3, none⟩ = some (.slice x.2.2.pa x.2.2.pn x.2.2.pc) := cell_of_row Y _ 3 _ _ _ HYr.out
      have y4 : Y.cell? ⟨wo.heap.size, 4, none⟩ = some (.bool x.2.2.s.su) := cell_of_row Y _ 4 _ _ _ HYr.out
      have y5 : Y.cell? ⟨wo.heap.size, 5, none⟩ = some (.bool x.2.2.s.fa) := cell_of_row Y _ 5 _ _ _ HYr.out
      go_upto_region 5 with (fail)
      rw [← HY.out]
      go_wp2_with fail
      refine HCall.out.mono ?_
      rintro e w3 ⟨rfl, hb3⟩
      have HY3 := Lib.hid ((hb3.block _ hwY).trans HYr.out)
      have Hb3 := Lib.hid (HbY.out.trans (hb3.mono HbY.out.size))
      have Hown3 := Lib.hid (ownsRow_below Hown.out (HbYo.out.trans (hb3.mono HbYo.out.size)))
      clear hb3 x0 x1 x2 x3 x4 x5 y0 y1 y2 y3 y4 y5
      cases hh : hasT s x.2.2.s with
      | false =>
        have HE := Lib.hid (show O = keptP (fun a => hasT s a.s) ((plainSp S).take (k + 1)) by rw [HTk.out, HP.out, hh, if_neg (by decide), List.append_nil])
        clear hh
        go_wp2
        exact ⟨⟨k + 1, O, by omega, by go_num, HE, Hown3.out, Hb3.out⟩, by simp [intOf]; omega⟩
      | true =>
        have HE := Lib.hid (show O ++ [(x.1, x.2.1)] = keptP (fun a => hasT s a.s) ((plainSp S).take (k + 1)) by rw [HTk.out, HP.out, hh, if_pos rfl])
        clear hh
        have z0 : w3.cell? ⟨wo.heap.size, 0, none⟩ = some (.int .i64 x.1) := cell_of_row w3 _ 0 _ _ _ HY3.out
        have z1 : w3.cell? ⟨wo.heap.size, 1, none⟩ = some (.int .i64 x.2.1) := cell_of_row w3 _ 1 _ _ _ HY3.out
        have HX := Lib.hid (RecAt.one (c := perCells) (sz := 2) w3 (x.1, x.2.1) 25 #[.int .i64 x.1, .int .i64 x.2.1] rfl)
        have hbs := Hb3.out.size
        go_wp2_with (at_builtin; refine append_rec2 (c := perCells) (sz := 2) (fun _ => rfl) per_one2 25 85 _ 16 Tryz.underlying85 Tryz.perInfo rfl (by decide) rfl _ _ rfl w2.heap.size ?hs _ _ O [(x.1, x.2.1)] rfl rfl (Hown3.out.alloc _) HX.out ?hl ?hb ?_)
        case hs => simp <;> omega
        case hl => unfold maxLen; simp <;> omega
        case hb => simp <;> omega
        intro R hR v5 w5 own5 hg5
        have HRe := Lib.hid (hR.out.trans HE.out)
        have Own5 := Lib.hid own5
        have Hb5 := Lib.hid ((Hb3.out.alloc hbs _).grown hg5 (by simp <;> omega) (fun g hg => (ownsRow_block Hown3.out g hg).1))
        clear own5 hg5 hR hbs
        go_wp2
        exact ⟨⟨k + 1, R, by omega, by go_num, HRe, Own5.out, Hb5.out⟩, by simp [intOf]; omega⟩
    · have HE := Lib.hid (show joinP O = actL n s l by
        have e : k = (plainSp S).length := by rw [plainSp_len]; omega
        rw [HP.out, e, List.take_of_length_le (Nat.le_refl _), HpS.out]; rfl)
      have HJ := Lib.hid (joinedP_calls (.slice a O.length cp) O wo (RecAt.own (fun _ => rfl) Hown.out) (by omega))
      clear hown hb
      go_wp2_with fail
      refine HJ.out.mono ?_
      rintro e w3 ⟨v3, rfl, hp3, hb3⟩
      have Hp3 := Lib.hid hp3
      have Hb3 := Lib.hid (Hb2.out.trans ((Hb.out.trans (hb3.mono Hb.out.size)).mono Hb2.out.size))
      clear hp3 hb3
      go_wp2
      go_ret
      exact ⟨_, rfl, by rw [← HE.out]; exact Hp3.out, Hb3.out⟩

set_option maxHeartbeats 1600000 in
theorem active_calls (v : Value) (l : List Ev) (n : Int) (s : ByteArray) (w : World) (h : EvsAt w v l) (hl : l.length ≤ 1000) :
    Calls Tryz.prog 68 #[v, .int .i64 n, .string s] w (PersTo w (actL n s l)) := by
  obtain ⟨W, hW⟩ : ∃ W, W = w.alloc (Obj.cells #[Value.string s] 9) := ⟨_, rfl⟩
  have hw0 : Below w.heap.size w W := by rw [hW]; go_grown
  have r0 : W.heap[w.heap.size]? = some (Obj.cells #[Value.string s] 9) := by rw [hW]; exact heap_alloc_new _ _
  have HD := Lib.hid (during_calls v l n s w.heap.size W (h.below hw0) hl (Array.getElem?_eq_some_iff.1 r0).1 (cell_of_row W _ 0 _ _ _ r0))
  have HW := Lib.hid hW
  have Hw0 := Lib.hid hw0
  obtain ⟨av, cap, rfl, hcl, hcm⟩ := rec_shape h.1
  clear h hW hw0 r0 hcl hcm
  go_enter Tryz.func68, Tryz.ntmps68
  go_upto_region 1 with (fail)
  rw [← HW.out]
  go_wp2_with fail
  refine HD.out.mono ?_
  rintro e w3 ⟨v3, rfl, hp3, hb3⟩
  have Hp3 := Lib.hid hp3
  have Hb3 := Lib.hid (Hw0.out.trans (hb3.mono Hw0.out.size))
  clear hp3 hb3
  go_wp2
  go_ret
  exact ⟨_, rfl, Hp3.out, Hb3.out⟩
end Go.Proofs.YtngippiilgdnoaaGreat
