/-
  The walk of the reference's cycles of an account that a period touches.
  The dues plainly: the cycles that end in a window, ordered by their ends and accounts.
  The lives of accounts plainly, as the program finds them; and what it collects of dues.
-/
import Derived.Test.YtmilpaibkemmdaaMgbk
namespace Go.Proofs.Ytmilpaibkemmdaa
open Go.RowKit

/-- The cycles of an account from a month to another one. -/
def listV (l : List Ev) (n : Int) (ok : Bool) (lo hi : Int) : List (Int × Int) := match openE l n with
  | none => []
  | some o => if ok = true then (cycL o.vl lo hi).filter (meetsL o.tm (closeT l n)) else []
theorem filter_take {α : Type} (p : α → Bool) (l : List α) (k : Nat) (h : k < l.length) : (l.take (k + 1)).filter p = if p l[k] = true then (l.take k).filter p ++ [l[k]] else (l.take k).filter p := by
  rw [List.take_succ_eq_append_getElem h, List.filter_append]
  cases hb : p l[k] <;> simp [hb]
theorem filter_take_len {α : Type} (p : α → Bool) (l : List α) (k : Nat) : ((l.take k).filter p).length ≤ l.length := Nat.le_trans (List.length_filter_le _ _) (by rw [List.length_take]; omega)
def rlPhi (v0 : Value) (o : Ev) (vl : Value) (k bb off : Nat) (c0 c1 : Int) : Nat → Value → Prop
  | 0, v => v = v0
  | 1, v => v = evVal o
  | 2, v => v = vl
  | 3, v => v = .int .i64 k
  | 4, v => v = .pointer (some ⟨bb, off + k * 2, none⟩)
  | 5, v => v = .agg #[.int .i64 c0, .int .i64 c1]
  | _, _ => True

set_option maxRecDepth 100000 in
set_option maxHeartbeats 12800000 in
theorem rlist_calls (v : Value) (l : List Ev) (n f t lo hi : Int) (w : World) (h : EvsAt w v l) (hok : CycOk l) (hm : ∀ o, openE l n = some o → validB f t = true → IsMo o.vl f lo ∧ IsMo o.vl (t - 1) hi) :
    Calls Try.prog 19 #[v, .int .i64 n, .agg #[.int .i64 f, .int .i64 t]] w (PersTo w (listV l n (validB f t) lo hi)) := by
  have hh := h
  have HO := Lib.hid (fun Y (hY : Below w.heap.size w Y) => opened_calls v l n Y (hh.below hY))
  have HL := Lib.hid (fun o c0 c1 Y (hY : Below w.heap.size w Y) => rlives_calls v l o c0 c1 Y (hh.below hY))
  obtain ⟨av, cap, rfl, -, -⟩ := rec_shape h.1
  obtain ⟨A, hA⟩ : ∃ A, A = w.alloc (Obj.cells #[.int .i64 f, .int .i64 t] 26) := ⟨_, rfl⟩
  have hbA : Below w.heap.size w A := by rw [hA]; go_grown
  have rA : A.heap[w.heap.size]? = some (Obj.cells #[.int .i64 f, .int .i64 t] 26) := by rw [hA]; exact heap_alloc_new _ _
  have HA := Lib.hid hA
  have HbA := Lib.hid hbA
  have HrA := Lib.hid rA
  have hzA : w.heap.size < A.heap.size := by rw [hA]; simp
  have HO1 := Lib.hid (HO.out A hbA)
  clear hA hbA rA h hh
  cases ho : openE l n with
  | none =>
    have HV := Lib.hid (show listV l n (validB f t) lo hi = [] by unfold listV; rw [ho])
    rw [HV.out]
    have HO2 := Lib.hid (show Calls Try.prog 27 #[.slice av l.length cap, .int .i64 n] A fun e w' => e = .returned (.tuple #[.agg #[.int .i64 0, .int .i64 0, .int .i64 0, .int .i64 0, .string ⟨#[]⟩, .string ⟨#[]⟩, .int .i64 0], .bool false]) ∧ Below A.heap.size A w' from by
      have h := HO1.out
      rw [ho] at h
      exact h)
    clear ho HO1
    go_enter Try.func19, Try.ntmps19
    go_upto_region 1 with (fail)
    rw [← HA.out]
    go_wp2_with fail
    refine HO2.out.mono ?_
    rintro e w1 ⟨rfl, hb1⟩
    have Hb1 := Lib.hid (HbA.out.trans (hb1.mono HbA.out.size))
    clear hb1
    go_wp2
    go_ret
    exact ⟨_, rfl, SliceAt.nil _, Hb1.out.alloc Hb1.out.size _⟩
  | some o =>
    obtain ⟨hmem, hk1, hac⟩ := openE_some ho
    obtain ⟨o0, o1, ov1, ov2⟩ := open_bd hok hmem hk1
    have hmo := hm o ho
    have HV := Lib.hid (show listV l n (validB f t) lo hi = if validB f t = true then (cycL o.vl lo hi).filter (meetsL o.tm (closeT l n)) else [] by unfold listV; rw [ho])
    rw [HV.out]
    have HO2 := Lib.hid (show Calls Try.prog 27 #[.slice av l.length cap, .int .i64 n] A fun e w' => e = .returned (.tuple #[evVal o, .bool true]) ∧ Below A.heap.size A w' from by
      have h := HO1.out
      rw [ho] at h
      exact h)
    obtain ⟨C, hC⟩ : ∃ C, C = if validB f t = true then cycL o.vl lo hi else [] := ⟨_, rfl⟩
    have HCy := Lib.hid (show ∀ Y, Calls Try.prog 37 #[.int .i64 o.vl, .agg #[.int .i64 f, .int .i64 t]] Y (PersTo Y C) from fun Y => by
      rw [hC]
      cases hv : validB f t with
      | true => exact rcycles_calls o.vl f t lo hi Y ov1 ov2 hv (hmo hv).1 (hmo hv).2
      | false => exact rcycles_none o.vl f t Y ov1 ov2 hv)
    have hCl : C.length ≤ 10000 := by
      rw [hC]
      cases hv : validB f t with
      | true =>
        rw [if_pos rfl, cycL_len]
        have h1 := (hmo hv).1.1
        have h2 := (hmo hv).2.2.1
        omega
      | false => simp
    obtain ⟨mp, hmp⟩ : ∃ mp, mp = meetsL o.tm (closeT l n) := ⟨_, rfl⟩
    have HRes := Lib.hid (show (if validB f t = true then (cycL o.vl lo hi).filter (meetsL o.tm (closeT l n)) else []) = C.filter mp by
      rw [hC, hmp]
      split <;> rfl)
    rw [HRes.out]
    have HLv := Lib.hid (show ∀ c ∈ C, ∀ Y, Below w.heap.size w Y → Calls Try.prog 29 #[.slice av l.length cap, evVal o, .agg #[.int .i64 c.1, .int .i64 c.2]] Y fun e w' => e = .returned (.bool (mp c)) ∧ Below Y.heap.size Y w' from fun c hc Y hY => by
      have hb : 0 ≤ c.1 ∧ c.2 ≤ 12622780800 := by
        rw [hC] at hc
        cases hv : validB f t with
        | true =>
          rw [hv, if_pos rfl] at hc
          obtain ⟨q, -, -, rfl⟩ := cycL_mem.1 hc
          exact ⟨(beg_bd ov1 ov2).1, (beg_bd ov1 ov2).2⟩
        | false => rw [hv] at hc; cases hc
      have h := HL.out o c.1 c.2 Y hY
      rw [hac, meetB_meets o0 (closeT_bd hok n).2 hb.1 hb.2, ← hmp] at h
      exact h)
    have HFT := Lib.hid (filter_take mp C)
    have HFL := Lib.hid (filter_take_len mp C)
    clear hC hmp ho HO1 HV HRes hmo hok hm hmem hk1 hac HL HO
    have HE2 := Lib.hid (show evVal o = .agg #[.int .i64 o.tm, .int .i64 o.kd, .int .i64 o.ac, .int .i64 o.sb, .string o.nu, .string o.nm, .int .i64 o.vl] from rfl)
    rw [HE2.out] at HO2
    go_enter Try.func19, Try.ntmps19
    go_upto_region 1 with (fail)
    rw [← HA.out]
    go_wp2_with fail
    refine HO2.out.mono ?_
    rintro e w1 ⟨rfl, hb1⟩
    obtain ⟨X, hX⟩ : ∃ X, X = w1.alloc (Obj.cells #[.int .i64 o.tm, .int .i64 o.kd, .int .i64 o.ac, .int .i64 o.sb, .string o.nu, .string o.nm, .int .i64 o.vl] 55) := ⟨_, rfl⟩
    have hbX : Below w1.heap.size w1 X := by rw [hX]; go_grown
    have rX0 := (hbX.block _ (by have := hb1.size; omega)).trans ((hb1.block _ hzA).trans HrA.out)
    have rX1 : X.heap[w1.heap.size]? = some (Obj.cells #[.int .i64 o.tm, .int .i64 o.kd, .int .i64 o.ac, .int .i64 o.sb, .string o.nu, .string o.nm, .int .i64 o.vl] 55) := by rw [hX]; exact heap_alloc_new _ _
    have hlt1 : w1.heap.size < X.heap.size := by rw [hX]; simp
    have x6 := cell_of_row X _ 6 _ _ _ rX1
    have p0 := cell_of_row X _ 0 _ _ _ rX0
    have p1 := cell_of_row X _ 1 _ _ _ rX0
    have HwX := Lib.hid (HbA.out.trans ((hb1.trans (hbX.mono hb1.size)).mono HbA.out.size))
    have HX := Lib.hid hX
    have RX1 := Lib.hid rX1
    clear hX hbX rX0 rX1 hb1
    go_upto_region 2 with (fail)
    rw [← HX.out]
    go_wp2_with fail
    refine (HCy.out X).mono ?_
    rintro e w2 ⟨vc, rfl, hpc, hb2⟩
    have HP := Lib.hid hpc
    obtain ⟨ac2, cc2, rfl, hcl2, hcm2, -⟩ := hpc
    have hcm3 := hcm2.1
    unfold maxLen at hcm3
    have Hw2 := Lib.hid (HwX.out.trans (hb2.mono HwX.out.size))
    have RX2 := Lib.hid ((hb2.block _ hlt1).trans RX1.out)
    have hlt2 : w1.heap.size < w2.heap.size := by have := hb2.size; omega
    clear hb2 x6 p0 p1 hcm2
    go_wp2_with fail
    go_loopg [9, 11] C.length (fun g vo i wx => ∃ k : Nat, k + g = C.length ∧ i = .int .i64 k ∧ wx.ownsRow w2.heap.size 26 2 vo ((C.take k).filter mp).length (((C.take k).filter mp).flatMap perCells) ∧ Below w2.heap.size w2 wx)
    case atStart => exact ⟨0, by omega, rfl, World.ownsRow_nil _ _ _ _, Below.refl _ _⟩
    case round =>
      obtain ⟨wo, rfl⟩ : ∃ wo : World, wo = wr := ⟨_, rfl⟩
      obtain ⟨k, hkg, rfl, hown, hb⟩ := hrel
      obtain ⟨ao, co, rfl, hco, hcom⟩ := own_shape hown
      have Hown := Lib.hid hown
      have Hb := Lib.hid hb
      have hfl := HFL.out k
      cases gk with
      | zero =>
        have hkz : ¬ ((k : Int) < (C.length : Int)) := by omega
        have HF := Lib.hid (show (C.take k).filter mp = C.filter mp by rw [List.take_of_length_le (by omega)])
        clear hkg hb hown
        generalize (C.take k).filter mp = R at *
        go_wp2
        go_ret
        exact ⟨_, rfl, pers_of_rec (RecAt.own (fun _ => rfl) (by rw [← HF.out]; exact Hown.out)), Hw2.out.trans (Hb.out.mono Hw2.out.size)⟩
      | succ g0 =>
        have hk1 : (k : Int) < (C.length : Int) := by omega
        have hk0 : (0 : Int) ≤ (k : Int) := Int.natCast_nonneg _
        have hkl : k < C.length := by omega
        have HS := Lib.hid (HFT.out k hkl)
        have Hkg := Lib.hid hkg
        obtain ⟨a3, n3, e3, -, -, hx⟩ := HP.out
        cases e3
        obtain ⟨bb, off, rfl, hB, hx⟩ := hx (by intro e; rw [e] at hkl; cases hkl)
        have HXc := Lib.hid (show ∀ Y, Below w2.heap.size w2 Y → Y.cell? ⟨bb, off + k * 2, none⟩ = some (.int .i64 (C[k]).1) ∧ Y.cell? ⟨bb, off + k * 2 + 1, none⟩ = some (.int .i64 (C[k]).2) from fun Y hY => ⟨(hY.cell (p := ⟨bb, _, none⟩) hB).trans (hx k hkl).1, (hY.cell (p := ⟨bb, _, none⟩) hB).trans (hx k hkl).2⟩)
        have HEv := Lib.hid (show ∀ Y, Below w2.heap.size w2 Y → Y.heap[w1.heap.size]? = some (Obj.cells #[.int .i64 o.tm, .int .i64 o.kd, .int .i64 o.ac, .int .i64 o.sb, .string o.nu, .string o.nm, .int .i64 o.vl] 55) from fun Y hY => (hY.block _ hlt2).trans RX2.out)
        have HLk := Lib.hid (HLv.out C[k] (List.getElem_mem hkl))
        generalize C[k] = c at *
        obtain ⟨c0, c1⟩ := c
        dsimp only at HXc HLk
        obtain ⟨R, hR⟩ : ∃ R, R = (C.take k).filter mp := ⟨_, rfl⟩
        rw [← hR] at HS Hown hfl hco ⊢
        obtain ⟨mb, hmb⟩ : ∃ mb, mb = mp (c0, c1) := ⟨_, rfl⟩
        rw [← hmb] at HS HLk
        clear hR hmb hkg hb hown hx
        go_upto_region 9 with (fail)
        refine wp_region_free2 (fun w' => Below wo.heap.size wo w') (fun i v _ => rlPhi (.slice av l.length cap) o (.slice (some ⟨bb, off, none⟩) C.length cc2) k bb off c0 c1 i v) (by kernel_rfl) (by decide) (by kernel_rfl) (Below.refl _ _).drew ?_
        generalize hfr : (fun v : Nat → Value => _) = fr
        simp only [List.map_cons, List.map_nil, putsL, List.setIfInBounds_toArray, List.set_cons_succ, List.set_cons_zero, Nat.zero_add, Nat.reduceAdd] at hfr
        simp only [FreeOps]
        refine ⟨?_, ?_, ?_, ?_, ?_, ?_, ?_⟩
        · intro v w3 hC hd K hK
          rw [← hfr] at hK ⊢
          go_simp
          exact hK _ _ hC (fun _ _ h => h) rfl
        · intro v w3 hC hd K hK
          have y0 := cell_of_row w3 _ 0 _ _ _ (HEv.out w3 (Hb.out.trans (hC.mono Hb.out.size)))
          have y1 := cell_of_row w3 _ 1 _ _ _ (HEv.out w3 (Hb.out.trans (hC.mono Hb.out.size)))
          have y2 := cell_of_row w3 _ 2 _ _ _ (HEv.out w3 (Hb.out.trans (hC.mono Hb.out.size)))
          have y3 := cell_of_row w3 _ 3 _ _ _ (HEv.out w3 (Hb.out.trans (hC.mono Hb.out.size)))
          have y4 := cell_of_row w3 _ 4 _ _ _ (HEv.out w3 (Hb.out.trans (hC.mono Hb.out.size)))
          have y5 := cell_of_row w3 _ 5 _ _ _ (HEv.out w3 (Hb.out.trans (hC.mono Hb.out.size)))
          have y6 := cell_of_row w3 _ 6 _ _ _ (HEv.out w3 (Hb.out.trans (hC.mono Hb.out.size)))
          rw [← hfr] at hK ⊢
          go_simp
          exact hK _ _ hC (fun _ _ h => h) rfl
        · intro v w3 hC hd K hK
          rw [← hfr] at hK ⊢
          go_simp
          exact hK _ _ hC (fun _ _ h => h) rfl
        · intro v w3 hC hd K hK
          rw [← hfr] at hK ⊢
          go_simp
          exact hK _ _ hC (fun _ _ h => h) rfl
        · intro v w3 hC hd K hK
          obtain ⟨f2, f3, -⟩ := hd
          have e2 : v 2 = _ := f2
          have e3 : v 3 = _ := f3
          rw [← hfr] at hK ⊢
          simp only [e2, e3] at hK ⊢
          go_simp
          exact hK _ _ hC (fun _ _ h => h) rfl
        · intro v w3 hC hd K hK
          obtain ⟨f4, -⟩ := hd
          have e4 : v 4 = _ := f4
          obtain ⟨p0, p1⟩ := HXc.out w3 (Hb.out.trans (hC.mono Hb.out.size))
          rw [← hfr] at hK ⊢
          simp only [e4] at hK ⊢
          go_simp
          exact hK _ _ hC (fun _ _ h => h) rfl
        · intro v w3 hC hall
          have e0 : v 0 = _ := hall.1.1.1.1.1.2
          have e1 : v 1 = _ := hall.1.1.1.1.2
          have e5 : v 5 = _ := hall.2
          have HQ := Lib.hid (HLk.out w3 (Hw2.out.trans ((Hb.out.trans (hC.mono Hb.out.size)).mono Hw2.out.size)))
          rw [← hfr]
          simp only [e0, e1, e5]
          go_simp
          refine HQ.out.mono ?_
          rintro e w4 ⟨rfl, hb4⟩
          have Hb4 := Lib.hid (Hb.out.trans ((hC.trans (hb4.mono hC.size)).mono Hb.out.size))
          have Hown4 := Lib.hid (ownsRow_below Hown.out (hC.trans (hb4.mono hC.size)))
          generalize v 2 = y2, v 3 = y3, v 4 = y4, v 6 = y6
          clear e0 e1 e5 hall hfr v hC hb4
          obtain ⟨p0, p1⟩ := HXc.out w4 Hb4.out
          cases mb with
          | false =>
            have HE := Lib.hid (HS.out.trans (if_neg (by decide)))
            go_wp2
            go_roundg g0
            case measure => omega
            case rel => exact ⟨k + 1, by have := Hkg.out; omega, by go_num, by rw [HE.out]; exact Hown4.out, Hb4.out⟩
          | true =>
            have HE := Lib.hid (HS.out.trans (if_pos rfl))
            have hbs := Hb4.out.size
            have HX1 := Lib.hid (RecAt.one (c := perCells) (sz := 2) w4 (c0, c1) 26 #[.int .i64 c0, .int .i64 c1] rfl)
            go_wp2_with (at_builtin; refine append_prs rfl _ _ rfl w2.heap.size ?hs1 _ _ R [(c0, c1)] rfl rfl (Hown4.out.alloc _) HX1.out ?hl1 ?_)
            case hs1 => (try simp); omega
            case hl1 => (try simp); omega
            intro R2 hR2 v5 w5 own5 hb5
            have Hb5 := Lib.hid ((Hb4.out.alloc hbs (Obj.cells #[.int .i64 c0, .int .i64 c1] 26)).trans hb5)
            have Own5 := Lib.hid own5
            have HR := Lib.hid (hR2.out.trans HE.out.symm)
            clear own5 hb5 hR2
            go_wp2
            go_roundg g0
            case measure => omega
            case rel => exact ⟨k + 1, by have := Hkg.out; omega, by go_num, by rw [← HR.out]; exact Own5.out, Hb5.out⟩
end Go.Proofs.Ytmilpaibkemmdaa

namespace Go.Proofs.Ytmilpaibkemmdaa

abbrev Du := Int × (Int × Int)
def duCells (d : Du) : List Value := [.int .i64 d.1, .int .i64 d.2.1, .int .i64 d.2.2]
def befD (x y : Du) : Prop := x.2.2 < y.2.2 ∨ (x.2.2 = y.2.2 ∧ x.1 < y.1)
instance befDDec (x y : Du) : Decidable (befD x y) := inferInstanceAs (Decidable (_ ∨ (_ ∧ _)))
theorem befD_asym {a b : Du} (h1 : befD a b) (h2 : befD b a) : False := by unfold befD at h1 h2; omega
/-- The month of an instant's cycle. -/
noncomputable def moOf (a t : Int) : Int := by
  classical exact if h : ∃ m, IsMo a t m then h.choose else 0
theorem moOf_is {a t : Int} (h0 : 0 ≤ t) (h1 : t < 12622780800) : IsMo a t (moOf a t) := by
  classical
  unfold moOf
  rw [dif_pos (IsMo.ex a t h0 h1)]
  exact (IsMo.ex a t h0 h1).choose_spec
def inD (a b : Int) (c : Int × Int) : Bool := decide (a < c.2) && decide (c.2 ≤ b)
theorem inD_iff {a b : Int} {c : Int × Int} : inD a b c = true ↔ a < c.2 ∧ c.2 ≤ b := by unfold inD; rw [Bool.and_eq_true, decide_eq_true_eq, decide_eq_true_eq]
/-- The cycles of a life that a period touches. -/
noncomputable def lifeL (a tm ct f t : Int) : List (Int × Int) := if validB f t = true then (cycL a (moOf a f) (moOf a (t - 1))).filter (meetsL tm ct) else []
theorem listV_life {l : List Ev} {n : Int} {o : Ev} (h : openE l n = some o) (f t : Int) : listV l n (validB f t) (moOf o.vl f) (moOf o.vl (t - 1)) = lifeL o.vl o.tm (closeT l n) f t := by
  unfold listV lifeL; rw [h]
theorem lifeL_mem {a tm ct f t : Int} (ha : 1 ≤ a) (hb : a ≤ 28) {c : Int × Int} : c ∈ lifeL a tm ct f t ↔ validB f t = true ∧ ∃ m, -1 ≤ m ∧ m ≤ 4799 ∧ c = cyc a m ∧ meetsL tm ct c = true ∧ f < c.2 ∧ c.1 < t := by
  unfold lifeL
  cases hv : validB f t with
  | false => simp
  | true =>
    obtain ⟨v0, v1, v2⟩ := (validB_iff _ _).1 hv
    rw [if_pos rfl, List.mem_filter, cycL_mem]
    have m1 := moOf_is (a := a) v0 (by omega)
    have m2 := moOf_is (a := a) (t := t - 1) (by omega) (by omega)
    obtain ⟨p1, p2, p3, p4⟩ := m1
    obtain ⟨q1, q2, q3, q4⟩ := m2
    constructor
    · rintro ⟨⟨m, h1, h2, rfl⟩, h3⟩
      refine ⟨rfl, m, by omega, by omega, rfl, h3, ?_, ?_⟩
      · have := beg_mono ha hb (show moOf a f + 1 ≤ m + 1 by omega)
        show f < beg a (m + 1)
        omega
      · have := beg_mono ha hb (show m ≤ moOf a (t - 1) by omega)
        show beg a m < t
        omega
    · rintro ⟨-, m, h1, h2, rfl, h3, h4, h5⟩
      refine ⟨⟨m, ?_, ?_, rfl⟩, h3⟩
      · refine Classical.byContradiction fun hn => ?_
        have := beg_mono ha hb (show m + 1 ≤ moOf a f by omega)
        have h4 : f < beg a (m + 1) := h4
        omega
      · refine Classical.byContradiction fun hn => ?_
        have := beg_mono ha hb (show moOf a (t - 1) + 1 ≤ m by omega)
        have h5 : beg a m < t := h5
        omega
theorem meetsL_ne {f t : Int} {c : Int × Int} (h : meetsL f t c = true) : c.1 < c.2 := by unfold meetsL at h; have := of_decide_eq_true h; omega
theorem cycL_pair {a : Int} (ha : 1 ≤ a) (hb : a ≤ 28) (lo hi : Int) : (cycL a lo hi).Pairwise fun c d => c.2 ≤ d.1 := by
  unfold cycL
  rw [List.pairwise_map]
  refine List.Pairwise.imp (fun {i j} hij => ?_) (List.pairwise_lt_range (n := (hi + 1 - lo).toNat))
  exact beg_mono ha hb (by omega)
theorem lifeL_pair {a : Int} (ha : 1 ≤ a) (hb : a ≤ 28) (tm ct f t : Int) : (lifeL a tm ct f t).Pairwise fun c d => c.2 < d.2 := by
  unfold lifeL
  split
  · refine List.Pairwise.imp_of_mem (fun {c d} hc hd h => ?_) ((cycL_pair ha hb _ _).sublist (List.filter_sublist (p := meetsL tm ct)))
    have := meetsL_ne (List.mem_filter.1 hd).2
    omega
  · exact List.Pairwise.nil
/-- The dues of an opening event. -/
noncomputable def perE (l : List Ev) (a b : Int) (e : Ev) : List Du := if e.kd = 1 then ((lifeL e.vl e.tm (closeT l e.ac) (max a 0) (min b 12622780800)).filter (inD a b)).map (fun c => (e.ac, c)) else []
def kD (x : Du) (l : List Du) : Nat → Nat
  | 0 => 0
  | n + 1 => if (l[n]?.any fun y => decide (befD x y)) = true then kD x l n else n + 1
theorem kD_le (x : Du) (l : List Du) : ∀ n, kD x l n ≤ n
  | 0 => Nat.le_refl _
  | n + 1 => by
    rw [kD]
    split
    · exact Nat.le_succ_of_le (kD_le x l n)
    · exact Nat.le_refl _
theorem kD_after (x : Du) (l : List Du) : ∀ n, ∀ j (hj : j < l.length), kD x l n ≤ j → j < n → befD x l[j]
  | 0, j, _, _, h => by omega
  | n + 1, j, hj, h1, h2 => by
    rw [kD] at h1
    split at h1
    · rename_i h
      by_cases e : j = n
      · subst e
        rw [List.getElem?_eq_getElem hj] at h
        simpa using h
      · exact kD_after x l n j hj h1 (by omega)
    · omega
theorem kD_before (x : Du) (l : List Du) : ∀ n, n ≤ l.length → ∀ k (hk : k < l.length), kD x l n = k + 1 → ¬ befD x l[k]
  | 0, _, k, _, h => by rw [kD] at h; omega
  | n + 1, hn, k, hk, h => by
    rw [kD] at h
    split at h
    · exact kD_before x l n (by omega) k hk h
    · rename_i h2
      obtain rfl : n = k := by omega
      rw [List.getElem?_eq_getElem hk] at h2
      simpa using h2
theorem kD_step (x : Du) (l : List Du) (n : Nat) (hn : n < l.length) : kD x l (n + 1) = if befD x l[n] then kD x l n else n + 1 := by
  rw [kD, List.getElem?_eq_getElem hn]
  simp
def insD (x : Du) (l : List Du) : List Du := l.take (kD x l l.length) ++ x :: l.drop (kD x l l.length)
theorem insD_perm (x : Du) (l : List Du) : (insD x l).Perm (x :: l) := by
  unfold insD
  refine List.perm_middle.trans ?_
  rw [List.take_append_drop]
theorem insD_len (x : Du) (l : List Du) : (insD x l).length = l.length + 1 := by rw [(insD_perm x l).length_eq]; rfl
def SrtD (l : List Du) : Prop := l.Pairwise fun a b => ¬ befD b a
theorem insD_sorted {x : Du} {l : List Du} (h : SrtD l) : SrtD (insD x l) := by
  unfold insD SrtD at *
  have hk := kD_le x l l.length
  have ha := kD_after x l l.length
  have hb := kD_before x l l.length (Nat.le_refl _)
  generalize kD x l l.length = k at *
  have hpw := List.pairwise_iff_getElem.1 h
  refine List.pairwise_append.2 ⟨h.sublist (List.take_sublist _ _), List.pairwise_cons.2 ⟨?_, h.sublist (List.drop_sublist _ _)⟩, ?_⟩
  · intro y hy
    obtain ⟨i, hi, rfl⟩ := List.mem_iff_getElem.1 hy
    rw [List.length_drop] at hi
    rw [List.getElem_drop]
    exact fun hn => befD_asym hn (ha (k + i) (by omega) (by omega) (by omega))
  · intro a hma b hmb
    obtain ⟨i, hi, rfl⟩ := List.mem_iff_getElem.1 hma
    rw [List.length_take] at hi
    rw [List.getElem_take]
    rcases List.mem_cons.1 hmb with rfl | hmb
    · intro hn
      match k, hk, hi, hb with
      | k + 1, hk, hi, hb =>
        have h1 := hb k (by omega) rfl
        by_cases e : i = k
        · subst e; exact h1 hn
        · have h2 := hpw i k (by omega) (by omega) (by omega)
          unfold befD at *
          omega
    · obtain ⟨j, hj, rfl⟩ := List.mem_iff_getElem.1 hmb
      rw [List.length_drop] at hj
      rw [List.getElem_drop]
      exact hpw i (k + j) (by omega) (by omega) (by omega)
/-- What the reference builds up. -/
def insAll (N xs : List Du) : List Du := xs.foldl (fun N x => insD x N) N
theorem insAll_append (N xs ys : List Du) : insAll N (xs ++ ys) = insAll (insAll N xs) ys := List.foldl_append ..
theorem insAll_snoc (N xs : List Du) (x : Du) : insAll N (xs ++ [x]) = insD x (insAll N xs) := by rw [insAll_append]; rfl
theorem insAll_perm : ∀ (xs N : List Du), (insAll N xs).Perm (xs ++ N)
  | [], _ => List.Perm.refl _
  | x :: xs, N => (insAll_perm xs (insD x N)).trans ((List.Perm.append_left xs (insD_perm x N)).trans List.perm_middle)
theorem insAll_sorted : ∀ (xs N : List Du), SrtD N → SrtD (insAll N xs)
  | [], _, h => h
  | x :: xs, N, h => insAll_sorted xs (insD x N) (insD_sorted h)
theorem insAll_len (N xs : List Du) : (insAll N xs).length = N.length + xs.length := by rw [(insAll_perm xs N).length_eq, List.length_append]; omega
/-- Is it due? -/
def IsDue (l : List Ev) (a b : Int) (d : Du) : Prop := ∃ e ∈ l, e.kd = 1 ∧ e.ac = d.1 ∧ ∃ m, -1 ≤ m ∧ m ≤ 4799 ∧ d.2 = cyc e.vl m ∧ meetsL e.tm (closeT l e.ac) d.2 = true ∧ a < d.2.2 ∧ d.2.2 ≤ b
/-- The list of dues. -/
structure DueOk (l : List Ev) (a b : Int) (D : List Du) : Prop where
  srt : D.Pairwise befD
  mem : ∀ d, d ∈ D ↔ IsDue l a b d
theorem DueOk.one {l : List Ev} {a b : Int} {D E : List Du} (h : DueOk l a b D) (g : DueOk l a b E) : D = E := by
  have nd : ∀ {D : List Du}, D.Pairwise befD → D.Nodup := fun h => h.imp fun {x y} h e => by subst e; exact befD_asym h h
  refine List.Perm.eq_of_pairwise (le := befD) (fun a b _ _ x y => (befD_asym x y).elim) h.srt g.srt ?_
  rw [List.perm_ext_iff_of_nodup (nd h.srt) (nd g.srt)]
  intro d
  rw [h.mem, g.mem]
theorem DueOk.append {l : List Ev} {a b c : Int} {D E : List Du} (hab : a ≤ b) (hbc : b ≤ c) (h : DueOk l a b D) (g : DueOk l b c E) : DueOk l a c (D ++ E) := by
  constructor
  · refine List.pairwise_append.2 ⟨h.srt, g.srt, fun x hx y hy => ?_⟩
    obtain ⟨_, _, _, _, _, _, _, _, _, _, h1⟩ := (h.mem x).1 hx
    obtain ⟨_, _, _, _, _, _, _, _, _, h2, _⟩ := (g.mem y).1 hy
    exact Or.inl (by omega)
  · intro d
    rw [List.mem_append, h.mem, g.mem]
    constructor
    · rintro (⟨e, h1, h2, h3, m, h4, h5, h6, h7, h8, h9⟩ | ⟨e, h1, h2, h3, m, h4, h5, h6, h7, h8, h9⟩)
      · exact ⟨e, h1, h2, h3, m, h4, h5, h6, h7, h8, by omega⟩
      · exact ⟨e, h1, h2, h3, m, h4, h5, h6, h7, by omega, h9⟩
    · rintro ⟨e, h1, h2, h3, m, h4, h5, h6, h7, h8, h9⟩
      by_cases hb : d.2.2 ≤ b
      · exact Or.inl ⟨e, h1, h2, h3, m, h4, h5, h6, h7, h8, hb⟩
      · exact Or.inr ⟨e, h1, h2, h3, m, h4, h5, h6, h7, by omega, h9⟩
theorem perE_mem {l : List Ev} (hok : CycOk l) {a b : Int} {e : Ev} (he : e ∈ l) {d : Du} : d ∈ perE l a b e ↔ e.kd = 1 ∧ e.ac = d.1 ∧ ∃ m, -1 ≤ m ∧ m ≤ 4799 ∧ d.2 = cyc e.vl m ∧ meetsL e.tm (closeT l e.ac) d.2 = true ∧ a < d.2.2 ∧ d.2.2 ≤ b := by
  unfold perE
  by_cases hk : e.kd = 1
  · obtain ⟨o0, o1, v1, v2⟩ := open_bd hok he hk
    rw [if_pos hk, List.mem_map]
    constructor
    · rintro ⟨c, hc, rfl⟩
      obtain ⟨hc, hi⟩ := List.mem_filter.1 hc
      obtain ⟨-, m, h1, h2, h3, h4, -, -⟩ := (lifeL_mem v1 v2).1 hc
      obtain ⟨i1, i2⟩ := inD_iff.1 hi
      exact ⟨hk, rfl, m, h1, h2, h3, h4, i1, i2⟩
    · rintro ⟨-, hac, m, h1, h2, h3, h4, h5, h6⟩
      refine ⟨d.2, List.mem_filter.2 ⟨(lifeL_mem v1 v2).2 ⟨?_, m, h1, h2, h3, h4, ?_, ?_⟩, inD_iff.2 ⟨h5, h6⟩⟩, by rw [hac]⟩
      all_goals
        have hne := meetsL_ne h4
        have hd1 : d.2.1 = beg e.vl m := by rw [h3]; rfl
        have hd2 : d.2.2 = beg e.vl (m + 1) := by rw [h3]; rfl
        have b1 := beg_bd (m := m) v1 v2
        have b2 := beg_bd (m := m + 1) v1 v2
        first | (rw [validB_iff]; omega) | omega
  · rw [if_neg hk]
    constructor
    · intro h; cases h
    · rintro ⟨h, -⟩; exact absurd h hk
/-- The reference's list of dues is one. -/
theorem dueOk_ins {l : List Ev} (hok : CycOk l) (a b : Int) : DueOk l a b (insAll [] (l.flatMap (perE l a b))) := by
  have hp := insAll_perm (l.flatMap (perE l a b)) []
  rw [List.append_nil] at hp
  have hkey : (l.flatMap (perE l a b)).Pairwise fun x y => befD x y ∨ befD y x := by
    rw [List.pairwise_flatMap]
    constructor
    · intro e he
      unfold perE
      split
      · rename_i hk
        obtain ⟨o0, o1, v1, v2⟩ := open_bd hok he hk
        rw [List.pairwise_map]
        refine List.Pairwise.imp (fun {c d} h => Or.inl (Or.inl h)) ((lifeL_pair v1 v2 _ _ _ _).sublist (List.filter_sublist (p := inD a b)))
      · exact List.Pairwise.nil
    · rw [List.pairwise_iff_getElem]
      intro i j hi hj hij x hx y hy
      obtain ⟨k1, a1, -⟩ := (perE_mem hok (List.getElem_mem hi)).1 hx
      obtain ⟨k2, a2, -⟩ := (perE_mem hok (List.getElem_mem hj)).1 hy
      have hne : x.1 ≠ y.1 := fun e => by
        have := hok.o1 i j hi hj k1 k2 (by omega)
        omega
      unfold befD
      omega
  constructor
  · have s := insAll_sorted (l.flatMap (perE l a b)) [] List.Pairwise.nil
    have k := (hp.pairwise_iff (R := fun x y => befD x y ∨ befD y x) (fun h => h.symm)).2 hkey
    exact (k.and s).imp fun h => h.1.resolve_right h.2
  · intro d
    rw [hp.mem_iff, List.mem_flatMap]
    constructor
    · rintro ⟨e, he, hd⟩
      obtain ⟨h1, h2, h3⟩ := (perE_mem hok he).1 hd
      exact ⟨e, he, h1, h2, h3⟩
    · rintro ⟨e, he, h1, h2, h3⟩
      exact ⟨e, he, (perE_mem hok he).2 ⟨h1, h2, h3⟩⟩
/-- A window of 800 days ends few cycles of an account. -/
theorem perE_len {l : List Ev} (hok : CycOk l) {a b : Int} (hn : b - a ≤ 69120000) {e : Ev} (he : e ∈ l) : (perE l a b e).length ≤ 40 := by
  unfold perE
  split
  · rename_i hk
    obtain ⟨o0, o1, v1, v2⟩ := open_bd hok he hk
    rw [List.length_map]
    refine Nat.le_trans (List.length_filter_le _ _) ?_
    unfold lifeL
    split
    · rename_i hv
      refine Nat.le_trans (List.length_filter_le _ _) ?_
      rw [cycL_len]
      obtain ⟨w0, w1, w2⟩ := (validB_iff _ _).1 hv
      obtain ⟨p1, p2, p3, p4⟩ := moOf_is (a := e.vl) w0 (by omega)
      obtain ⟨q1, q2, q3, q4⟩ := moOf_is (a := e.vl) (t := min b 12622780800 - 1) (by omega) (by omega)
      generalize moOf e.vl (max a 0) = lo at *
      generalize moOf e.vl (min b 12622780800 - 1) = hi at *
      refine Classical.byContradiction fun hlen => ?_
      have h1 : 0 ≤ lo + 1 := by omega
      have h2 : lo + 1 ≤ hi := by omega
      rw [beg_mid (a := e.vl) (m := lo + 1) h1 (by omega)] at p4
      rw [beg_mid (a := e.vl) (m := hi) (by omega) q2] at q3
      have := dm_le h1 h2
      omega
    · simp
  · simp
theorem dues_len {l : List Ev} (hok : CycOk l) {a b : Int} (hn : b - a ≤ 69120000) (hl : l.length ≤ 40) : (l.flatMap (perE l a b)).length ≤ 1600 := by
  have key : ∀ k : Nat, k ≤ l.length → ((l.take k).flatMap (perE l a b)).length ≤ 40 * k := by
    intro k
    induction k with
    | zero => intro _; simp
    | succ k ih =>
      intro hk
      rw [List.take_succ_eq_append_getElem hk, List.flatMap_append, List.length_append, List.flatMap_singleton]
      have := ih (by omega)
      have := perE_len hok hn (List.getElem_mem hk)
      omega
  have := key l.length (Nat.le_refl _)
  rw [List.take_length] at this
  omega
end Go.Proofs.Ytmilpaibkemmdaa

namespace Go.Proofs.Ytmilpaibkemmdaa

/-- The last closing event counts. -/
def closeR (l : List Ev) (n : Int) : Int := l.foldl (fun t f => if isClose n f = true then f.tm else t) 12622780800
theorem closeR_take (l : List Ev) (n : Int) (k : Nat) (h : k < l.length) : closeR (l.take (k + 1)) n = if isClose n l[k] = true then (l[k]).tm else closeR (l.take k) n := by
  unfold closeR
  rw [List.take_succ_eq_append_getElem h, List.foldl_append]
  rfl
theorem closeR_none (n : Int) : ∀ (l : List Ev) (t : Int), (∀ e ∈ l, isClose n e = false) → l.foldl (fun t f => if isClose n f = true then f.tm else t) t = t
  | [], _, _ => rfl
  | e :: l, t, h => by
    rw [List.foldl_cons, h e (by simp), if_neg (by decide)]
    exact closeR_none n l t fun x hx => h x (by simp [hx])
theorem closeR_eq {l : List Ev} (h : CycOk l) (n : Int) : closeR l n = closeT l n := by
  unfold closeT
  cases hf : l.find? (isClose n) with
  | none =>
    exact closeR_none n l _ fun e he => by simpa using List.find?_eq_none.1 hf e he
  | some e =>
    obtain ⟨hp, xs, ys, hl, hn⟩ := List.find?_eq_some_iff_append.1 hf
    subst hl
    obtain ⟨k1, a1⟩ := isClose_iff.1 hp
    unfold closeR
    rw [List.foldl_append, List.foldl_cons, hp, if_pos rfl]
    refine closeR_none n ys _ fun x hx => ?_
    cases hc : isClose n x with
    | false => rfl
    | true =>
      exfalso
      obtain ⟨k2, a2⟩ := isClose_iff.1 hc
      obtain ⟨j, hj, rfl⟩ := List.mem_iff_getElem.1 hx
      have e1 : (xs ++ e :: ys)[xs.length]'(by simp) = e := by simp
      have e2 : (xs ++ e :: ys)[xs.length + 1 + j]'(by simp; omega) = ys[j] := by
        rw [List.getElem_append_right (by omega)]
        simp [show xs.length + 1 + j - xs.length = j + 1 by omega]
      have := h.c1 xs.length (xs.length + 1 + j) (by simp) (by simp; omega) (by rw [e1]; exact k1) (by rw [e2]; exact k2) (by rw [e1, e2, a1, a2])
      omega
/-- An opening event of a list. -/
abbrev OpE (l : List Ev) : Type := { e : Ev // e ∈ l ∧ e.kd = 1 }
/-- The events themselves. -/
def valsE {l : List Ev} (p : List (OpE l)) : List Ev := p.map (·.1)
theorem valsE_len {l : List Ev} (p : List (OpE l)) : (valsE p).length = p.length := List.length_map _
theorem valsE_snoc {l : List Ev} (p : List (OpE l)) (x : OpE l) : valsE (p ++ [x]) = valsE p ++ [x.1] := List.map_append ..
def isOp (e : Ev) : Bool := decide (e.kd = 1)
theorem isOp_iff {e : Ev} : isOp e = true ↔ e.kd = 1 := decide_eq_true_iff
/-- The opening events. -/
def opens (l : List Ev) : List Ev := l.filter isOp
theorem opens_take (l : List Ev) (k : Nat) (h : k < l.length) : opens (l.take (k + 1)) = if (l[k]).kd = 1 then opens (l.take k) ++ [l[k]] else opens (l.take k) := by
  unfold opens
  rw [filter_take _ _ _ h]
  by_cases hk : (l[k]).kd = 1
  · rw [if_pos hk, if_pos (isOp_iff.2 hk)]
  · rw [if_neg hk, if_neg (fun h => hk (isOp_iff.1 h))]
theorem opens_len (l : List Ev) (k : Nat) : (opens (l.take k)).length ≤ k := Nat.le_trans (List.length_filter_le _ _) (by rw [List.length_take]; omega)
theorem opens_flat {l : List Ev} {α : Type} {f : Ev → List α} (h : ∀ e, e.kd ≠ 1 → f e = []) : (opens l).flatMap f = l.flatMap f := by
  unfold opens
  induction l with
  | nil => rfl
  | cons e l ih =>
    rw [List.filter_cons, List.flatMap_cons, ← ih]
    by_cases hk : e.kd = 1
    · rw [if_pos (isOp_iff.2 hk), List.flatMap_cons]
    · rw [if_neg (fun h => hk (isOp_iff.1 h)), h e hk, List.nil_append]
theorem perE_none (l : List Ev) (a b : Int) (e : Ev) (h : e.kd ≠ 1) : perE l a b e = [] := by unfold perE; rw [if_neg h]
theorem open_of_opens (l : List Ev) (n : Int) : openE l n = (opens l).find? (fun e => decide (e.ac = n)) := by
  unfold openE opens
  rw [List.find?_filter]
  congr 1
  funext a
  unfold isOpen isOp
  rw [Bool.eq_iff_iff]
  simp
theorem opens_find (n : Int) : ∀ (pre : List Ev) (l : List Ev), (∀ e ∈ pre, e.ac ≠ n) → opens l = pre → openE l n = none := fun pre l h e => by
  rw [open_of_opens, e]
  exact List.find?_eq_none.2 fun x hx => by simpa using h x hx
theorem opens_find_some (n : Int) (pre r : List Ev) (x : Ev) (l : List Ev) (h : ∀ e ∈ pre, e.ac ≠ n) (hx : x.ac = n) (e : opens l = pre ++ x :: r) : openE l n = some x := by
  rw [open_of_opens, e]
  exact List.find?_eq_some_iff_append.2 ⟨by simpa using hx, pre, r, rfl, fun y hy => by simpa using h y hy⟩
/-- A list of dues in order, whatever sorted it. -/
theorem dueOk_perm {l : List Ev} (hok : CycOk l) {a b : Int} {D : List Du} (hp : D.Perm (l.flatMap (perE l a b))) (hs : SrtD D) : DueOk l a b D := by
  have h0 := dueOk_ins hok a b
  have hq := insAll_perm (l.flatMap (perE l a b)) []
  rw [List.append_nil] at hq
  have hpq := hp.trans hq.symm
  refine ⟨?_, fun d => by rw [hpq.mem_iff, h0.mem]⟩
  have key : (insAll [] (l.flatMap (perE l a b))).Pairwise fun x y => befD x y ∨ befD y x := h0.srt.imp Or.inl
  have k := (hpq.pairwise_iff (R := fun x y => befD x y ∨ befD y x) (fun h => h.symm)).2 key
  exact (k.and hs).imp fun h => h.1.resolve_right h.2
end Go.Proofs.Ytmilpaibkemmdaa
