/-
  The walk of recurring.Lines.
  The walk of the reference's Lines.
  The reference's Same at lines that are alike, and the law on lines.
-/
import Derived.Test.YtngippiilgdnoaaGreatMpbw
import Derived.Test.YtngippiilgdnoaaGreatMpbr
import Derived.Test.YtngippiilgdnoaaGreatMpbl
import Derived.Test.YtngippiilgdnoaaGreatMpac
import Derived.Test.YtngippiilgdnoaaGreatMpag
namespace Go.Proofs.YtngippiilgdnoaaGreat
open Go.RowKit

/-- A line of a fee. -/
structure Ln where
  sb : Int
  nm : ByteArray
  ct : ByteArray
  am : Int
def lnCells (x : Ln) : List Value := [.int .i64 2, .int .i64 x.sb, .string x.nm, .string x.ct, .int .i64 1, .int .i64 0, .int .i64 x.am, .int .i64 0]
theorem ln_one (a : Ln) : ∀ u ∈ lnCells a, u.oneCell' = true := fun u hu => by
  unfold lnCells at hu
  simp only [List.mem_cons, List.not_mem_nil, or_false] at hu
  rcases hu with rfl | rfl | rfl | rfl | rfl | rfl | rfl | rfl <;> rfl
theorem Tryz.lineInfo : (Tryz.prog.info? 39).map (fun i => (i.zero, i.size, i.bytes)) = some (some (.agg #[.int .i64 0, .int .i64 0, .string ⟨#[]⟩, .string ⟨#[]⟩, .int .i64 0, .int .i64 0, .int .i64 0, .int .i64 0]), 8, 80) := by kernel_rfl
def catO : Option Pd → ByteArray
  | none => ⟨#[]⟩
  | some p => p.ct
theorem ver_shape {vv : Value} {o : Option Pd} (h : VerIs vv o) : ∃ (s1 : ByteArray) (j1 j2 : Int) (pb : Bool) (ab : Option Addr) (nb cb : Nat), vv = .agg #[.string s1, .int .i64 j1, .int .i64 j2, .string (catO o), .bool pb, .slice ab nb cb] := by
  cases o with
  | none => exact ⟨_, _, _, _, _, _, _, h⟩
  | some p => obtain ⟨ab, nb, cb, h⟩ := h; exact ⟨_, _, _, _, ab, nb, cb, h⟩
/-- The first error. -/
def errL (g : Had → Int) : List Had → Int
  | [] => 0
  | h :: r => if g h ≠ 0 then g h else errL g r
theorem errL_hit {g : Had → Int} : ∀ (H : List Had) (k : Nat) (hk : k < H.length), (∀ j (hj : j < H.length), j < k → g H[j] = 0) → g H[k] ≠ 0 → errL g H = g H[k]
  | [], _, hk, _, _ => by cases hk
  | h :: r, 0, _, _, h2 => if_pos h2
  | h :: r, k + 1, hk, h1, h2 => by
    have h0 := h1 0 (by simp) (by omega)
    unfold errL
    rw [if_neg (by simpa using h0)]
    exact errL_hit r k (by simpa using hk) (fun j hj hjk => h1 (j + 1) (by simpa using hj) (by omega)) h2
theorem errL_none {g : Had → Int} : ∀ (H : List Had), (∀ j (hj : j < H.length), g H[j] = 0) → errL g H = 0
  | [], _ => rfl
  | h :: r, h1 => by
    have h0 := h1 0 (by simp)
    unfold errL
    rw [if_neg (by simpa using h0)]
    exact errL_none r fun j hj => h1 (j + 1) (by simpa using hj)
def feeH (l : List Ev) (P : List Pd) (f t : Int) (h : Had) : Int × Int := feeC l h.1 h.2 f t (verC l P h.1 h.2 f t)
def lnH (l : List Ev) (P : List Pd) (f t : Int) (h : Had) : Ln := ⟨h.1, h.2, catO (verC l P h.1 h.2 f t), (feeH l P f t h).1⟩
def linesH (l : List Ev) (P : List Pd) (f t : Int) (H : List Had) : List Ln := H.flatMap fun h => if (feeH l P f t h).1 ≠ 0 then [lnH l P f t h] else []
theorem linesH_step (l : List Ev) (P : List Pd) (f t : Int) (H : List Had) (k : Nat) (hk : k < H.length) : ((feeH l P f t H[k]).1 = 0 → linesH l P f t (H.take (k + 1)) = linesH l P f t (H.take k)) ∧ ((feeH l P f t H[k]).1 ≠ 0 → linesH l P f t (H.take (k + 1)) = linesH l P f t (H.take k) ++ [lnH l P f t H[k]]) := by
  unfold linesH
  rw [List.take_succ_eq_append_getElem hk, List.flatMap_append, List.flatMap_singleton]
  refine ⟨fun h => ?_, fun h => ?_⟩
  · rw [if_neg (by simpa using h), List.append_nil]
  · rw [if_pos h]
theorem linesH_len (l : List Ev) (P : List Pd) (f t : Int) : ∀ H : List Had, (linesH l P f t H).length ≤ H.length
  | [] => Nat.le_refl _
  | h :: r => by
    have := linesH_len l P f t r
    have e : linesH l P f t (h :: r) = (if (feeH l P f t h).1 ≠ 0 then [lnH l P f t h] else []) ++ linesH l P f t r := rfl
    rw [e, List.length_append, List.length_cons]
    split
    · rw [List.length_singleton]; omega
    · rw [List.length_nil]; omega
/-- Lines and an error. -/
def LnTo (R : List Ln) (er : Int) (w : World) (e : Ending) (w' : World) : Prop := ∃ v, e = .returned (.tuple #[v, .int .i64 er]) ∧ RecAt lnCells 8 w' v R ∧ Below w.heap.size w w'
theorem rec_nil {α : Type} {c : α → List Value} {sz : Nat} (w : World) : RecAt c sz w (.slice none 0 0) [] := ⟨none, 0, rfl, Nat.le_refl _, ⟨by decide, fun _ => rfl⟩, fun h => absurd rfl h⟩
/-- The lines of an account in a cycle, and the first error. -/
structure LnRes (l : List Ev) (P : List Pd) (a f t : Int) (w : World) (e : Ending) (w' : World) : Prop where
  no : validB f t = false → LnTo [] 8 w e w'
  yes : validB f t = true → ∃ H, HadOk l a H ∧ H.length ≤ 1000000 ∧ (errL (fun h => (feeH l P f t h).2) H ≠ 0 → LnTo [] (errL (fun h => (feeH l P f t h).2) H) w e w') ∧ (errL (fun h => (feeH l P f t h).2) H = 0 → LnTo (linesH l P f t H) 0 w e w')
theorem LnRes.bad {l : List Ev} {P : List Pd} {a f t : Int} {w w' : World} (h : validB f t = false) (hb : Below w.heap.size w w') : LnRes l P a f t w (.returned (.tuple #[.slice none 0 0, .int .i64 8])) w' :=
  ⟨fun _ => ⟨_, rfl, rec_nil _, hb⟩, fun h2 => by rw [h] at h2; cases h2⟩
theorem LnRes.err {l : List Ev} {P : List Pd} {a f t : Int} {w w' : World} {H : List Had} (h : validB f t = true) (hH : HadOk l a H) (hl : H.length ≤ 1000000) {er : Int} (he : errL (fun h => (feeH l P f t h).2) H = er) (hn : er ≠ 0) (hb : Below w.heap.size w w') : LnRes l P a f t w (.returned (.tuple #[.slice none 0 0, .int .i64 er])) w' :=
  ⟨fun h2 => (by rw [h] at h2; cases h2), fun _ => ⟨H, hH, hl, fun _ => by rw [he]; exact ⟨_, rfl, rec_nil _, hb⟩, fun h0 => absurd (he.symm.trans h0) hn⟩⟩
theorem LnRes.good {l : List Ev} {P : List Pd} {a f t : Int} {w w' : World} {H : List Had} {v : Value} (h : validB f t = true) (hH : HadOk l a H) (hl : H.length ≤ 1000000) (he : errL (fun h => (feeH l P f t h).2) H = 0) (hv : RecAt lnCells 8 w' v (linesH l P f t H)) (hb : Below w.heap.size w w') : LnRes l P a f t w (.returned (.tuple #[v, .int .i64 0])) w' :=
  ⟨fun h2 => (by rw [h] at h2; cases h2), fun _ => ⟨H, hH, hl, fun hn => absurd he hn, fun _ => ⟨_, rfl, hv, hb⟩⟩⟩
/-- What the loop over the products keeps. -/
structure LnR (l : List Ev) (P : List Pd) (f t : Int) (H : List Had) (W : World) (k : Nat) (vo : Value) (wr : World) : Prop where
  own : wr.ownsRow W.heap.size 39 8 vo (linesH l P f t (H.take k)).length ((linesH l P f t (H.take k)).flatMap lnCells)
  b : Below W.heap.size W wr
  ok : ∀ j (hj : j < H.length), j < k → (feeH l P f t H[j]).2 = 0

set_option maxRecDepth 100000 in
set_option maxHeartbeats 12800000 in
theorem lines_calls (ve vp : Value) (l : List Ev) (P : List Pd) (a f t : Int) (w : World) (he : EvsAt w ve l) (hp : PdsAt w vp P) (hl : l.length ≤ 1000) (hf : FewP P) :
    Calls Tryz.prog 15 #[ve, vp, .int .i64 a, .agg #[.int .i64 f, .int .i64 t]] w (LnRes l P a f t w) := by
  obtain ⟨W, hW⟩ : ∃ W, W = w.alloc (Obj.cells #[Value.int .i64 f, Value.int .i64 t] 25) := ⟨_, rfl⟩
  have hw0 : Below w.heap.size w W := by rw [hW]; exact (Below.refl _ _).alloc (Nat.le_refl _) _
  have rW : W.heap[w.heap.size]? = some (Obj.cells #[Value.int .i64 f, Value.int .i64 t] 25) := by rw [hW]; exact heap_alloc_new _ _
  have hzW : w.heap.size < W.heap.size := (Array.getElem?_eq_some_iff.1 rW).1
  have HM := Lib.hid (show ∀ w', Below W.heap.size W w' → w'.cell? ⟨w.heap.size, 0, none⟩ = some (.int .i64 f) ∧ w'.cell? ⟨w.heap.size, 1, none⟩ = some (.int .i64 t) from fun w' hb => by
    have q := (hb.block _ hzW).trans rW
    exact ⟨cell_of_row w' _ 0 _ _ _ q, cell_of_row w' _ 1 _ _ _ q⟩)
  have HW := Lib.hid hW
  have Hw0 := Lib.hid hw0
  have Hv := Lib.hid (valid_calls f t W)
  have HC := Lib.hid (fun (h : Had) Y (hY : Below W.heap.size W Y) => charged_calls ve vp l P h.1 h.2 f t Y ((he.below hw0).below hY) ((hp.below hw0).below hY) hl hf)
  have HA := Lib.hid (fun Y (hY : Below W.heap.size W Y) => all_calls ve l a Y ((he.below hw0).below hY) hl)
  obtain ⟨av, cap, rfl, -, -⟩ := rec_shape he.1
  obtain ⟨pav, pcap, rfl, -, -, -⟩ := hp
  obtain ⟨m0, m1⟩ := HM.out W (Below.refl _ _)
  clear hW rW hw0 he
  cases hv : validB f t with
  | false =>
    rw [hv] at Hv
    have HF := Lib.hid (fun w' hb => LnRes.bad (l := l) (P := P) (a := a) (w := w) (w' := w') hv hb)
    clear hv
    go_enter Tryz.func15, Tryz.ntmps15
    go_upto_region 1 with (fail)
    rw [← HW.out]
    go_wp2_with fail
    refine Hv.out.mono ?_
    rintro e w1 ⟨rfl, hb1⟩
    have HR := Lib.hid (HF.out w1 (Hw0.out.trans (hb1.mono Hw0.out.size)))
    clear m0 m1 hb1
    go_wp2
    go_ret2
    exact HR.out
  | true =>
    rw [hv] at Hv
    have HVt := Lib.hid hv
    clear hv
    go_enter Tryz.func15, Tryz.ntmps15
    go_upto_region 1 with (fail)
    rw [← HW.out]
    go_wp2_with fail
    refine Hv.out.mono ?_
    rintro e w1 ⟨rfl, hb1⟩
    have Hb1 := Lib.hid hb1
    have HA1 := Lib.hid (HA.out w1 hb1)
    clear m0 m1 hb1 HA Hv
    go_wp2_with fail
    refine HA1.out.mono ?_
    rintro e w2 ⟨vh, H, rfl, hrec, hH, hHl, hb2⟩
    obtain ⟨ah, ch, rfl, hhl, hhc⟩ := rec_shape hrec
    unfold maxLen at hhc
    have HRc := Lib.hid hrec
    have HH := Lib.hid hH
    have HB2 := Lib.hid (Hb1.out.trans (hb2.mono Hb1.out.size))
    have HLb := Lib.hid (fun k : Nat => Nat.le_trans (linesH_len l P f t (H.take k)) (by rw [List.length_take]; exact Nat.min_le_right _ _))
    clear hrec hH hb2 HA1
    go_wp2_with fail
    go_loopw [10, 23] (fun vo i wr => ∃ k : Nat, k ≤ H.length ∧ i = .int .i64 k ∧ LnR l P f t H w2 k vo wr) (fun _ i _ => H.length - (intOf i).toNat)
    case atStart => exact ⟨0, Nat.zero_le _, rfl, World.ownsRow_nil _ _ _ _, Below.refl _ _, fun j _ h => absurd h (by omega)⟩
    case round =>
      obtain ⟨wo, rfl⟩ : ∃ wo : World, wo = wr := ⟨_, rfl⟩
      obtain ⟨k, hk, rfl, hR⟩ := hrel
      have HR := Lib.hid hR
      clear hR
      obtain ⟨ao, co, rfl, hc1, hc2⟩ := own_shape HR.out.own
      unfold maxLen at hc2
      have hLb := HLb.out k
      by_cases hlt : k < H.length
      · have hk1 : (k : Int) < (H.length : Int) := by omega
        have hk0 : (0 : Int) ≤ (k : Int) := Int.natCast_nonneg _
        obtain ⟨hno, hyes⟩ := linesH_step l P f t H k hlt
        have HNo := Lib.hid hno
        have HYe := Lib.hid hyes
        have HEr := Lib.hid (fun hn => errL_hit (g := fun h => (feeH l P f t h).2) H k hlt HR.out.ok hn)
        have HOk := Lib.hid (show (feeH l P f t H[k]).2 = 0 → ∀ j (hj : j < H.length), j < k + 1 → (feeH l P f t H[j]).2 = 0 from fun h0 j hj hjk => by
          rcases Nat.lt_or_ge j k with h | h
          · exact HR.out.ok j hj h
          · have : j = k := by omega
            subst this; exact h0)
        obtain ⟨a2, c2, e2, -, -, hx⟩ := HRc.out.below HR.out.b
        cases e2
        obtain ⟨bb, o, rfl, hB, hx⟩ := hx (by rintro rfl; cases hlt)
        have x0 := hx k hlt 0 (by decide)
        have x1 := hx k hlt 1 (by decide)
        simp only [hadCells, List.getElem?_cons_zero, List.getElem?_cons_succ, Nat.add_zero] at x0 x1
        have HRel := Lib.hid (fun (vo : Value) (wx : World) (h1 : wx.ownsRow w2.heap.size 39 8 vo (linesH l P f t (H.take (k + 1))).length ((linesH l P f t (H.take (k + 1))).flatMap lnCells)) (h2 : Below w2.heap.size w2 wx) (h3 : (feeH l P f t H[k]).2 = 0) => (⟨k + 1, by omega, by go_num, h1, h2, HOk.out h3⟩ : ∃ k' : Nat, k' ≤ H.length ∧ Value.int .i64 ((k : Int) + 1) = .int .i64 k' ∧ LnR l P f t H w2 k' vo wx))
        have HCh := Lib.hid (fun Y hY => HC.out H[k] Y hY)
        have HLn := Lib.hid (show lnH l P f t H[k] = ⟨(H[k]).1, (H[k]).2, catO (verC l P (H[k]).1 (H[k]).2 f t), (feeH l P f t H[k]).1⟩ from rfl)
        have HFe := Lib.hid (show feeH l P f t H[k] = feeC l (H[k]).1 (H[k]).2 f t (verC l P (H[k]).1 (H[k]).2 f t) from rfl)
        rw [← HFe.out] at HCh
        clear hno hyes hx hB HOk HFe
        generalize lnH l P f t H[k] = ln at *
        generalize feeH l P f t H[k] = fe at *
        generalize H[k] = h at *
        obtain ⟨hs, hn⟩ := h
        obtain ⟨fe1, fe2⟩ := fe
        dsimp only at x0 x1 HCh HLn HNo HYe HEr HRel
        generalize verC l P hs hn f t = ov at *
        generalize linesH l P f t (H.take (k + 1)) = L1 at *
        generalize hLk : linesH l P f t (H.take k) = LK at *
        have HLk := Lib.hid hLk
        have HRo := Lib.hid (show wo.ownsRow w2.heap.size 39 8 (.slice ao LK.length co) LK.length (LK.flatMap lnCells) by have h := HR.out.own; rw [hLk] at h; exact h)
        clear hLk
        obtain ⟨Y, hY⟩ : ∃ Y, Y = wo.alloc (Obj.cells #[.int .i64 hs, .string hn] 95) := ⟨_, rfl⟩
        have hbY : Below wo.heap.size wo Y := by rw [hY]; go_grown
        have hYr : Y.heap[wo.heap.size]? = some (Obj.cells #[.int .i64 hs, .string hn] 95) := by rw [hY]; exact heap_alloc_new _ _
        have hwY : wo.heap.size < Y.heap.size := (Array.getElem?_eq_some_iff.1 hYr).1
        have HBY := Lib.hid (HR.out.b.trans (hbY.mono HR.out.b.size))
        have HOY := Lib.hid (ownsRow_below HRo.out hbY)
        have HYr := Lib.hid hYr
        have HY := Lib.hid hY
        have y0 := cell_of_row Y _ 0 _ _ _ hYr
        have y1 := cell_of_row Y _ 1 _ _ _ hYr
        have HWY := Lib.hid (HB2.out.trans (HBY.out.mono HB2.out.size))
        obtain ⟨m0, m1⟩ := HM.out Y HWY.out
        have HC1 := Lib.hid (HCh.out Y HWY.out)
        clear hbY hY hYr HCh
        go_upto_region 7 with (fail)
        rw [← HY.out]
        go_wp2_with fail
        refine HC1.out.mono ?_
        rintro e w3 ⟨vv, rfl, hvv, hb3⟩
        obtain ⟨s1, j1, j2, pb, ab, nb, cb, rfl⟩ := ver_shape hvv
        obtain ⟨cs, hcs⟩ : ∃ cs, cs = catO ov := ⟨_, rfl⟩
        rw [← hcs] at HLn ⊢
        have HB3 := Lib.hid (HBY.out.trans (hb3.mono HBY.out.size))
        have HO3 := Lib.hid (ownsRow_below HOY.out hb3)
        have H3r := Lib.hid ((hb3.block _ hwY).trans HYr.out)
        have hz3 := hb3.size
        clear hvv hb3 x0 x1 y0 y1 m0 m1 hcs HC1
        obtain ⟨Z, hZ⟩ : ∃ Z, Z = w3.alloc (Obj.cells #[.string s1, .int .i64 j1, .int .i64 j2, .string cs, .bool pb, .slice ab nb cb] 72) := ⟨_, rfl⟩
        have hbZ : Below w3.heap.size w3 Z := by rw [hZ]; exact (Below.refl _ _).alloc (Nat.le_refl _) _
        have hZr : Z.heap[w3.heap.size]? = some (Obj.cells #[.string s1, .int .i64 j1, .int .i64 j2, .string cs, .bool pb, .slice ab nb cb] 72) := by rw [hZ]; exact heap_alloc_new _ _
        have HBZ := Lib.hid (HB3.out.trans (hbZ.mono HB3.out.size))
        have HOZ := Lib.hid (ownsRow_below HO3.out hbZ)
        have z3 := cell_of_row Z _ 3 _ _ _ hZr
        have h3Z := (hbZ.block _ (by omega)).trans H3r.out
        have q0 := cell_of_row Z _ 0 _ _ _ h3Z
        have q1 := cell_of_row Z _ 1 _ _ _ h3Z
        have HZ := Lib.hid hZ
        have hzs := HBZ.out.size
        clear hbZ hZ hZr h3Z
        go_upto_region 8 with (fail)
        rw [← HZ.out]
        by_cases he2 : fe2 = 0
        · have k2 : (fe2 != 0) = false := bne_eq_false_iff_eq.2 he2
          have HRl := Lib.hid (fun vo wx h1 h2 => HRel.out vo wx h1 h2 he2)
          clear HRel he2 HEr
          by_cases he1 : fe1 = 0
          · have k3 : (fe1 != 0) = false := bne_eq_false_iff_eq.2 he1
            have HE := Lib.hid (HNo.out he1)
            have HRf := Lib.hid (HRl.out (.slice ao LK.length co) Z (by rw [HE.out]; exact HOZ.out) HBZ.out)
            clear he1 HNo HYe
            go_wp2
            exact ⟨by obtain ⟨k', h1, h2, h3⟩ := HRf.out; exact ⟨k', h1, by first | exact h2 | (rw [← h2]; go_num), h3⟩, by simp [intOf]; omega⟩
          · have k3 : (fe1 != 0) = true := bne_iff_ne.2 he1
            have HE := Lib.hid (HYe.out he1)
            have HX := Lib.hid (RecAt.one (c := lnCells) (sz := 8) Z ln 39 #[.int .i64 2, .int .i64 hs, .string hn, .string cs, .int .i64 1, .int .i64 0, .int .i64 fe1, .int .i64 0] (by rw [HLn.out]; rfl))
            clear he1 HNo HYe
            go_wp2_with (at_builtin; refine append_rec (c := lnCells) (sz := 8) (fun _ => rfl) ln_one 39 34 _ 80 Tryz.underlying34 Tryz.lineInfo rfl (by decide) rfl _ _ rfl w2.heap.size ?hs _ _ LK [ln] rfl rfl (HOZ.out.alloc _) HX.out ?hl ?hb ?_)
            case hs => simp; omega
            case hl => unfold maxLen; simp <;> omega
            case hb => simp <;> omega
            intro R hR v5 w5 own5 hg5
            have HRf := Lib.hid (HRl.out v5 w5 (by rw [HE.out, ← hR.out]; exact own5) ((HBZ.out.alloc HBZ.out.size _).trans hg5))
            clear own5 hg5 hR
            go_wp2
            exact ⟨by obtain ⟨k', h1, h2, h3⟩ := HRf.out; exact ⟨k', h1, by first | exact h2 | (rw [← h2]; go_num), h3⟩, by simp [intOf]; omega⟩
        · have k2 : (fe2 != 0) = true := bne_iff_ne.2 he2
          have HRf := Lib.hid (LnRes.err (w := w) (w' := Z) HVt.out HH.out (by omega) (HEr.out he2) he2 (Hw0.out.trans ((HB2.out.trans (HBZ.out.mono HB2.out.size)).mono Hw0.out.size)))
          clear he2
          go_wp2
          go_ret2
          exact HRf.out
      · have hkz : ¬ (k : Int) < (H.length : Int) := by omega
        have hke : k = H.length := by omega
        subst hke
        have HRf := Lib.hid (LnRes.good (w := w) (w' := wo) HVt.out HH.out (by omega) (errL_none H fun j hj => HR.out.ok j hj hj) (by have h := RecAt.own (c := lnCells) (sz := 8) (fun _ => rfl) HR.out.own; rw [List.take_length] at h; exact h) (Hw0.out.trans ((HB2.out.trans (HR.out.b.mono HB2.out.size)).mono Hw0.out.size)))
        rw [List.take_length]
        go_wp2
        go_ret2
        exact HRf.out
end Go.Proofs.YtngippiilgdnoaaGreat

namespace Go.Proofs.YtngippiilgdnoaaGreat
open Go.RowKit

/-- The products of the first subscriptions. -/
noncomputable def hadO (l : List Ev) (O : List Int) (k : Nat) : List Had := (O.take k).flatMap fun s => (prodsL l s).map fun n => (s, n)
theorem hadO_succ (l : List Ev) (O : List Int) (k : Nat) (h : k < O.length) : hadO l O (k + 1) = hadO l O k ++ (prodsL l O[k]).map fun n => (O[k], n) := by
  unfold hadO
  rw [List.take_succ_eq_append_getElem h, List.flatMap_append, List.flatMap_singleton]
theorem hadO_len (l : List Ev) (O : List Int) : ∀ k, k ≤ O.length → (hadO l O k).length ≤ k * l.length
  | 0, _ => by simp [hadO]
  | k + 1, h => by
    have h1 := hadO_len l O k (by omega)
    have h2 := prodsL_len l O[k]
    rw [hadO_succ l O k h, List.length_append, List.length_map, Nat.succ_mul]
    omega
theorem hadO_all {l : List Ev} {a : Int} {O : List Int} (h : SubsOk l a O) : HadOk l a (hadO l O O.length) := by
  unfold hadO
  rw [List.take_length]
  exact had_flat h
theorem hadO_cut (l : List Ev) (O : List Int) (k : Nat) : ∃ B, hadO l O O.length = hadO l O (k + 1) ++ B := by
  refine ⟨(O.drop (k + 1)).flatMap fun s => (prodsL l s).map fun n => (s, n), ?_⟩
  unfold hadO
  rw [← List.flatMap_append, List.take_append_drop, List.take_length]
theorem linesH_app (l : List Ev) (P : List Pd) (f t : Int) (A B : List Had) : linesH l P f t (A ++ B) = linesH l P f t A ++ linesH l P f t B := by unfold linesH; rw [List.flatMap_append]
theorem linesH_one (l : List Ev) (P : List Pd) (f t : Int) (A : List Had) (h : Had) : ((feeH l P f t h).1 = 0 → linesH l P f t (A ++ [h]) = linesH l P f t A) ∧ ((feeH l P f t h).1 ≠ 0 → linesH l P f t (A ++ [h]) = linesH l P f t A ++ [lnH l P f t h]) := by
  rw [linesH_app]
  have e : linesH l P f t [h] = if (feeH l P f t h).1 ≠ 0 then [lnH l P f t h] else [] := by unfold linesH; rw [List.flatMap_singleton]
  rw [e]
  refine ⟨fun h => ?_, fun h => ?_⟩
  · rw [if_neg (by simpa using h), List.append_nil]
  · rw [if_pos h]
theorem errL_split {g : Had → Int} : ∀ (A : List Had) (x : Had) (B : List Had), (∀ h ∈ A, g h = 0) → g x ≠ 0 → errL g (A ++ x :: B) = g x
  | [], _, _, _, h2 => if_pos h2
  | y :: A, x, B, h1, h2 => by
    show (if g y ≠ 0 then g y else errL g (A ++ x :: B)) = g x
    rw [if_neg (by simpa using h1 y (by simp))]
    exact errL_split A x B (fun h hh => h1 h (by simp [hh])) h2
theorem errL_mem {g : Had → Int} : ∀ (A : List Had), (∀ h ∈ A, g h = 0) → errL g A = 0
  | [], _ => rfl
  | y :: A, h1 => by
    show (if g y ≠ 0 then g y else errL g A) = 0
    rw [if_neg (by simpa using h1 y (by simp))]
    exact errL_mem A fun h hh => h1 h (by simp [hh])
theorem own_get {α : Type} {c : α → List Value} {w : World} {base : Nat} {e : TypeId} {v : Value} {L : List α} (hc : ∀ a, (c a).length = 1) (h : w.ownsRow base e 1 v L.length (L.flatMap c)) (j : Nat) (hj : j < L.length) : ∃ g cap, v = .slice (some ⟨g, 0, none⟩) L.length cap ∧ g < w.heap.size ∧ w.cell? ⟨g, j, none⟩ = (c L[j])[0]? := by
  rcases h.2 with ⟨h1, h2⟩ | ⟨g, cap, cur, hv, -, hh, -⟩
  · omega
  · subst hv
    refine ⟨g, cap, rfl, (Array.getElem?_eq_some_iff.1 hh).1, ?_⟩
    have h0 := flat_get c 1 hc L j 0 hj (by decide)
    rw [Nat.mul_one, Nat.add_zero] at h0
    exact (h.cellAt j (by omega)).trans h0
/-- What the outer loop keeps. -/
structure LnO (l : List Ev) (P : List Pd) (f t : Int) (W : World) (A : List Had) (vo : Value) (wr : World) : Prop where
  own : wr.ownsRow W.heap.size 39 8 vo (linesH l P f t A).length ((linesH l P f t A).flatMap lnCells)
  b : Below W.heap.size W wr
  ok : ∀ h ∈ A, (feeH l P f t h).2 = 0
/-- A version's box. -/
def LnBox (wa : World) (cat : ByteArray) (y : Value) (w : World) : Prop := ∃ g, y = .pointer (some ⟨g, 0, none⟩) ∧ wa.heap.size ≤ g ∧ ∃ (s1 : ByteArray) (j1 j2 : Int) (pb : Bool) (ab : Option Addr) (nb cb : Nat), w.heap[g]? = some (Obj.cells #[.string s1, .int .i64 j1, .int .i64 j2, .string cat, .bool pb, .slice ab nb cb] 72)
def lnPhi (wa : World) (ve vp vs vn : Value) (i j sb si gn : Nat) (s : Int) (n cat : ByteArray) (f t : Int) : Nat → (Nat → Value) → World → Prop
  | 0, v, _ => v 0 = ve
  | 1, v, _ => v 1 = vp
  | 2, v, _ => v 2 = vs
  | 3, v, _ => v 3 = .int .i64 i
  | 4, v, _ => v 4 = .pointer (some ⟨sb, si, none⟩)
  | 5, v, _ => v 5 = .int .i64 s
  | 6, v, _ => v 6 = vn
  | 7, v, _ => v 7 = .int .i64 j
  | 8, v, _ => v 8 = .pointer (some ⟨gn, j, none⟩)
  | 9, v, _ => v 9 = .string n
  | 10, v, _ => v 10 = .agg #[.int .i64 f, .int .i64 t]
  | 11, v, _ => ∃ (s1 : ByteArray) (j1 j2 : Int) (pb : Bool) (ab : Option Addr) (nb cb : Nat) (va : Value) (b : Bool), v 11 = .tuple #[.agg #[.string s1, .int .i64 j1, .int .i64 j2, .string cat, .bool pb, .slice ab nb cb], va, .bool b]
  | 12, v, _ => ∃ (s1 : ByteArray) (j1 j2 : Int) (pb : Bool) (ab : Option Addr) (nb cb : Nat) (va : Value) (b : Bool), v 12 = .tuple #[.agg #[.string s1, .int .i64 j1, .int .i64 j2, .string cat, .bool pb, .slice ab nb cb], va, .bool b]
  | 13, v, _ => ∃ (s1 : ByteArray) (j1 j2 : Int) (pb : Bool) (ab : Option Addr) (nb cb : Nat), v 13 = .agg #[.string s1, .int .i64 j1, .int .i64 j2, .string cat, .bool pb, .slice ab nb cb]
  | 16, v, w => ∃ g cs, v 16 = .pointer (some ⟨g, 0, none⟩) ∧ wa.heap.size ≤ g ∧ w.heap[g]? = some (Obj.cells cs 72) ∧ cs.size = 6
  | 17, v, w => LnBox wa cat (v 16) w
  | _, _, _ => True
theorem lnPhi_loc {wa : World} {ve vp vs vn : Value} {i j sb si gn : Nat} {s : Int} {n cat : ByteArray} {f t : Int} : ∀ (k m : Nat) (x : Value) (v : Nat → Value) (w : World), k ≠ m → (k = 17 → m ≠ 16) → lnPhi wa ve vp vs vn i j sb si gn s n cat f t k v w → lnPhi wa ve vp vs vn i j sb si gn s n cat f t k (updV v m x) w
  | 0, m, x, v, w, hk, _, h => by
    have e : updV v m x 0 = v 0 := if_neg hk
    exact e.trans h
  | 1, m, x, v, w, hk, _, h => by
    have e : updV v m x 1 = v 1 := if_neg hk
    exact e.trans h
  | 2, m, x, v, w, hk, _, h => by
    have e : updV v m x 2 = v 2 := if_neg hk
    exact e.trans h
  | 3, m, x, v, w, hk, _, h => by
    have e : updV v m x 3 = v 3 := if_neg hk
    exact e.trans h
  | 4, m, x, v, w, hk, _, h => by
    have e : updV v m x 4 = v 4 := if_neg hk
    exact e.trans h
  | 5, m, x, v, w, hk, _, h => by
    have e : updV v m x 5 = v 5 := if_neg hk
    exact e.trans h
  | 6, m, x, v, w, hk, _, h => by
    have e : updV v m x 6 = v 6 := if_neg hk
    exact e.trans h
  | 7, m, x, v, w, hk, _, h => by
    have e : updV v m x 7 = v 7 := if_neg hk
    exact e.trans h
  | 8, m, x, v, w, hk, _, h => by
    have e : updV v m x 8 = v 8 := if_neg hk
    exact e.trans h
  | 9, m, x, v, w, hk, _, h => by
    have e : updV v m x 9 = v 9 := if_neg hk
    exact e.trans h
  | 10, m, x, v, w, hk, _, h => by
    have e : updV v m x 10 = v 10 := if_neg hk
    exact e.trans h
  | 11, m, x, v, w, hk, _, ⟨s1, j1, j2, pb, ab, nb, cb, va, b, h⟩ => by
    have e : updV v m x 11 = v 11 := if_neg hk
    exact ⟨s1, j1, j2, pb, ab, nb, cb, va, b, e.trans h⟩
  | 12, m, x, v, w, hk, _, ⟨s1, j1, j2, pb, ab, nb, cb, va, b, h⟩ => by
    have e : updV v m x 12 = v 12 := if_neg hk
    exact ⟨s1, j1, j2, pb, ab, nb, cb, va, b, e.trans h⟩
  | 13, m, x, v, w, hk, _, ⟨s1, j1, j2, pb, ab, nb, cb, h⟩ => by
    have e : updV v m x 13 = v 13 := if_neg hk
    exact ⟨s1, j1, j2, pb, ab, nb, cb, e.trans h⟩
  | 16, m, x, v, w, hk, _, ⟨g, cs, h, h2⟩ => by
    have e : updV v m x 16 = v 16 := if_neg hk
    exact ⟨g, cs, e.trans h, h2⟩
  | 17, m, x, v, w, hk, hd, ⟨g, h, h2⟩ => by
    have e : updV v m x 16 = v 16 := if_neg (Ne.symm (hd rfl))
    exact ⟨g, e.trans h, h2⟩
  | 14, _, _, _, _, _, _, _ => trivial
  | 15, _, _, _, _, _, _, _ => trivial
  | _ + 18, _, _, _, _, _, _, _ => trivial
theorem lnPhi_stays {wa : World} {ve vp vs vn : Value} {i j sb si gn : Nat} {s : Int} {n cat : ByteArray} {f t : Int} {w1 w2 : World} (hb : Below w1.heap.size w1 w2) : ∀ k v, lnPhi wa ve vp vs vn i j sb si gn s n cat f t k v w1 → lnPhi wa ve vp vs vn i j sb si gn s n cat f t k v w2
  | 0, _, h => h
  | 1, _, h => h
  | 2, _, h => h
  | 3, _, h => h
  | 4, _, h => h
  | 5, _, h => h
  | 6, _, h => h
  | 7, _, h => h
  | 8, _, h => h
  | 9, _, h => h
  | 10, _, h => h
  | 11, _, h => h
  | 12, _, h => h
  | 13, _, h => h
  | 16, _, ⟨g, cs, h1, h2, h3, h4⟩ => ⟨g, cs, h1, h2, (hb.block _ (Array.getElem?_eq_some_iff.1 h3).1).trans h3, h4⟩
  | 17, _, ⟨g, h1, h2, s1, j1, j2, pb, ab, nb, cb, h3⟩ => ⟨g, h1, h2, s1, j1, j2, pb, ab, nb, cb, (hb.block _ (Array.getElem?_eq_some_iff.1 h3).1).trans h3⟩
  | 14, _, _ => trivial
  | 15, _, _ => trivial
  | _ + 18, _, _ => trivial
theorem lnPhi_store {wa : World} {ve vp vs vn : Value} {i j sb si gn : Nat} {s : Int} {n cat : ByteArray} {f t : Int} {w1 w2 : World} {v : Nat → Value} {g : Nat} {cs' : Array Value} (e16 : v 16 = .pointer (some ⟨g, 0, none⟩)) (hg : wa.heap.size ≤ g) (h2 : w2.heap[g]? = some (Obj.cells cs' 72)) (hs : cs'.size = 6) (hbox : LnBox wa cat (v 16) w2) : ∀ k, lnPhi wa ve vp vs vn i j sb si gn s n cat f t k v w1 → lnPhi wa ve vp vs vn i j sb si gn s n cat f t k v w2
  | 0, h => h
  | 1, h => h
  | 2, h => h
  | 3, h => h
  | 4, h => h
  | 5, h => h
  | 6, h => h
  | 7, h => h
  | 8, h => h
  | 9, h => h
  | 10, h => h
  | 11, h => h
  | 12, h => h
  | 13, h => h
  | 16, _ => ⟨g, cs', e16, hg, h2, hs⟩
  | 17, _ => hbox
  | 14, _ => trivial
  | 15, _ => trivial
  | _ + 18, _ => trivial
def lnPhi2 (vo vs vn : Value) (i j sb si gn gp : Nat) (s : Int) (n cat : ByteArray) (fe : Int) : Nat → Value → World → Prop
  | 0, v, _ => v = vo
  | 1, v, _ => v = vs
  | 2, v, _ => v = .int .i64 i
  | 3, v, _ => v = .pointer (some ⟨sb, si, none⟩)
  | 4, v, _ => v = .int .i64 s
  | 5, v, _ => v = vn
  | 6, v, _ => v = .int .i64 j
  | 7, v, _ => v = .pointer (some ⟨gn, j, none⟩)
  | 8, v, _ => v = .string n
  | 9, v, _ => v = .pointer (some ⟨gp, 3, none⟩)
  | 10, v, _ => v = .string cat
  | 11, v, _ => v = .int .i64 fe
  | 12, v, _ => v = .agg #[.int .i64 2, .int .i64 s, .string n, .string cat, .int .i64 1, .int .i64 0, .int .i64 fe, .int .i64 0]
  | 13, v, w => ∃ g, v = .slice (some ⟨g, 0, none⟩) 1 1 ∧ w.heap[g]? = some (Obj.cells #[.int .i64 2, .int .i64 s, .string n, .string cat, .int .i64 1, .int .i64 0, .int .i64 fe, .int .i64 0] 39)
  | _, _, _ => True
theorem lnPhi2_stays {vo vs vn : Value} {i j sb si gn gp : Nat} {s : Int} {n cat : ByteArray} {fe : Int} {w1 w2 : World} (hb : Below w1.heap.size w1 w2) : ∀ k y, lnPhi2 vo vs vn i j sb si gn gp s n cat fe k y w1 → lnPhi2 vo vs vn i j sb si gn gp s n cat fe k y w2
  | 0, _, h => h
  | 1, _, h => h
  | 2, _, h => h
  | 3, _, h => h
  | 4, _, h => h
  | 5, _, h => h
  | 6, _, h => h
  | 7, _, h => h
  | 8, _, h => h
  | 9, _, h => h
  | 10, _, h => h
  | 11, _, h => h
  | 12, _, h => h
  | 13, _, ⟨g, h1, h2⟩ => ⟨g, h1, (hb.block _ (Array.getElem?_eq_some_iff.1 h2).1).trans h2⟩
  | _ + 14, _, _ => trivial
theorem ln_block {w : World} {g : Nat} {cs : Array Value} {t : TypeId} {fr : Nat × Nat} (hg : w.heap[g]? = some (.cells cs t fr)) (x : Ln) (h : cs = (lnCells x).toArray) : RecAt lnCells 8 w (.slice (some ⟨g, 0, none⟩) 1 1) [x] := by
  subst h
  refine ⟨_, 1, rfl, Nat.le_refl _, ⟨by decide, fun h => by cases h⟩, fun _ => ⟨g, 0, rfl, (Array.getElem?_eq_some_iff.1 hg).1, fun i hi => ?_⟩⟩
  obtain rfl : i = 0 := by simpa using hi
  intro j hj
  rw [cell_of_row _ _ _ _ _ _ hg]
  simp

set_option maxRecDepth 100000 in
set_option maxHeartbeats 25600000 in
theorem rlines_calls (ve vp : Value) (l : List Ev) (P : List Pd) (a f t : Int) (w : World) (he : EvsAt w ve l) (hp : PdsAt w vp P) (hl : l.length ≤ 1000) (hf : FewP P) (hr : OkRun l) :
    Calls Tryz.prog 16 #[ve, vp, .int .i64 a, .agg #[.int .i64 f, .int .i64 t]] w (LnRes l P a f t w) := by
  obtain ⟨W, hW⟩ : ∃ W, W = w.alloc (Obj.cells #[Value.int .i64 f, Value.int .i64 t] 25) := ⟨_, rfl⟩
  have hw0 : Below w.heap.size w W := by rw [hW]; exact (Below.refl _ _).alloc (Nat.le_refl _) _
  have rW : W.heap[w.heap.size]? = some (Obj.cells #[Value.int .i64 f, Value.int .i64 t] 25) := by rw [hW]; exact heap_alloc_new _ _
  have hzW : w.heap.size < W.heap.size := (Array.getElem?_eq_some_iff.1 rW).1
  have HM := Lib.hid (show ∀ w', Below W.heap.size W w' → w'.cell? ⟨w.heap.size, 0, none⟩ = some (.int .i64 f) ∧ w'.cell? ⟨w.heap.size, 1, none⟩ = some (.int .i64 t) from fun w' hb => by
    have q := (hb.block _ hzW).trans rW
    exact ⟨cell_of_row w' _ 0 _ _ _ q, cell_of_row w' _ 1 _ _ _ q⟩)
  have HW := Lib.hid hW
  have Hw0 := Lib.hid hw0
  have Hv := Lib.hid (rvalid_calls f t W)
  have HVr := Lib.hid (fun (s : Int) (n : ByteArray) Y (hY : Below W.heap.size W Y) => version_calls ve vp l P s n f t Y ((he.below hw0).below hY) ((hp.below hw0).below hY) hl hf hr)
  have HFee := Lib.hid (fun (s : Int) (n : ByteArray) Y (hY : Below W.heap.size W Y) => rfee_calls ve vp l P s n f t Y ((he.below hw0).below hY) ((hp.below hw0).below hY) hl hf hr)
  have HSu := Lib.hid (fun Y (hY : Below W.heap.size W Y) => subs35_calls ve l a Y ((he.below hw0).below hY) hr hl)
  have HPr := Lib.hid (fun (s : Int) Y (hY : Below W.heap.size W Y) => prods35_calls ve l s Y ((he.below hw0).below hY) hl)
  obtain ⟨av, cap, rfl, -, -⟩ := rec_shape he.1
  obtain ⟨pav, pcap, rfl, -, -, -⟩ := hp
  obtain ⟨m0, m1⟩ := HM.out W (Below.refl _ _)
  clear hW rW hw0 he hr
  cases hv : validB f t with
  | false =>
    rw [hv] at Hv
    have HF := Lib.hid (fun w' hb => LnRes.bad (l := l) (P := P) (a := a) (w := w) (w' := w') hv hb)
    clear hv
    go_enter Tryz.func16, Tryz.ntmps16
    go_upto_region 1 with (fail)
    rw [← HW.out]
    go_wp2_with fail
    refine Hv.out.mono ?_
    rintro e w1 ⟨rfl, hb1⟩
    have HR := Lib.hid (HF.out w1 (Hw0.out.trans (hb1.mono Hw0.out.size)))
    clear m0 m1 hb1
    go_wp2
    go_ret2
    exact HR.out
  | true =>
    rw [hv] at Hv
    have HVt := Lib.hid hv
    have HFe := Lib.hid (show ∀ (s : Int) (n : ByteArray), feeV l P s n f t = feeH l P f t (s, n) from fun s n => by unfold feeV feeH; rw [if_pos hv])
    clear hv
    go_enter Tryz.func16, Tryz.ntmps16
    go_upto_region 1 with (fail)
    rw [← HW.out]
    go_wp2_with fail
    refine Hv.out.mono ?_
    rintro e w1 ⟨rfl, hb1⟩
    have Hb1 := Lib.hid hb1
    have HA1 := Lib.hid (HSu.out w1 hb1)
    clear m0 m1 hb1 HSu Hv
    go_wp2_with fail
    refine HA1.out.mono ?_
    rintro e w2 ⟨vO, O, rfl, hO, hown, hOl, hb2⟩
    obtain ⟨ah, ch, rfl, hhl, hhc⟩ := own_shape hown
    unfold maxLen at hhc
    have HRc := Lib.hid (RecAt.own (c := icCells) (sz := 1) (fun _ => rfl) hown)
    have HH := Lib.hid (hadO_all hO)
    have HB2 := Lib.hid (Hb1.out.trans (hb2.mono Hb1.out.size))
    have HLb := Lib.hid (show ∀ k ≤ O.length, (hadO l O k).length ≤ 1000000 from fun k hk => by
      have h1 := hadO_len l O k hk
      have h2 : k * l.length ≤ 1000 * 1000 := Nat.mul_le_mul (by omega) hl
      omega)
    have HLn := Lib.hid (linesH_len l P f t)
    clear hO hown hb2 HA1
    go_wp2_with fail
    go_loopg [10, 12] O.length (fun g vo i wr => ∃ k : Nat, k + g = O.length ∧ i = .int .i64 k ∧ LnO l P f t w2 (hadO l O k) vo wr)
    case atStart => exact ⟨0, by omega, rfl, World.ownsRow_nil _ _ _ _, Below.refl _ _, fun h hh => by cases hh⟩
    case round =>
      obtain ⟨wo, rfl⟩ : ∃ wo : World, wo = wr := ⟨_, rfl⟩
      obtain ⟨k, hkg, rfl, hR⟩ := hrel
      have HR := Lib.hid hR
      clear hR
      obtain ⟨ao, co, rfl, hc1, hc2⟩ := own_shape HR.out.own
      cases gk with
      | zero =>
        have hkz : ¬ (k : Int) < (O.length : Int) := by omega
        have hke : k = O.length := by omega
        subst hke
        have HRf := Lib.hid (LnRes.good (w := w) (w' := wo) HVt.out HH.out (HLb.out _ (Nat.le_refl _)) (errL_mem _ HR.out.ok) (RecAt.own (c := lnCells) (sz := 8) (fun _ => rfl) HR.out.own) (Hw0.out.trans ((HB2.out.trans (HR.out.b.mono HB2.out.size)).mono Hw0.out.size)))
        go_wp2
        go_ret2
        exact HRf.out
      | succ g0 =>
        have hkl : k < O.length := by omega
        have hk1 : (k : Int) < (O.length : Int) := by omega
        have hk0 : (0 : Int) ≤ (k : Int) := Int.natCast_nonneg _
        obtain ⟨a2, c2, e2, -, -, hx⟩ := HRc.out
        cases e2
        obtain ⟨sb, so, rfl, hB, hx⟩ := hx (by intro e; rw [e] at hkl; cases hkl)
        have HXs := Lib.hid (show ∀ Y, Below w2.heap.size w2 Y → Y.cell? ⟨sb, so + k, none⟩ = some (.int .i64 O[k]) from fun Y hY => by
          have h := hx k hkl 0 (by decide)
          rw [Nat.mul_one, Nat.add_zero] at h
          exact (hY.cell (p := ⟨sb, _, none⟩) hB).trans h)
        have hsbW : sb < w2.heap.size := hB
        clear hx hB
        have HSucc := Lib.hid (hadO_succ l O k hkl)
        obtain ⟨BB, hBB⟩ := hadO_cut l O k
        have HCut := Lib.hid hBB
        clear hBB
        have HHb := Lib.hid (HLb.out (k + 1) hkl)
        have HRel := Lib.hid (fun (vo : Value) (wx : World) (h : LnO l P f t w2 (hadO l O (k + 1)) vo wx) => (⟨k + 1, by omega, by go_num, h⟩ : ∃ k' : Nat, k' + g0 = O.length ∧ Value.int .i64 ((k : Int) + 1) = .int .i64 k' ∧ LnO l P f t w2 (hadO l O k') vo wx))
        have HWo := Lib.hid (HB2.out.trans (HR.out.b.mono HB2.out.size))
        have HC1 := Lib.hid (HPr.out O[k] wo HWo.out)
        have HPk := Lib.hid (prodsL_ok l O[k])
        have HPl := Lib.hid (prodsL_len l O[k])
        generalize O[k] = s at *
        generalize hadO l O (k + 1) = A1 at *
        generalize hadO l O k = A at *
        have x0 := HXs.out wo HR.out.b
        go_upto_region 8 with (fail)
        go_wp2_with fail
        refine HC1.out.mono ?_
        rintro e w3 ⟨vN, N, rfl, hN, hownN, hNl, hb3⟩
        obtain ⟨an, cn, rfl, hn1, hn2⟩ := own_shape hownN
        unfold maxLen at hn2
        have HNe := Lib.hid (show prodsL l s = N from HPk.out.one hN)
        rw [HNe.out] at HSucc
        have HB3 := Lib.hid (HR.out.b.trans (hb3.mono HR.out.b.size))
        have HON := Lib.hid (own_down hownN HR.out.b.size)
        have HOW := Lib.hid (ownsRow_below HR.out.own hb3)
        have HAok := Lib.hid HR.out.ok
        clear hN hownN hb3 x0 HC1 HPk HPl HR
        go_wp2_with fail
        go_loopg [10, 14] N.length (fun g vo i wr => ∃ j : Nat, j + g = N.length ∧ i = .int .i64 j ∧ LnO l P f t w2 (A ++ (N.take j).map fun n => (s, n)) vo wr ∧ wr.ownsRow w2.heap.size 9 1 (.slice an N.length cn) N.length (N.flatMap strCells))
        case atStart => exact ⟨0, by omega, rfl, ⟨by rw [List.take_zero, List.map_nil, List.append_nil]; exact HOW.out, HB3.out, by rw [List.take_zero, List.map_nil, List.append_nil]; exact HAok.out⟩, HON.out⟩
        case round =>
          obtain ⟨wm, rfl⟩ : ∃ wm : World, wm = wr := ⟨_, rfl⟩
          obtain ⟨j, hjg, rfl, hR2, hN2⟩ := hrel
          have HR2 := Lib.hid hR2
          have HN2 := Lib.hid hN2
          clear hR2
          obtain ⟨am, cm, rfl, hm1, hm2⟩ := own_shape HR2.out.own
          unfold maxLen at hm2
          cases gk with
          | zero =>
            have hjz : ¬ (j : Int) < (N.length : Int) := by omega
            have hje : j = N.length := by omega
            subst hje
            have h9 := HR2.out
            rw [List.take_length] at h9
            have HRf := Lib.hid (HRel.out (.slice am (linesH l P f t (A ++ N.map fun n => (s, n))).length cm) wm (by rw [HSucc.out]; exact h9))
            clear hN2 h9
            go_wp2
            go_roundg g0
            case measure => omega
            case rel =>
              obtain ⟨k', h1, h2, h3⟩ := HRf.out
              exact ⟨k', h1, by first | exact h2 | (rw [← h2]; go_num), h3⟩
          | succ n0 =>
            have hjl : j < N.length := by omega
            have hj1 : (j : Int) < (N.length : Int) := by omega
            have hj0 : (0 : Int) ≤ (j : Int) := Int.natCast_nonneg _
            obtain ⟨gn, cn2, e2, hgn, hcn⟩ := own_get (c := strCells) (fun _ => rfl) hN2 j hjl
            simp only [Value.slice.injEq] at e2
            obtain ⟨rfl, -, rfl⟩ := e2
            replace hcn : wm.cell? ⟨gn, j, none⟩ = some (.string N[j]) := hcn
            have HAp := Lib.hid (show A ++ (N.take (j + 1)).map (fun n => (s, n)) = (A ++ (N.take j).map fun n => (s, n)) ++ [(s, N[j])] by
              rw [List.take_succ_eq_append_getElem hjl, List.map_append, List.append_assoc]; rfl)
            have HSpl := Lib.hid (show ∃ B, hadO l O O.length = (A ++ (N.take j).map fun n => (s, n)) ++ (s, N[j]) :: B from ⟨(N.drop (j + 1)).map (fun n => (s, n)) ++ BB, by
              have e : N = N.take j ++ (N[j] :: N.drop (j + 1)) := by rw [← List.drop_eq_getElem_cons hjl, List.take_append_drop]
              have e3 : N.map (fun n => ((s, n) : Had)) = (N.take j).map (fun n => (s, n)) ++ ((s, N[j]) :: (N.drop (j + 1)).map fun n => (s, n)) := by
                have h := congrArg (fun z : List ByteArray => z.map fun n => ((s, n) : Had)) e
                simpa only [List.map_append, List.map_cons] using h
              rw [HCut.out, HSucc.out, e3]
              simp only [List.append_assoc, List.cons_append]⟩)
            have hLb : (linesH l P f t (A ++ (N.take j).map fun n => (s, n))).length + 1 ≤ 1000000 := by
              have h1 := HLn.out (A ++ (N.take j).map fun n => (s, n))
              have h2 := HHb.out
              rw [HSucc.out] at h2
              simp only [List.length_append, List.length_map, List.length_take] at h1 h2
              omega
            have hon := linesH_one l P f t (A ++ (N.take j).map fun n => (s, n)) (s, N[j])
            rw [← HAp.out] at hon
            have HNo := Lib.hid hon.1
            have HYe := Lib.hid hon.2
            have HLnE := Lib.hid (show lnH l P f t (s, N[j]) = ⟨s, N[j], catO (verC l P s N[j] f t), (feeH l P f t (s, N[j])).1⟩ from rfl)
            have HRel2 := Lib.hid (fun (vo : Value) (wx : World) (h : LnO l P f t w2 (A ++ (N.take (j + 1)).map fun n => (s, n)) vo wx) (h2 : wx.ownsRow w2.heap.size 9 1 (.slice (some ⟨gn, 0, none⟩) N.length cn) N.length (N.flatMap strCells)) => (⟨j + 1, by omega, by go_num, h, h2⟩ : ∃ j' : Nat, j' + n0 = N.length ∧ Value.int .i64 ((j : Int) + 1) = .int .i64 j' ∧ LnO l P f t w2 (A ++ (N.take j').map fun n => (s, n)) vo wx ∧ wx.ownsRow w2.heap.size 9 1 (.slice (some ⟨gn, 0, none⟩) N.length cn) N.length (N.flatMap strCells)))
            have HOk2 := Lib.hid (show (feeH l P f t (s, N[j])).2 = 0 → ∀ h ∈ A ++ (N.take (j + 1)).map (fun n => (s, n)), (feeH l P f t h).2 = 0 from fun h0 h hh => by
              rw [HAp.out] at hh
              rcases List.mem_append.1 hh with hh | hh
              · exact HR2.out.ok h hh
              · rw [List.mem_singleton] at hh
                subst hh; exact h0)
            have HErr := Lib.hid (show (feeH l P f t (s, N[j])).2 ≠ 0 → errL (fun h => (feeH l P f t h).2) (hadO l O O.length) = (feeH l P f t (s, N[j])).2 from fun hn => by
              obtain ⟨B, hB⟩ := HSpl.out
              rw [hB]
              exact errL_split _ _ _ HR2.out.ok hn)
            have HWm := Lib.hid (HB2.out.trans (HR2.out.b.mono HB2.out.size))
            have HFe1 := Lib.hid (HFe.out s N[j])
            have HFc := Lib.hid (fun Y (hY : Below wm.heap.size wm Y) => HFee.out s N[j] Y (HWm.out.trans (hY.mono HWm.out.size)))
            have HVc := Lib.hid (fun Y (hY : Below wm.heap.size wm Y) => HVr.out s N[j] Y (HWm.out.trans (hY.mono HWm.out.size)))
            rw [HFe1.out] at HFc
            generalize lnH l P f t (s, N[j]) = ln at *
            generalize feeH l P f t (s, N[j]) = fe at *
            generalize verC l P s N[j] f t = ov at *
            have HRm := Lib.hid HR2.out.b
            have HRo := Lib.hid HR2.out.own
            generalize A ++ (N.take (j + 1)).map (fun n => (s, n)) = A3 at *
            generalize hLk : linesH l P f t (A ++ (N.take j).map fun n => (s, n)) = LK at *
            have HLk := Lib.hid hLk
            clear hLk HSpl hon HFe1 HR2 HAp
            generalize N[j] = nm at *
            obtain ⟨fe1, fe2⟩ := fe
            dsimp only at HLnE HNo HYe HErr HOk2
            have HFc := Lib.hid (show ∀ Y, Below wm.heap.size wm Y → Calls Tryz.prog 14 #[.slice av l.length cap, .slice pav P.length pcap, .int .i64 s, .string nm, .agg #[.int .i64 f, .int .i64 t]] Y fun e w' => e = .returned (.tuple #[.int .i64 fe1, .int .i64 fe2]) ∧ Below Y.heap.size Y w' from HFc.out)
            have HAll := Lib.hid (show ∀ Y, Below wm.heap.size wm Y → Y.cell? ⟨sb, so + k, none⟩ = some (.int .i64 s) ∧ Y.cell? ⟨gn, j, none⟩ = some (.string nm) ∧ Y.cell? ⟨w.heap.size, 0, none⟩ = some (.int .i64 f) ∧ Y.cell? ⟨w.heap.size, 1, none⟩ = some (.int .i64 t) from fun Y hY => by
              obtain ⟨p0, p1⟩ := HM.out Y (HWm.out.trans (hY.mono HWm.out.size))
              exact ⟨HXs.out Y (HRm.out.trans (hY.mono HRm.out.size)), (hY.cell (p := ⟨gn, _, none⟩) hgn).trans hcn, p0, p1⟩)
            have hrr := Below.refl wm.heap.size wm
            have f0 := fun p : BelowOf wm => (HAll.out p.w p.h).1
            have f1 := fun p : BelowOf wm => (HAll.out p.w p.h).2.1
            have f2 := fun p : BelowOf wm => (HAll.out p.w p.h).2.2.1
            have f3 := fun p : BelowOf wm => (HAll.out p.w p.h).2.2.2
            clear hcn hN2
            go_upto_region 12 with (fail)
            refine wp_region_quiet_below hrr (by kernel_rfl) (by kernel_rfl) ?_
            repeat (go_big_quiet_step (first | (go_at_call 14; refine calls_below_of (HFc.out _ (BelowOf.h _)) (fun e w' h => h))))
            refine wpQuiet_nil ?_
            intro wa hw'
            have hYa : Below wm.heap.size wm wa := by obtain ⟨pq, rfl⟩ := hw'; exact pq.h
            clear hw' f0 f1 f2 f3 hrr
            have Hba := Lib.hid hYa
            have HBA := Lib.hid (HRm.out.trans (hYa.mono HRm.out.size))
            have HOA := Lib.hid (ownsRow_below HRo.out hYa)
            have HNA := Lib.hid (ownsRow_below HN2.out hYa)
            clear hYa
            by_cases he2 : fe2 = 0
            · have k2 : (fe2 != 0) = false := bne_eq_false_iff_eq.2 he2
              have HOk3 := Lib.hid (HOk2.out he2)
              clear he2 HErr HOk2
              by_cases he1 : fe1 = 0
              · have k3 : (fe1 != 0) = false := bne_eq_false_iff_eq.2 he1
                have HE := Lib.hid (HNo.out he1)
                have HRf := Lib.hid (HRel2.out (.slice am LK.length cm) wa ⟨by rw [HE.out]; exact HOA.out, HBA.out, HOk3.out⟩ HNA.out)
                clear he1 HNo HYe
                go_wp2
                go_roundg n0
                case measure => omega
                case rel =>
                  obtain ⟨k', h1, h2, h3⟩ := HRf.out
                  exact ⟨k', h1, by first | exact h2 | (rw [← h2]; go_num), h3⟩
              · have k3 : (fe1 != 0) = true := bne_iff_ne.2 he1
                have HE := Lib.hid (HYe.out he1)
                have HAw := Lib.hid (show ∀ Y, Below wa.heap.size wa Y → _ from fun Y hY => HAll.out Y (Hba.out.trans (hY.mono Hba.out.size)))
                have HVa := Lib.hid (show ∀ Y, Below wa.heap.size wa Y → _ from fun Y hY => HVc.out Y (Hba.out.trans (hY.mono Hba.out.size)))
                clear he1 HNo HYe
                go_upto_region 16 with (fail)
                refine wp_region_freeA (fun w' => Below wa.heap.size wa w') (lnPhi wa (.slice av l.length cap) (.slice pav P.length pcap) (.slice (some ⟨sb, so, none⟩) O.length ch) (.slice (some ⟨gn, 0, none⟩) N.length cn) k j sb (so + k) gn s nm (catO ov) f t) (by kernel_rfl) (by kernel_rfl) ?_ (Below.refl _ _).drew ?_ ?_
                · intro k1 i1 x v w' hki hd h
                  refine lnPhi_loc k1 i1 x v w' hki (fun e1 e2 => ?_) h
                  subst e1; subst e2
                  exact absurd hd (ne_false_of_eq_true (by kernel_rfl))
                · generalize hfr : (fun v : Nat → Value => _) = fr
                  simp only [List.map_cons, List.map_nil, putsL, List.setIfInBounds_toArray, List.set_cons_succ, List.set_cons_zero, Nat.zero_add, Nat.reduceAdd] at hfr
                  simp only [FreeOpsA]
                  refine ⟨?_, ?_, ?_, ?_, ?_, ?_, ?_, ?_, ?_, ?_, ?_, ?_, ?_, ?_, ?_, ?_, ?_, ?_, ?_, ?_, trivial⟩
                  · intro v w5 hC hd K hK
                    rw [← hfr] at hK ⊢
                    go_simp
                    exact hK _ _ hC (fun j1 => lnPhi_stays (Below.refl _ _) j1 _) rfl
                  · intro v w5 hC hd K hK
                    rw [← hfr] at hK ⊢
                    go_simp
                    exact hK _ _ hC (fun j1 => lnPhi_stays (Below.refl _ _) j1 _) rfl
                  · intro v w5 hC hd K hK
                    rw [← hfr] at hK ⊢
                    go_simp
                    exact hK _ _ hC (fun j1 => lnPhi_stays (Below.refl _ _) j1 _) rfl
                  · intro v w5 hC hd K hK
                    rw [← hfr] at hK ⊢
                    go_simp
                    exact hK _ _ hC (fun j1 => lnPhi_stays (Below.refl _ _) j1 _) rfl
                  · intro v w5 hC hd K hK
                    obtain ⟨f2, f3, -⟩ := hd
                    have e2 : v 2 = _ := f2
                    have e3 : v 3 = _ := f3
                    rw [← hfr] at hK ⊢
                    simp only [e2, e3] at hK ⊢
                    go_simp
                    exact hK _ _ hC (fun j1 => lnPhi_stays (Below.refl _ _) j1 _) rfl
                  · intro v w5 hC hd K hK
                    obtain ⟨f4, -⟩ := hd
                    have e4 : v 4 = _ := f4
                    obtain ⟨p0, p1, p2, p3⟩ := HAw.out w5 hC
                    rw [← hfr] at hK ⊢
                    simp only [e4] at hK ⊢
                    go_simp
                    exact hK _ _ hC (fun j1 => lnPhi_stays (Below.refl _ _) j1 _) rfl
                  · intro v w5 hC hd K hK
                    rw [← hfr] at hK ⊢
                    go_simp
                    exact hK _ _ hC (fun j1 => lnPhi_stays (Below.refl _ _) j1 _) rfl
                  · intro v w5 hC hd K hK
                    rw [← hfr] at hK ⊢
                    go_simp
                    exact hK _ _ hC (fun j1 => lnPhi_stays (Below.refl _ _) j1 _) rfl
                  · intro v w5 hC hd K hK
                    obtain ⟨f6, f7, -⟩ := hd
                    have e6 : v 6 = _ := f6
                    have e7 : v 7 = _ := f7
                    rw [← hfr] at hK ⊢
                    simp only [e6, e7] at hK ⊢
                    go_simp
                    exact hK _ _ hC (fun j1 => lnPhi_stays (Below.refl _ _) j1 _) rfl
                  · intro v w5 hC hd K hK
                    obtain ⟨f8, -⟩ := hd
                    have e8 : v 8 = _ := f8
                    obtain ⟨p0, p1, p2, p3⟩ := HAw.out w5 hC
                    rw [← hfr] at hK ⊢
                    simp only [e8] at hK ⊢
                    go_simp
                    exact hK _ _ hC (fun j1 => lnPhi_stays (Below.refl _ _) j1 _) rfl
                  · intro v w5 hC hd K hK
                    obtain ⟨p0, p1, p2, p3⟩ := HAw.out w5 hC
                    rw [← hfr] at hK ⊢
                    go_simp
                    exact hK _ _ hC (fun j1 => lnPhi_stays (Below.refl _ _) j1 _) rfl
                  · intro v w5 hC hd K hK
                    obtain ⟨f0, f1, f5, f9, f10, -⟩ := hd
                    have e0 : v 0 = _ := f0
                    have e1 : v 1 = _ := f1
                    have e5 : v 5 = _ := f5
                    have e9 : v 9 = _ := f9
                    have e10 : v 10 = _ := f10
                    rw [← hfr] at hK ⊢
                    simp only [e0, e1, e5, e9, e10] at hK ⊢
                    go_simp
                    refine (HVa.out w5 hC).mono ?_
                    rintro e w3 ⟨vv, va, rfl, hvv, -, ⟨a3, n3, c3, rfl⟩, hb4⟩
                    obtain ⟨s1, j1, j2, pb, ab, nb, cb, rfl⟩ := ver_shape hvv
                    exact hK _ _ (hC.trans (hb4.mono hC.size)) (fun j1 => lnPhi_stays hb4 j1 _) ⟨s1, j1, j2, pb, ab, nb, cb, _, _, rfl⟩
                  · intro v w5 hC hd K hK
                    obtain ⟨s1, j1, j2, pb, ab, nb, cb, va, b, e11⟩ : ∃ (s1 : ByteArray) (j1 j2 : Int) (pb : Bool) (ab : Option Addr) (nb cb : Nat) (va : Value) (b : Bool), v 11 = .tuple #[.agg #[.string s1, .int .i64 j1, .int .i64 j2, .string (catO ov), .bool pb, .slice ab nb cb], va, .bool b] := hd.1
                    rw [← hfr] at hK ⊢
                    simp only [e11] at hK ⊢
                    go_simp
                    exact hK _ _ hC (fun j1 => lnPhi_stays (Below.refl _ _) j1 _) ⟨s1, j1, j2, pb, ab, nb, cb, va, b, rfl⟩
                  · intro v w5 hC hd K hK
                    obtain ⟨s1, j1, j2, pb, ab, nb, cb, va, b, e12⟩ : ∃ (s1 : ByteArray) (j1 j2 : Int) (pb : Bool) (ab : Option Addr) (nb cb : Nat) (va : Value) (b : Bool), v 12 = .tuple #[.agg #[.string s1, .int .i64 j1, .int .i64 j2, .string (catO ov), .bool pb, .slice ab nb cb], va, .bool b] := hd.1
                    rw [← hfr] at hK ⊢
                    simp only [e12] at hK ⊢
                    go_simp
                    exact hK _ _ hC (fun j1 => lnPhi_stays (Below.refl _ _) j1 _) ⟨s1, j1, j2, pb, ab, nb, cb, rfl⟩
                  · intro v w5 hC hd K hK
                    obtain ⟨s1, j1, j2, pb, ab, nb, cb, va, b, e12⟩ : ∃ (s1 : ByteArray) (j1 j2 : Int) (pb : Bool) (ab : Option Addr) (nb cb : Nat) (va : Value) (b : Bool), v 12 = .tuple #[.agg #[.string s1, .int .i64 j1, .int .i64 j2, .string (catO ov), .bool pb, .slice ab nb cb], va, .bool b] := hd.1
                    rw [← hfr] at hK ⊢
                    simp only [e12] at hK ⊢
                    go_simp
                    exact hK _ _ hC (fun j1 => lnPhi_stays (Below.refl _ _) j1 _) trivial
                  · intro v w5 hC hd K hK
                    obtain ⟨s1, j1, j2, pb, ab, nb, cb, va, b, e12⟩ : ∃ (s1 : ByteArray) (j1 j2 : Int) (pb : Bool) (ab : Option Addr) (nb cb : Nat) (va : Value) (b : Bool), v 12 = .tuple #[.agg #[.string s1, .int .i64 j1, .int .i64 j2, .string (catO ov), .bool pb, .slice ab nb cb], va, .bool b] := hd.1
                    rw [← hfr] at hK ⊢
                    simp only [e12] at hK ⊢
                    go_simp
                    exact hK _ _ hC (fun j1 => lnPhi_stays (Below.refl _ _) j1 _) trivial
                  · intro v w5 hC hd K hK
                    rw [← hfr] at hK ⊢
                    go_simp
                    exact hK _ _ (hC.alloc hC.size _) (fun j1 => lnPhi_stays ((Below.refl _ _).alloc (Nat.le_refl _) _) j1 _) ⟨_, _, rfl, hC.size, heap_alloc_new _ _, rfl⟩
                  · intro v w5 hC hd K hK
                    obtain ⟨f16, f13, -⟩ := hd
                    obtain ⟨s1, j1, j2, pb, ab, nb, cb, e13⟩ : ∃ (s1 : ByteArray) (j1 j2 : Int) (pb : Bool) (ab : Option Addr) (nb cb : Nat), v 13 = .agg #[.string s1, .int .i64 j1, .int .i64 j2, .string (catO ov), .bool pb, .slice ab nb cb] := f13
                    obtain ⟨g, cs, e16, hg, hrow, hcs⟩ : ∃ g cs, v 16 = .pointer (some ⟨g, 0, none⟩) ∧ wa.heap.size ≤ g ∧ w5.heap[g]? = some (Obj.cells cs 72) ∧ cs.size = 6 := f16
                    refine wp_store_row _ _ _ rfl g #[.string s1, .int .i64 j1, .int .i64 j2, .string (catO ov), .bool pb, .slice ab nb cb] (by rw [← hfr]; exact e16) (by rw [← hfr]; exact e13) 72 cs hrow (by kernel_rfl) hcs (by simp [Value.oneCell']) ?_
                    have hn := setRow_heap w5 g cs #[.string s1, .int .i64 j1, .int .i64 j2, .string (catO ov), .bool pb, .slice ab nb cb] _ _ hrow
                    have hbx : LnBox wa (catO ov) (v 16) (w5.setRow g #[.string s1, .int .i64 j1, .int .i64 j2, .string (catO ov), .bool pb, .slice ab nb cb]) := ⟨g, e16, hg, s1, j1, j2, pb, ab, nb, cb, hn⟩
                    exact hK undef _ (below_setRow1 hC hg _) (lnPhi_store e16 hg hn rfl hbx) hbx
                  · intro v w5 hC hd K hK
                    rw [← hfr] at hK ⊢
                    go_simp
                    exact hK _ _ hC (fun j1 => lnPhi_stays (Below.refl _ _) j1 _) trivial
                  · intro v w5 hC hd K hK
                    rw [← hfr] at hK ⊢
                    go_simp
                    exact hK _ _ hC (fun j1 => lnPhi_stays (Below.refl _ _) j1 _) trivial
                · intro v w5 hC hall
                  obtain ⟨gp, e16, hgp, s1, j1, j2, pb, ab, nb, cb, hrow⟩ : LnBox wa (catO ov) (v 16) w5 := hall 17 (by decide)
                  have hcat := cell_of_row w5 _ 3 _ _ _ hrow
                  have hgp5 : gp < w5.heap.size := (Array.getElem?_eq_some_iff.1 hrow).1
                  have HAb := Lib.hid (show ∀ Y, Below w5.heap.size w5 Y → Y.cell? ⟨sb, so + k, none⟩ = some (.int .i64 s) ∧ Y.cell? ⟨gn, j, none⟩ = some (.string nm) ∧ Y.cell? ⟨gp, 3, none⟩ = some (.string (catO ov)) from fun Y hY => by
                    obtain ⟨p0, p1, -, -⟩ := HAw.out Y (hC.trans (hY.mono hC.size))
                    exact ⟨p0, p1, (hY.cell (p := ⟨gp, _, none⟩) hgp5).trans hcat⟩)
                  have HBb := Lib.hid (HBA.out.trans (hC.mono HBA.out.size))
                  have HOb := Lib.hid (ownsRow_below HOA.out hC)
                  have HNb := Lib.hid (ownsRow_below HNA.out hC)
                  simp only [List.map_cons, List.map_nil, putsL, List.setIfInBounds_toArray, List.set_cons_succ, List.set_cons_zero, Nat.zero_add, Nat.reduceAdd]
                  simp only [e16]
                  generalize v 0 = y0, v 1 = y1, v 2 = y2, v 3 = y3, v 4 = y4, v 5 = y5, v 6 = y6, v 7 = y7, v 8 = y8, v 9 = y9, v 10 = y10, v 11 = y11, v 12 = y12, v 13 = y13, v 14 = y14, v 15 = y15, v 18 = y18, v 19 = y19
                  clear e16 hgp hrow hcat hall hC v HVa HAw
                  generalize catO ov = cat at *
                  go_upto_region 17 with (fail)
                  refine wp_region_free3 14 (fun w' => Below w5.heap.size w5 w') (lnPhi2 (.slice am LK.length cm) (.slice (some ⟨sb, so, none⟩) O.length ch) (.slice (some ⟨gn, 0, none⟩) N.length cn) k j sb (so + k) gn gp s nm cat fe1) (by kernel_rfl) (by kernel_rfl) (Below.refl _ _).drew ?_ ?_
                  · generalize hfr : (fun v : Nat → Value => _) = fr
                    simp only [List.take_succ_cons, List.take_zero, List.map_cons, List.map_nil, putsL, List.setIfInBounds_toArray, List.set_cons_succ, List.set_cons_zero, Nat.zero_add, Nat.reduceAdd] at hfr
                    simp only [List.take_succ_cons, List.take_zero, FreeHead]
                    refine ⟨?_, ?_, ?_, ?_, ?_, ?_, ?_, ?_, ?_, ?_, ?_, ?_, ?_, ?_, trivial⟩
                    · intro v w6 hC hd K hK
                      rw [← hfr] at hK ⊢
                      go_simp
                      exact hK _ _ hC (lnPhi2_stays (Below.refl _ _)) rfl
                    · intro v w6 hC hd K hK
                      rw [← hfr] at hK ⊢
                      go_simp
                      exact hK _ _ hC (lnPhi2_stays (Below.refl _ _)) rfl
                    · intro v w6 hC hd K hK
                      rw [← hfr] at hK ⊢
                      go_simp
                      exact hK _ _ hC (lnPhi2_stays (Below.refl _ _)) rfl
                    · intro v w6 hC hd K hK
                      obtain ⟨f1, f2, -⟩ := hd
                      have e1 : v 1 = _ := f1
                      have e2 : v 2 = _ := f2
                      rw [← hfr] at hK ⊢
                      simp only [e1, e2] at hK ⊢
                      go_simp
                      exact hK _ _ hC (lnPhi2_stays (Below.refl _ _)) rfl
                    · intro v w6 hC hd K hK
                      obtain ⟨f3, -⟩ := hd
                      have e3 : v 3 = _ := f3
                      obtain ⟨p0, p1, p2⟩ := HAb.out w6 hC
                      rw [← hfr] at hK ⊢
                      simp only [e3] at hK ⊢
                      go_simp
                      exact hK _ _ hC (lnPhi2_stays (Below.refl _ _)) rfl
                    · intro v w6 hC hd K hK
                      rw [← hfr] at hK ⊢
                      go_simp
                      exact hK _ _ hC (lnPhi2_stays (Below.refl _ _)) rfl
                    · intro v w6 hC hd K hK
                      rw [← hfr] at hK ⊢
                      go_simp
                      exact hK _ _ hC (lnPhi2_stays (Below.refl _ _)) rfl
                    · intro v w6 hC hd K hK
                      obtain ⟨f5, f6, -⟩ := hd
                      have e5 : v 5 = _ := f5
                      have e6 : v 6 = _ := f6
                      rw [← hfr] at hK ⊢
                      simp only [e5, e6] at hK ⊢
                      go_simp
                      exact hK _ _ hC (lnPhi2_stays (Below.refl _ _)) rfl
                    · intro v w6 hC hd K hK
                      obtain ⟨f7, -⟩ := hd
                      have e7 : v 7 = _ := f7
                      obtain ⟨p0, p1, p2⟩ := HAb.out w6 hC
                      rw [← hfr] at hK ⊢
                      simp only [e7] at hK ⊢
                      go_simp
                      exact hK _ _ hC (lnPhi2_stays (Below.refl _ _)) rfl
                    · intro v w6 hC hd K hK
                      rw [← hfr] at hK ⊢
                      go_simp
                      exact hK _ _ hC (lnPhi2_stays (Below.refl _ _)) rfl
                    · intro v w6 hC hd K hK
                      obtain ⟨f9, -⟩ := hd
                      have e9 : v 9 = _ := f9
                      obtain ⟨p0, p1, p2⟩ := HAb.out w6 hC
                      rw [← hfr] at hK ⊢
                      simp only [e9] at hK ⊢
                      go_simp
                      exact hK _ _ hC (lnPhi2_stays (Below.refl _ _)) rfl
                    · intro v w6 hC hd K hK
                      rw [← hfr] at hK ⊢
                      go_simp
                      exact hK _ _ hC (lnPhi2_stays (Below.refl _ _)) rfl
                    · intro v w6 hC hd K hK
                      obtain ⟨f4, f8, f10, f11, -⟩ := hd
                      have e4 : v 4 = _ := f4
                      have e8 : v 8 = _ := f8
                      have e10 : v 10 = _ := f10
                      have e11 : v 11 = _ := f11
                      rw [← hfr] at hK ⊢
                      simp only [e4, e8, e10, e11] at hK ⊢
                      go_simp
                      exact hK _ _ hC (lnPhi2_stays (Below.refl _ _)) rfl
                    · intro v w6 hC hd K hK
                      obtain ⟨f12, -⟩ := hd
                      have e12 : v 12 = _ := f12
                      rw [← hfr] at hK ⊢
                      simp only [e12] at hK ⊢
                      go_simp
                      exact hK _ _ (hC.alloc hC.size _) (lnPhi2_stays ((Below.refl _ _).alloc (Nat.le_refl _) _)) ⟨_, rfl, heap_alloc_new _ _⟩
                  · intro v w6 hC hall
                    obtain ⟨g, e13, hg⟩ : ∃ g, v 13 = .slice (some ⟨g, 0, none⟩) 1 1 ∧ w6.heap[g]? = some (Obj.cells #[.int .i64 2, .int .i64 s, .string nm, .string cat, .int .i64 1, .int .i64 0, .int .i64 fe1, .int .i64 0] 39) := hall.2
                    have e0 : v 0 = .slice am LK.length cm := hall.1.1.1.1.1.1.1.1.1.1.1.1.1.2
                    have HXE := Lib.hid (ln_block hg ln (by rw [HLnE.out]; rfl))
                    have HB6 := Lib.hid (HBb.out.trans (hC.mono HBb.out.size))
                    have HO6 := Lib.hid (ownsRow_below HOb.out hC)
                    have HN6 := Lib.hid (ownsRow_below HNb.out hC)
                    simp only [List.take_succ_cons, List.take_zero, List.map_cons, List.map_nil, putsL, List.setIfInBounds_toArray, List.set_cons_succ, List.set_cons_zero, Nat.zero_add, Nat.reduceAdd, List.drop_succ_cons, List.drop_zero]
                    simp only [e0, e13]
                    generalize v 1 = y1, v 2 = y2, v 3 = y3, v 4 = y4, v 5 = y5, v 6 = y6, v 7 = y7, v 8 = y8, v 9 = y9, v 10 = y10, v 11 = y11, v 12 = y12
                    clear e0 e13 hg hall hC v HAb
                    refine append_rec2 (c := lnCells) (sz := 8) (fun _ => rfl) ln_one 39 34 _ 80 Tryz.underlying34 Tryz.lineInfo rfl (by decide) rfl _ _ rfl w2.heap.size HB6.out.size _ _ LK [ln] rfl rfl HO6.out HXE.out (by unfold maxLen; simp; omega) (by simp; omega) ?_
                    intro R hR v7 w7 own7 hg7
                    have HRf := Lib.hid (HRel2.out v7 w7 ⟨by rw [HE.out, ← hR.out]; exact own7, HB6.out.grown hg7 HB6.out.size (fun g hg => (ownsRow_block HO6.out g hg).1), HOk3.out⟩ (own_grow HN6.out hg7 (own_other2 HN6.out HO6.out (by decide))))
                    clear own7 hg7 hR
                    go_wp2
                    go_roundg n0
                    case measure => omega
                    case rel =>
                      obtain ⟨k', h1, h2, h3⟩ := HRf.out
                      exact ⟨k', h1, by first | exact h2 | (rw [← h2]; go_num), h3⟩
            · have k2 : (fe2 != 0) = true := bne_iff_ne.2 he2
              have HRf := Lib.hid (LnRes.err (w := w) (w' := wa) HVt.out HH.out (HLb.out _ (Nat.le_refl _)) (HErr.out he2) he2 (Hw0.out.trans ((HB2.out.trans (HBA.out.mono HB2.out.size)).mono Hw0.out.size)))
              clear he2
              go_wp2
              go_ret2
              exact HRf.out
end Go.Proofs.YtngippiilgdnoaaGreat

namespace Go.Proofs.YtngippiilgdnoaaGreat
open Go.RowKit

theorem ln_neq (s am : Int) (nm ct : ByteArray) (w : World) : (binOp .neq 39 (.agg #[.int .i64 2, .int .i64 s, .string nm, .string ct, .int .i64 1, .int .i64 0, .int .i64 am, .int .i64 0]) (.agg #[.int .i64 2, .int .i64 s, .string nm, .string ct, .int .i64 1, .int .i64 0, .int .i64 am, .int .i64 0])).run Tryz.prog w = .ok (.bool false) w := by
  have u3 := Tryz.underlying3
  have a3 := Tryz.isAgg3
  have z3 := Tryz.sizeOf3
  have u9 := Tryz.underlying9
  have a9 := Tryz.isAgg9
  have z9 := Tryz.sizeOf9
  have hS : Tryz.prog.underlying 39 = some (.struct (Tryz.prog.fieldsOf 39)) := by kernel_rfl
  have hp : Tryz.prog.stoodInHeld 39 = false := by kernel_rfl
  rw [run_neq_struct, show (10000 : Nat) = 9999 + 1 from rfl, run_equalIn_agg w 9999 39 _ _ hS hp]
  simp only [Program.fieldsOf, Tryz.underlying39]
  go_simp
theorem ln_rec {w : World} {b o : Nat} {x : Ln} (h : RecR lnCells 8 w b o x) : w.cell? ⟨b, o, none⟩ = some (.int .i64 2) ∧ w.cell? ⟨b, o + 1, none⟩ = some (.int .i64 x.sb) ∧ w.cell? ⟨b, o + 2, none⟩ = some (.string x.nm) ∧ w.cell? ⟨b, o + 3, none⟩ = some (.string x.ct) ∧ w.cell? ⟨b, o + 4, none⟩ = some (.int .i64 1) ∧ w.cell? ⟨b, o + 5, none⟩ = some (.int .i64 0) ∧ w.cell? ⟨b, o + 6, none⟩ = some (.int .i64 x.am) ∧ w.cell? ⟨b, o + 7, none⟩ = some (.int .i64 0) :=
  ⟨h 0 (by decide), h 1 (by decide), h 2 (by decide), h 3 (by decide), h 4 (by decide), h 5 (by decide), h 6 (by decide), h 7 (by decide)⟩

set_option maxRecDepth 100000 in
set_option maxHeartbeats 6400000 in
theorem same44_calls (va vb : Value) (L : List Ln) (w : World) (ha : RecAt lnCells 8 w va L) (hb : RecAt lnCells 8 w vb L) :
    Calls Tryz.prog 17 #[va, vb] w fun e w' => e = .returned (.bool true) ∧ Below w.heap.size w w' := by
  have HA := Lib.hid ha
  have HB := Lib.hid hb
  obtain ⟨aa, ca, rfl, hca, hcm⟩ := rec_shape ha
  obtain ⟨ab, cb, rfl, hcb, hcm2⟩ := rec_shape hb
  unfold maxLen at hcm hcm2
  clear ha hb
  go_enter Tryz.func17, Tryz.ntmps17
  go_wp2_with fail
  go_loopg [5] L.length (fun g i wr => ∃ k : Nat, k + g = L.length ∧ i = .int .i64 k ∧ Below w.heap.size w wr)
  case atStart => exact ⟨0, by omega, rfl, Below.refl _ _⟩
  case round =>
    obtain ⟨wo, rfl⟩ : ∃ wo : World, wo = wr := ⟨_, rfl⟩
    obtain ⟨k, hkg, rfl, hbw⟩ := hrel
    have Hb := Lib.hid hbw
    cases gk with
    | zero =>
      have hkz : ¬ (k : Int) < (L.length : Int) := by omega
      clear hbw
      go_wp2
      go_ret
      exact ⟨rfl, Hb.out⟩
    | succ g0 =>
      have hkl : k < L.length := by omega
      have hk1 : (k : Int) < (L.length : Int) := by omega
      have hk0 : (0 : Int) ≤ (k : Int) := Int.natCast_nonneg _
      obtain ⟨a2, c2, e2, -, -, hx⟩ := HA.out.below hbw
      cases e2
      obtain ⟨b1, o1, rfl, hB1, hx⟩ := hx (by intro e; rw [e] at hkl; cases hkl)
      obtain ⟨a3, c3, e3, -, -, hy⟩ := HB.out.below hbw
      cases e3
      obtain ⟨b2, o2, rfl, hB2, hy⟩ := hy (by intro e; rw [e] at hkl; cases hkl)
      obtain ⟨p0, p1, p2, p3, p4, p5, p6, p7⟩ := ln_rec (hx k hkl)
      obtain ⟨q0, q1, q2, q3, q4, q5, q6, q7⟩ := ln_rec (hy k hkl)
      have hnq := ln_neq (L[k]).sb (L[k]).am (L[k]).nm (L[k]).ct
      clear hx hy
      generalize L[k] = x at *
      obtain ⟨s, nm, ct, am⟩ := x
      dsimp only at p1 p2 p3 p6 q1 q2 q3 q6 hnq
      have f0 := fun q : BelowOf wo => BelowOf.cell (a := ⟨b1, _, none⟩) hB1 p0 q
      have f1 := fun q : BelowOf wo => BelowOf.cell (a := ⟨b1, _, none⟩) hB1 p1 q
      have f2 := fun q : BelowOf wo => BelowOf.cell (a := ⟨b1, _, none⟩) hB1 p2 q
      have f3 := fun q : BelowOf wo => BelowOf.cell (a := ⟨b1, _, none⟩) hB1 p3 q
      have f4 := fun q : BelowOf wo => BelowOf.cell (a := ⟨b1, _, none⟩) hB1 p4 q
      have f5 := fun q : BelowOf wo => BelowOf.cell (a := ⟨b1, _, none⟩) hB1 p5 q
      have f6 := fun q : BelowOf wo => BelowOf.cell (a := ⟨b1, _, none⟩) hB1 p6 q
      have f7 := fun q : BelowOf wo => BelowOf.cell (a := ⟨b1, _, none⟩) hB1 p7 q
      have g0' := fun q : BelowOf wo => BelowOf.cell (a := ⟨b2, _, none⟩) hB2 q0 q
      have g1 := fun q : BelowOf wo => BelowOf.cell (a := ⟨b2, _, none⟩) hB2 q1 q
      have g2 := fun q : BelowOf wo => BelowOf.cell (a := ⟨b2, _, none⟩) hB2 q2 q
      have g3 := fun q : BelowOf wo => BelowOf.cell (a := ⟨b2, _, none⟩) hB2 q3 q
      have g4 := fun q : BelowOf wo => BelowOf.cell (a := ⟨b2, _, none⟩) hB2 q4 q
      have g5 := fun q : BelowOf wo => BelowOf.cell (a := ⟨b2, _, none⟩) hB2 q5 q
      have g6 := fun q : BelowOf wo => BelowOf.cell (a := ⟨b2, _, none⟩) hB2 q6 q
      have g7 := fun q : BelowOf wo => BelowOf.cell (a := ⟨b2, _, none⟩) hB2 q7 q
      have hrr := Below.refl wo.heap.size wo
      clear p0 p1 p2 p3 p4 p5 p6 p7 q0 q1 q2 q3 q4 q5 q6 q7 hbw
      go_upto_region 6 with (fail)
      refine wp_region_quiet_below hrr (by kernel_rfl) (by kernel_rfl) ?_
      repeat (go_big_quiet_step (fail))
      refine wpQuiet_nil ?_
      intro wa hw'
      have hYa : Below wo.heap.size wo wa := by obtain ⟨pq, rfl⟩ := hw'; exact pq.h
      have Hba := Lib.hid (Hb.out.trans (hYa.mono Hb.out.size))
      clear hw' f0 f1 f2 f3 f4 f5 f6 f7 g0' g1 g2 g3 g4 g5 g6 g7 hrr hYa hnq
      go_wp2
      go_roundg g0
      case measure => omega
      case rel => exact ⟨k + 1, by omega, by go_num, Hba.out⟩

/-- What the law says of lines. -/
structure LnLaw (l : List Ev) (P : List Pd) (f t : Int) (R : List Ln) : Prop where
  srt : R.Pairwise fun x y => hadLt (x.sb, x.nm) (y.sb, y.nm)
  fee : ∀ x ∈ R, feeV l P x.sb x.nm f t = (x.am, 0) ∧ x.am ≠ 0
theorem errL_zero {g : Had → Int} : ∀ {H : List Had}, errL g H = 0 → ∀ h ∈ H, g h = 0
  | [], _, h, hh => by cases hh
  | x :: r, h0, h, hh => by
    have e : errL g (x :: r) = if g x ≠ 0 then g x else errL g r := rfl
    rw [e] at h0
    by_cases hx : g x = 0
    · rw [if_neg (by simpa using hx)] at h0
      rcases List.mem_cons.1 hh with e2 | h2
      · rw [e2]; exact hx
      · exact errL_zero h0 h h2
    · rw [if_pos hx] at h0
      exact absurd h0 hx
theorem linesH_law {l : List Ev} {P : List Pd} {a f t : Int} {H : List Had} (hv : validB f t = true) (hH : HadOk l a H) (h0 : errL (fun h => (feeH l P f t h).2) H = 0) : LnLaw l P f t (linesH l P f t H) := by
  unfold linesH
  refine ⟨List.pairwise_flatMap.2 ⟨fun h _ => ?_, hH.srt.imp fun {x y} hxy u hu v hv => ?_⟩, fun x hx => ?_⟩
  · split
    · exact List.pairwise_singleton _ _
    · exact List.Pairwise.nil
  · split at hu
    · split at hv
      · rw [List.mem_singleton] at hu hv
        subst hu; subst hv
        exact hxy
      · cases hv
    · cases hu
  · obtain ⟨h, hh, hx⟩ := List.mem_flatMap.1 hx
    split at hx
    · rename_i hn
      rw [List.mem_singleton] at hx
      subst hx
      refine ⟨?_, hn⟩
      have e : feeV l P (lnH l P f t h).sb (lnH l P f t h).nm f t = feeH l P f t h := by
        unfold feeV
        rw [if_pos hv]
        rfl
      rw [e]
      exact Prod.ext rfl (errL_zero h0 h hh)
    · cases hx
/-- The lines of any two calls are one. -/
theorem lnRes_law {l : List Ev} {P : List Pd} {a f t : Int} {w w' : World} {e : Ending} (h : LnRes l P a f t w e w') : ∃ R er, LnTo R er w e w' ∧ LnLaw l P f t R ∧ ∀ w2 e2 w2', LnRes l P a f t w2 e2 w2' → LnTo R er w2 e2 w2' := by
  cases hv : validB f t with
  | false => exact ⟨[], 8, h.no hv, ⟨List.Pairwise.nil, fun x hx => by cases hx⟩, fun _ _ _ h2 => h2.no hv⟩
  | true =>
    obtain ⟨H, hH, hl, q1, q2⟩ := h.yes hv
    by_cases h0 : errL (fun h => (feeH l P f t h).2) H = 0
    · refine ⟨_, 0, q2 h0, linesH_law hv hH h0, fun _ _ _ h2 => ?_⟩
      obtain ⟨H2, hH2, -, -, p2⟩ := h2.yes hv
      rw [HadOk.one hH2 hH] at p2
      exact p2 h0
    · refine ⟨[], _, q1 h0, ⟨List.Pairwise.nil, fun x hx => by cases hx⟩, fun _ _ _ h2 => ?_⟩
      obtain ⟨H2, hH2, -, p1, -⟩ := h2.yes hv
      rw [HadOk.one hH2 hH] at p1
      exact p1 h0

set_option maxRecDepth 100000 in
set_option maxHeartbeats 12800000 in
theorem lines44_law (ea pa : Option Addr) (en pn ec pc : Nat) (f t n : Int) (l : List Ev) (P : List Pd) (w : World) (he : EvsAt w (.slice ea en ec) l) (hp : PdsAt w (.slice pa pn pc) P) :
    Calls Tryz.prog 4 #[.agg #[.slice ea en ec, .slice pa pn pc, .int .i64 f, .int .i64 t], .int .i64 n] w fun e w' => e = .returned (.bool true) ∧ Below w.heap.size w w' := by
  obtain ⟨W, hW⟩ : ∃ W, W = w.alloc (Obj.cells #[.slice ea en ec, .slice pa pn pc, .int .i64 f, .int .i64 t] 27) := ⟨_, rfl⟩
  have hw0 : Below w.heap.size w W := by rw [hW]; exact (Below.refl _ _).alloc (Nat.le_refl _) _
  have rW : W.heap[w.heap.size]? = some (Obj.cells #[.slice ea en ec, .slice pa pn pc, .int .i64 f, .int .i64 t] 27) := by rw [hW]; exact heap_alloc_new _ _
  have hzW : w.heap.size < W.heap.size := (Array.getElem?_eq_some_iff.1 rW).1
  have HM := Lib.hid (show ∀ w', Below W.heap.size W w' → w'.cell? ⟨w.heap.size, 0, none⟩ = some (.slice ea en ec) ∧ w'.cell? ⟨w.heap.size, 1, none⟩ = some (.slice pa pn pc) ∧ w'.cell? ⟨w.heap.size, 2, none⟩ = some (.int .i64 f) ∧ w'.cell? ⟨w.heap.size, 3, none⟩ = some (.int .i64 t) from fun w' hb => by
    have q := (hb.block _ hzW).trans rW
    exact ⟨cell_of_row w' _ 0 _ _ _ q, cell_of_row w' _ 1 _ _ _ q, cell_of_row w' _ 2 _ _ _ q, cell_of_row w' _ 3 _ _ _ q⟩)
  have HW := Lib.hid hW
  have Hw0 := Lib.hid hw0
  have HE := Lib.hid (he.below hw0)
  have HP := Lib.hid (hp.below hw0)
  have HV := Lib.hid (valid44_calls ea pa en pn ec pc f t l P W (he.below hw0) (hp.below hw0))
  obtain ⟨m0, m1, m2, m3⟩ := HM.out W (Below.refl _ _)
  clear hW rW hw0 he hp
  go_enter Tryz.func4, Tryz.ntmps4
  go_upto_region 1 with (fail)
  rw [← HW.out]
  go_wp2_with fail
  refine HV.out.mono ?_
  rintro e w1 ⟨⟨b, rfl, hv⟩, hb1⟩
  have HbW := Lib.hid hb1
  have Hb1 := Lib.hid (Hw0.out.trans (hb1.mono Hw0.out.size))
  have Hv := Lib.hid hv
  clear m0 m1 m2 m3 hb1 hv
  cases b with
  | false =>
    go_wp2_with fail
    refine (alive44_calls w1).mono ?_
    rintro e w2 ⟨rfl, hb2⟩
    have Hb2 := Lib.hid (Hb1.out.trans (hb2.mono Hb1.out.size))
    clear hb2
    go_wp2
    go_ret
    exact ⟨rfl, Hb2.out⟩
  | true =>
    have HC := Lib.hid (Hv.out rfl)
    have HL := Lib.hid (lines_calls _ _ l P n f t w1 (HE.out.below HbW.out) (HP.out.below HbW.out) (by have := HC.out.le; omega) HC.out.f)
    have HRL := Lib.hid (fun Y (hY : Below W.heap.size W Y) => rlines_calls _ _ l P n f t Y (HE.out.below hY) (HP.out.below hY) (by have := HC.out.le; omega) HC.out.f HC.out.r)
    have HFe := Lib.hid (fun (s : Int) (nm : ByteArray) Y (hY : Below W.heap.size W Y) => fee_calls _ _ l P s nm f t Y (HE.out.below hY) (HP.out.below hY) (by have := HC.out.le; omega) HC.out.f)
    obtain ⟨m0, m1, m2, m3⟩ := HM.out w1 HbW.out
    clear Hv HV
    go_wp2_with fail
    refine HL.out.mono ?_
    rintro e w2 hres
    obtain ⟨R, er, ⟨v1, rfl, hr1, hb2⟩, hlaw, htwo⟩ := lnRes_law hres
    have HLaw := Lib.hid hlaw
    have HTwo := Lib.hid htwo
    have HR1 := Lib.hid hr1
    obtain ⟨a1, c1, rfl, hc1, hcm1⟩ := rec_shape hr1
    unfold maxLen at hcm1
    have Hb2W := Lib.hid (HbW.out.trans (hb2.mono HbW.out.size))
    have HR2 := Lib.hid (HRL.out w2 Hb2W.out)
    clear m0 m1 m2 m3 hb2 HL hres hlaw htwo hr1 HRL
    obtain ⟨m0, m1, m2, m3⟩ := HM.out w2 Hb2W.out
    go_wp2_with fail
    refine HR2.out.mono ?_
    rintro e w3 hres
    obtain ⟨v2, rfl, hr2, hb3⟩ := HTwo.out _ _ _ hres
    have Hb3W := Lib.hid (Hb2W.out.trans (hb3.mono Hb2W.out.size))
    have HR13 := Lib.hid (HR1.out.below hb3)
    have HSm := Lib.hid (same44_calls _ v2 R w3 HR13.out hr2)
    obtain ⟨a2, c2, rfl, -, -⟩ := rec_shape hr2
    have hne : (er != er) = false := by simp
    clear m0 m1 m2 m3 hb3 HR2 hres hr2 HTwo
    go_wp2_with fail
    refine HSm.out.mono ?_
    rintro e w4 ⟨rfl, hb4⟩
    have Hb4W := Lib.hid (Hb3W.out.trans (hb4.mono Hb3W.out.size))
    have HR4 := Lib.hid (HR13.out.below hb4)
    clear hb4 HSm
    go_wp2_with fail
    go_loopg [9] R.length (fun g i wr => ∃ k : Nat, k + g = R.length ∧ i = .int .i64 k ∧ Below w4.heap.size w4 wr)
    case atStart => exact ⟨0, by omega, rfl, Below.refl _ _⟩
    case round =>
      obtain ⟨wo, rfl⟩ : ∃ wo : World, wo = wr := ⟨_, rfl⟩
      obtain ⟨k, hkg, rfl, hbo⟩ := hrel
      have Hbo := Lib.hid hbo
      have HboW := Lib.hid (Hb4W.out.trans (hbo.mono Hb4W.out.size))
      cases gk with
      | zero =>
        have hkz : ¬ (k : Int) < (R.length : Int) := by omega
        clear hbo
        go_wp2_with fail
        refine (alive44_calls wo).mono ?_
        rintro e w5 ⟨rfl, hb5⟩
        have Hb5 := Lib.hid (Hw0.out.trans ((HboW.out.trans (hb5.mono HboW.out.size)).mono Hw0.out.size))
        clear hb5
        go_wp2
        go_ret
        exact ⟨rfl, Hb5.out⟩
      | succ g0 =>
        have hkl : k < R.length := by omega
        have hk1 : (k : Int) < (R.length : Int) := by omega
        have hk0 : (0 : Int) ≤ (k : Int) := Int.natCast_nonneg _
        obtain ⟨a3, c3, e3, -, -, hx⟩ := HR4.out.below hbo
        cases e3
        obtain ⟨b1, o1, rfl, hB1, hx⟩ := hx (by intro e; rw [e] at hkl; cases hkl)
        obtain ⟨p0, p1, p2, p3, p4, p5, p6, p7⟩ := ln_rec (hx k hkl)
        have hfee := HLaw.out.fee _ (List.getElem_mem hkl)
        have HPrev := Lib.hid (show 0 < k → ∃ (p : Nat) (y : Ln), IntKind.i64.wrap ((k : Int) - 1) = (p : Int) ∧ (p : Int) < (R.length : Int) ∧ RecR lnCells 8 wo b1 (o1 + p * 8) y ∧ hadLt (y.sb, y.nm) ((R[k]).sb, (R[k]).nm) from fun h0 => by
          refine ⟨k - 1, R[k - 1], ?_, by omega, hx (k - 1) (by omega), List.pairwise_iff_getElem.1 HLaw.out.srt (k - 1) k (by omega) hkl (by omega)⟩
          rw [show (k : Int) - 1 = ((k - 1 : Nat) : Int) by omega]; exact IntWalk.i64_in _ (by omega))
        clear hx
        generalize R[k] = x at *
        obtain ⟨s, nm, ct, am⟩ := x
        dsimp only at p1 p2 p3 p6 hfee HPrev
        obtain ⟨hf1, hf2⟩ := hfee
        obtain ⟨Y, hY⟩ : ∃ Y, Y = wo.alloc (Obj.cells #[.int .i64 2, .int .i64 s, .string nm, .string ct, .int .i64 1, .int .i64 0, .int .i64 am, .int .i64 0] 39) := ⟨_, rfl⟩
        have hbY : Below wo.heap.size wo Y := by rw [hY]; go_grown
        have hYr : Y.heap[wo.heap.size]? = some (Obj.cells #[.int .i64 2, .int .i64 s, .string nm, .string ct, .int .i64 1, .int .i64 0, .int .i64 am, .int .i64 0] 39) := by rw [hY]; exact heap_alloc_new _ _
        have hwY : wo.heap.size < Y.heap.size := (Array.getElem?_eq_some_iff.1 hYr).1
        have HYr := Lib.hid hYr
        have HY := Lib.hid hY
        have HYW := Lib.hid (HboW.out.trans (hbY.mono HboW.out.size))
        have HFc := Lib.hid (HFe.out s nm Y HYW.out)
        rw [hf1] at HFc
        have HbY := Lib.hid hbY
        have y1 := cell_of_row Y _ 1 _ _ _ hYr
        have y2 := cell_of_row Y _ 2 _ _ _ hYr
        obtain ⟨m0, m1, m2, m3⟩ := HM.out Y HYW.out
        clear hY hYr hbY hbo hf1
        unfold pairT at HFc
        dsimp only at HFc
        go_upto_region 11 with (fail)
        rw [← HY.out]
        go_wp2_with fail
        refine HFc.out.mono ?_
        rintro e w5 ⟨rfl, hb5⟩
        have H5r := Lib.hid ((hb5.block _ hwY).trans HYr.out)
        have Hb5o := Lib.hid (HbY.out.trans (hb5.mono HbY.out.size))
        have Hb5 := Lib.hid (Hbo.out.trans (Hb5o.out.mono Hbo.out.size))
        have hw5 : wo.heap.size < w5.heap.size := (Array.getElem?_eq_some_iff.1 H5r.out).1
        have z1 := cell_of_row w5 _ 1 _ _ _ H5r.out
        have z2 := cell_of_row w5 _ 2 _ _ _ H5r.out
        have z6 := cell_of_row w5 _ 6 _ _ _ H5r.out
        have f1 := fun q : BelowOf w5 => BelowOf.cell (a := ⟨wo.heap.size, _, none⟩) hw5 z1 q
        have f2 := fun q : BelowOf w5 => BelowOf.cell (a := ⟨wo.heap.size, _, none⟩) hw5 z2 q
        have f6 := fun q : BelowOf w5 => BelowOf.cell (a := ⟨wo.heap.size, _, none⟩) hw5 z6 q
        have hrr := Below.refl w5.heap.size w5
        have hz1 : ((0 : Int) != 0) = false := rfl
        have hz2 : (am != am) = false := by simp
        have hz3 : (am == 0) = false := beq_eq_false_iff_ne.2 hf2
        clear hb5 m0 m1 m2 m3 y1 y2 z1 z2 z6 p0 p1 p2 p3 p4 p5 p6 p7 hf2 HFc
        by_cases hk : 0 < k
        · have hkz : (0 : Int) < (k : Int) := by omega
          obtain ⟨p, y, hsub, hp1, hrec, hlt⟩ := HPrev.out hk
          have hp0 : (0 : Int) ≤ (p : Int) := Int.natCast_nonneg _
          obtain ⟨-, r1, r2, -, -, -, -, -⟩ := ln_rec hrec
          have hB5 : b1 < w5.heap.size := by omega
          have h1 := (Hb5o.out.cell (p := ⟨b1, _, none⟩) hB1).trans r1
          have h2 := (Hb5o.out.cell (p := ⟨b1, _, none⟩) hB1).trans r2
          have g1 := fun q : BelowOf w5 => BelowOf.cell (a := ⟨b1, _, none⟩) hB5 h1 q
          have g2 := fun q : BelowOf w5 => BelowOf.cell (a := ⟨b1, _, none⟩) hB5 h2 q
          obtain ⟨ys, yn, yc, ya⟩ := y
          dsimp only at g1 g2 hlt
          clear h1 h2 r1 r2 hrec HPrev
          rcases hlt with hlt | ⟨he, hlt⟩
          · dsimp only at hlt
            go_upto_region 12 with (fail)
            refine wp_region_quiet_below hrr (by kernel_rfl) (by kernel_rfl) ?_
            repeat (go_big_quiet_step (fail))
            refine wpQuiet_nil ?_
            intro wa hw'
            have hYa : Below w5.heap.size w5 wa := by obtain ⟨pq, rfl⟩ := hw'; exact pq.h
            have Hba := Lib.hid (Hb5.out.trans (hYa.mono Hb5.out.size))
            clear hw' f1 f2 f6 g1 g2 hrr hYa
            go_wp2
            go_roundg g0
            case measure => omega
            case rel => exact ⟨k + 1, by omega, by go_num, Hba.out⟩
          · dsimp only at he hlt
            have hlt2 : Op.bytesLess yn.toList nm.toList = true := hlt
            subst he
            have hlt1 : ¬ ys < ys := by omega
            have heq1 : (ys == ys) = true := by simp
            clear hlt
            go_upto_region 12 with (fail)
            refine wp_region_quiet_below hrr (by kernel_rfl) (by kernel_rfl) ?_
            repeat (go_big_quiet_step (fail))
            refine wpQuiet_nil ?_
            intro wa hw'
            have hYa : Below w5.heap.size w5 wa := by obtain ⟨pq, rfl⟩ := hw'; exact pq.h
            have Hba := Lib.hid (Hb5.out.trans (hYa.mono Hb5.out.size))
            clear hw' f1 f2 f6 g1 g2 hrr hYa
            go_wp2
            go_roundg g0
            case measure => omega
            case rel => exact ⟨k + 1, by omega, by go_num, Hba.out⟩
        · have hkz : ¬ (0 : Int) < (k : Int) := by omega
          clear HPrev
          go_upto_region 12 with (fail)
          refine wp_region_quiet_below hrr (by kernel_rfl) (by kernel_rfl) ?_
          repeat (go_big_quiet_step (fail))
          refine wpQuiet_nil ?_
          intro wa hw'
          have hYa : Below w5.heap.size w5 wa := by obtain ⟨pq, rfl⟩ := hw'; exact pq.h
          have Hba := Lib.hid (Hb5.out.trans (hYa.mono Hb5.out.size))
          clear hw' f1 f2 f6 hrr hYa
          go_wp2
          go_roundg g0
          case measure => omega
          case rel => exact ⟨k + 1, by omega, by go_num, Hba.out⟩
end Go.Proofs.YtngippiilgdnoaaGreat
