/-
  The walks of what a subscription pays for a product in a cycle, the program's and the reference's.
  The walks of Fee, the program's and the reference's; of the laws' Few and valid; the law on fees.
  The walk of Few.
  The law on fees.
-/
import Derived.Test.YtngippiilgdnoaaGreatMpbo
import Derived.Test.YtngippiilgdnoaaGreatMpbj
import Derived.Test.YtngippiilgdnoaaGreatMpbi
import Derived.Test.YtngippiilgdnoaaGreatMpbq
import Derived.Test.YtngippiilgdnoaaGreatMpac
import Derived.Test.YtngippiilgdnoaaGreatMpbh
namespace Go.Proofs.YtngippiilgdnoaaGreat
open Go.RowKit

/-- The version of a product that decides about a fee. -/
def verC (l : List Ev) (P : List Pd) (n : Int) (s : ByteArray) (f t : Int) : Option Pd := match chooseL (actL n s l) [(f, t)] false true with
  | [] => none
  | c :: _ => atL P s c.1
/-- What a version costs in a valid cycle, and the error. -/
def feeC (l : List Ev) (n : Int) (s : ByteArray) (f t : Int) : Option Pd → Int × Int
  | none => (0, 0)
  | some p => if p.pro = true then proV p.fe f t (actL n s l) else (p.fe, 0)
def feeV (l : List Ev) (P : List Pd) (n : Int) (s : ByteArray) (f t : Int) : Int × Int := if validB f t = true then feeC l n s f t (verC l P n s f t) else (0, 8)
def zeroPd : Value := .agg #[.string ⟨#[]⟩, .int .i64 0, .int .i64 0, .string ⟨#[]⟩, .bool false, .slice none 0 0]
/-- The value of a version, but for its bundles. -/
def VerIs (vv : Value) : Option Pd → Prop
  | none => vv = zeroPd
  | some p => ∃ (ab : Option Addr) (nb cb : Nat), vv = .agg #[.string p.nm, .int .i64 p.fm, .int .i64 p.fe, .string p.ct, .bool p.pro, .slice ab nb cb]
theorem bds_shape {w : World} {v : Value} {l : List Bd} (h : BdsAt w v l) : ∃ a n c, v = .slice a n c := by
  obtain ⟨a, c, rfl, -⟩ := h
  exact ⟨a, _, c, rfl⟩
/-- A fee, its version and an error. -/
def ChgTo (o : Option Pd) (r : Int × Int) (w : World) (e : Ending) (w' : World) : Prop := ∃ vv, e = .returned (.tuple #[.int .i64 r.1, vv, .int .i64 r.2]) ∧ VerIs vv o ∧ Below w.heap.size w w'
/-- A version, the periods, and whether there is one. -/
def VerTo (o : Option Pd) (A : List (Int × Int)) (w : World) (e : Ending) (w' : World) : Prop := ∃ vv va, e = .returned (.tuple #[vv, va, .bool o.isSome]) ∧ VerIs vv o ∧ (o.isSome = true → PersAt w' va A) ∧ (∃ a n c, va = .slice a n c) ∧ Below w.heap.size w w'
theorem atV {w w' : World} {o : Option Pd} {e : Ending} (h : RatTo w o e w') : ∃ vv, e = .returned (.tuple #[vv, .bool o.isSome]) ∧ VerIs vv o ∧ Below w.heap.size w w' := by
  cases o with
  | none => exact ⟨_, h.1, rfl, h.2⟩
  | some p =>
    obtain ⟨bv, rfl, hb, hbl⟩ := h
    obtain ⟨a, n, c, rfl⟩ := bds_shape hb
    exact ⟨_, rfl, ⟨a, n, c, rfl⟩, hbl⟩
theorem pat_calls (v : Value) (l : List Pd) (s : ByteArray) (t : Int) (w : World) (h : PdsAt w v l) (hf : FewP l) :
    Calls Tryz.prog 77 #[v, .string s, .int .i64 t] w fun e w' => RatTo w (atL l s t) e w' := by
  cases ha : atL l s t with
  | none => exact at_no v l s t w h hf ha
  | some p => exact at_yes v l s t p w h hf ha
theorem pers_shape {w : World} {v : Value} {l : List (Int × Int)} (h : PersAt w v l) : ∃ a c, v = .slice a l.length c ∧ l.length ≤ c ∧ c ≤ maxLen := by
  obtain ⟨a, c, rfl, h1, h2, -⟩ := h
  exact ⟨a, c, rfl, h1, h2.1⟩
theorem verC_nil {l : List Ev} {P : List Pd} {n : Int} {s : ByteArray} {f t : Int} (h : chooseL (actL n s l) [(f, t)] false true = []) : verC l P n s f t = none := by unfold verC; rw [h]
theorem verC_cons {l : List Ev} {P : List Pd} {n : Int} {s : ByteArray} {f t : Int} (c : Int × Int) (r : List (Int × Int)) (h : chooseL (actL n s l) [(f, t)] false true = c :: r) : verC l P n s f t = atL P s c.1 := by unfold verC; rw [h]
theorem feeC_no {l : List Ev} {n : Int} {s : ByteArray} {f t : Int} (p : Pd) (h : p.pro = false) : feeC l n s f t (some p) = (p.fe, 0) := by unfold feeC; dsimp only; rw [if_neg (by rw [h]; decide)]
theorem feeC_yes {l : List Ev} {n : Int} {s : ByteArray} {f t : Int} (p : Pd) (h : p.pro = true) : feeC l n s f t (some p) = proV p.fe f t (actL n s l) := by unfold feeC; dsimp only; rw [if_pos h]

set_option maxRecDepth 100000 in
set_option maxHeartbeats 12800000 in
theorem charged_calls (ve vp : Value) (l : List Ev) (P : List Pd) (n : Int) (s : ByteArray) (f t : Int) (w : World) (he : EvsAt w ve l) (hp : PdsAt w vp P) (hl : l.length ≤ 1000) (hf : FewP P) :
    Calls Tryz.prog 41 #[ve, vp, .int .i64 n, .string s, .agg #[.int .i64 f, .int .i64 t]] w (ChgTo (verC l P n s f t) (feeC l n s f t (verC l P n s f t)) w) := by
  obtain ⟨W, hW, r0, r1, hw0, hz⟩ := two_rows2 w (Obj.cells #[.int .i64 f, .int .i64 t] 25) (Obj.cells #[.string ⟨#[]⟩, .int .i64 0, .int .i64 0, .string ⟨#[]⟩, .bool false, .slice none 0 0] 72)
  have HAc := Lib.hid (active_calls ve l n s W (he.below hw0) hl)
  have HAl := Lib.hid (Nat.le_trans (actL_len n s l) hl)
  have Hp := Lib.hid (hp.below hw0)
  have Hf := Lib.hid hf
  have HvI := Lib.hid (@verC_nil l P n s f t)
  have HvC := Lib.hid (@verC_cons l P n s f t)
  have HfN := Lib.hid (@feeC_no l n s f t)
  have HfY := Lib.hid (@feeC_yes l n s f t)
  have HW := Lib.hid hW
  have Hw0 := Lib.hid hw0
  have R0 := Lib.hid r0
  have R1 := Lib.hid r1
  have Hz := Lib.hid hz
  obtain ⟨av, cap, rfl, -, -⟩ := rec_shape he.1
  obtain ⟨pav, pcap, rfl, -, -, -⟩ := hp
  clear hW r0 r1 hw0 hz he hf
  generalize hA : actL n s l = A at *
  clear hA
  go_enter Tryz.func41, Tryz.ntmps41
  go_upto_region 1 with (fail)
  rw [← HW.out]
  go_wp2_with fail
  refine HAc.out.mono ?_
  rintro e w2 ⟨vA, rfl, hpA, hb2⟩
  have HpA := Lib.hid hpA
  obtain ⟨aA, cA, rfl, -, -⟩ := pers_shape hpA
  have HbW := Lib.hid hb2
  have c0 := cell_of_row w2 _ 0 _ _ _ ((hb2.block _ (by have := Hz.out; omega)).trans R0.out)
  have c1 := cell_of_row w2 _ 1 _ _ _ ((hb2.block _ (by have := Hz.out; omega)).trans R0.out)
  have hbB := pers_block w2 [(f, t)] (by unfold maxLen; simp)
  have HbB := Lib.hid hbB
  have hal : (Below w2.heap.size w2 (w2.alloc (Obj.cells ([(f, t)].flatMap perCells).toArray 25))) := (Below.refl _ _).alloc (Nat.le_refl _) _
  have HCm := Lib.hid (pcommon_calls _ _ [(f, t)] A _ HbB.out (HpA.out.below hal) (by have := HAl.out; simp; omega))
  clear hbB hal hpA hb2
  go_wp2_with fail
  refine HCm.out.mono ?_
  rintro e w3 ⟨vC, rfl, hpC, hb3⟩
  have hb3 := ((Below.refl _ w2).alloc (Nat.le_refl _) (Obj.cells ([(f, t)].flatMap perCells).toArray 25)).trans (hb3.mono (by simp))
  have Hb3 := Lib.hid (HbW.out.trans (hb3.mono HbW.out.size))
  have HpA3 := Lib.hid (HpA.out.below hb3)
  have R03 := Lib.hid ((Hb3.out.block _ (by have := Hz.out; omega)).trans R0.out)
  have R13 := Lib.hid ((Hb3.out.block _ Hz.out).trans R1.out)
  have Hw3 := Lib.hid (Hw0.out.trans (Hb3.out.mono Hw0.out.size))
  have Hp3 := Lib.hid (Hp.out.below Hb3.out)
  clear hb3 c0 c1 HpA HCm HbB HAc
  rw [common_turn] at hpC
  generalize hC : chooseL A [(f, t)] false true = C at *
  clear hC
  obtain ⟨aC, cC, rfl, hC1, hC2⟩ := pers_shape hpC
  unfold maxLen at hC2
  have HpC := Lib.hid hpC
  clear hpC
  cases C with
  | nil =>
    have HV := Lib.hid (HvI.out (by first | rfl | trivial))
    have HbF := Lib.hid (below_setRow1 Hw3.out (show w.heap.size ≤ w.heap.size + 1 by omega) #[.string ⟨#[]⟩, .int .i64 0, .int .i64 0, .string ⟨#[]⟩, .bool false, .slice none 0 0])
    have t0 := cell_setRow_same w3 (w.heap.size + 1) 0 _ #[.string ⟨#[]⟩, .int .i64 0, .int .i64 0, .string ⟨#[]⟩, .bool false, .slice none 0 0] _ _ R13.out
    have t1 := cell_setRow_same w3 (w.heap.size + 1) 1 _ #[.string ⟨#[]⟩, .int .i64 0, .int .i64 0, .string ⟨#[]⟩, .bool false, .slice none 0 0] _ _ R13.out
    have t2 := cell_setRow_same w3 (w.heap.size + 1) 2 _ #[.string ⟨#[]⟩, .int .i64 0, .int .i64 0, .string ⟨#[]⟩, .bool false, .slice none 0 0] _ _ R13.out
    have t3 := cell_setRow_same w3 (w.heap.size + 1) 3 _ #[.string ⟨#[]⟩, .int .i64 0, .int .i64 0, .string ⟨#[]⟩, .bool false, .slice none 0 0] _ _ R13.out
    have t4 := cell_setRow_same w3 (w.heap.size + 1) 4 _ #[.string ⟨#[]⟩, .int .i64 0, .int .i64 0, .string ⟨#[]⟩, .bool false, .slice none 0 0] _ _ R13.out
    have t5 := cell_setRow_same w3 (w.heap.size + 1) 5 _ #[.string ⟨#[]⟩, .int .i64 0, .int .i64 0, .string ⟨#[]⟩, .bool false, .slice none 0 0] _ _ R13.out
    go_upto_region 4 with (fail)
    repeat (first | refine wpList_store_row rfl _ _ _ rfl (w.heap.size + 1) #[.string ⟨#[]⟩, .int .i64 0, .int .i64 0, .string ⟨#[]⟩, .bool false, .slice none 0 0] rfl rfl 72 _ R13.out (by kernel_rfl) rfl (by simp [Value.oneCell']) ?_ | go_step)
    refine bodyPost_ret (v := .tuple #[.int .i64 0, .agg #[.string ⟨#[]⟩, .int .i64 0, .int .i64 0, .string ⟨#[]⟩, .bool false, .slice none 0 0], .int .i64 0]) (by simp [results, Tryz.results41, go_sem, t0, t1, t2, t3, t4, t5]) rfl ?_
    exact ⟨_, by rw [HV.out]; rfl, by rw [HV.out]; rfl, HbF.out⟩
  | cons c r =>
    have HV := Lib.hid (HvC.out c r (by first | rfl | trivial))
    obtain ⟨a4, c4, e4, -, -, hx⟩ := HpC.out
    cases e4
    obtain ⟨bb, o, rfl, hB, hx⟩ := hx (by simp)
    obtain ⟨x0, -⟩ := hx 0 (by simp)
    simp only [List.getElem_cons_zero, Nat.zero_mul, Nat.add_zero] at x0
    have hlen : (0 : Int) < ((c :: r).length : Int) := by rw [List.length_cons]; omega
    have hlen0 : (((c :: r).length : Int) == 0) = false := beq_eq_false_iff_ne.2 (by rw [List.length_cons]; omega)
    have hlen1 : 0 < (c :: r).length := by simp
    have HAt := Lib.hid (pat_calls _ P s c.1 w3 Hp3.out Hf.out)
    clear hx hB
    obtain ⟨N, hN⟩ : ∃ N, N = (c :: r).length := ⟨_, rfl⟩
    rw [← hN] at hlen hlen0 hlen1 ⊢
    clear hN
    go_wp2_with fail
    refine HAt.out.mono ?_
    intro e w4 hAt
    obtain ⟨vv, rfl, hvv, hb4⟩ := atV hAt
    have R04 := Lib.hid ((hb4.block _ (by have := Hz.out; have := Hb3.out.size; omega)).trans R03.out)
    have R14 := Lib.hid ((hb4.block _ (by have := Hz.out; have := Hb3.out.size; omega)).trans R13.out)
    have Hw4 := Lib.hid (Hw3.out.trans (hb4.mono Hw3.out.size))
    have HpA4 := Lib.hid (HpA3.out.below hb4)
    clear hAt hb4 HAt x0
    generalize atL P s c.1 = ov at *
    have hz4 : w.heap.size + 1 < w4.heap.size := (Array.getElem?_eq_some_iff.1 R14.out).1
    cases ov with
    | none =>
      have hvv : vv = zeroPd := hvv
      subst hvv
      unfold zeroPd
      obtain ⟨w5, hw5⟩ : ∃ w5, w5 = w4.alloc (Obj.cells #[.string ⟨#[]⟩, .int .i64 0, .int .i64 0, .string ⟨#[]⟩, .bool false, .slice none 0 0] 72) := ⟨_, rfl⟩
      have hb5 : Below w4.heap.size w4 w5 := by rw [hw5]; go_grown
      have R15 := Lib.hid ((hb5.block _ hz4).trans R14.out)
      have Hw5 := Lib.hid (Hw4.out.trans (hb5.mono Hw4.out.size))
      have HE5 := Lib.hid hw5
      clear hw5 hb5
      have HbF := Lib.hid (below_setRow1 Hw5.out (show w.heap.size ≤ w.heap.size + 1 by omega) #[.string ⟨#[]⟩, .int .i64 0, .int .i64 0, .string ⟨#[]⟩, .bool false, .slice none 0 0])
      have t0 := cell_setRow_same w5 (w.heap.size + 1) 0 _ #[.string ⟨#[]⟩, .int .i64 0, .int .i64 0, .string ⟨#[]⟩, .bool false, .slice none 0 0] _ _ R15.out
      have t1 := cell_setRow_same w5 (w.heap.size + 1) 1 _ #[.string ⟨#[]⟩, .int .i64 0, .int .i64 0, .string ⟨#[]⟩, .bool false, .slice none 0 0] _ _ R15.out
      have t2 := cell_setRow_same w5 (w.heap.size + 1) 2 _ #[.string ⟨#[]⟩, .int .i64 0, .int .i64 0, .string ⟨#[]⟩, .bool false, .slice none 0 0] _ _ R15.out
      have t3 := cell_setRow_same w5 (w.heap.size + 1) 3 _ #[.string ⟨#[]⟩, .int .i64 0, .int .i64 0, .string ⟨#[]⟩, .bool false, .slice none 0 0] _ _ R15.out
      have t4 := cell_setRow_same w5 (w.heap.size + 1) 4 _ #[.string ⟨#[]⟩, .int .i64 0, .int .i64 0, .string ⟨#[]⟩, .bool false, .slice none 0 0] _ _ R15.out
      have t5 := cell_setRow_same w5 (w.heap.size + 1) 5 _ #[.string ⟨#[]⟩, .int .i64 0, .int .i64 0, .string ⟨#[]⟩, .bool false, .slice none 0 0] _ _ R15.out
      go_upto_region 7 with (fail)
      rw [← HE5.out]
      repeat (first | refine wpList_store_row rfl _ _ _ rfl (w.heap.size + 1) #[.string ⟨#[]⟩, .int .i64 0, .int .i64 0, .string ⟨#[]⟩, .bool false, .slice none 0 0] rfl rfl 72 _ R15.out (by kernel_rfl) rfl (by simp [Value.oneCell']) ?_ | go_step)
      refine bodyPost_ret (v := .tuple #[.int .i64 0, .agg #[.string ⟨#[]⟩, .int .i64 0, .int .i64 0, .string ⟨#[]⟩, .bool false, .slice none 0 0], .int .i64 0]) (by simp [results, Tryz.results41, go_sem, t0, t1, t2, t3, t4, t5]) rfl ?_
      rw [HV.out]
      exact ⟨_, rfl, rfl, HbF.out⟩
    | some p =>
      obtain ⟨ab, nb, cb, rfl⟩ := hvv
      obtain ⟨w5, hw5⟩ : ∃ w5, w5 = w4.alloc (Obj.cells #[.string p.nm, .int .i64 p.fm, .int .i64 p.fe, .string p.ct, .bool p.pro, .slice ab nb cb] 72) := ⟨_, rfl⟩
      have hb5 : Below w4.heap.size w4 w5 := by rw [hw5]; go_grown
      have R15 := Lib.hid ((hb5.block _ hz4).trans R14.out)
      have R05 := Lib.hid ((hb5.block _ (by omega)).trans R04.out)
      have R5 := Lib.hid (show w5.heap[w4.heap.size]? = some (Obj.cells #[.string p.nm, .int .i64 p.fm, .int .i64 p.fe, .string p.ct, .bool p.pro, .slice ab nb cb] 72) by rw [hw5]; exact heap_alloc_new _ _)
      have Hw5 := Lib.hid (Hw4.out.trans (hb5.mono Hw4.out.size))
      have HpA5 := Lib.hid (HpA4.out.below hb5)
      have h45 : w4.heap.size < w5.heap.size := (Array.getElem?_eq_some_iff.1 R5.out).1
      have HE5 := Lib.hid hw5
      clear hw5 hb5
      have q4 : w5.cell? ⟨w4.heap.size, 4, none⟩ = some (.bool p.pro) := cell_of_row w5 _ 4 _ _ _ R5.out
      have Ht := Lib.hid (show (w5.setRow (w.heap.size + 1) #[.string p.nm, .int .i64 p.fm, .int .i64 p.fe, .string p.ct, .bool p.pro, .slice ab nb cb]).cell? ⟨w.heap.size + 1, 0, none⟩ = some (.string p.nm) ∧ (w5.setRow (w.heap.size + 1) #[.string p.nm, .int .i64 p.fm, .int .i64 p.fe, .string p.ct, .bool p.pro, .slice ab nb cb]).cell? ⟨w.heap.size + 1, 1, none⟩ = some (.int .i64 p.fm) ∧ (w5.setRow (w.heap.size + 1) #[.string p.nm, .int .i64 p.fm, .int .i64 p.fe, .string p.ct, .bool p.pro, .slice ab nb cb]).cell? ⟨w.heap.size + 1, 2, none⟩ = some (.int .i64 p.fe) ∧ (w5.setRow (w.heap.size + 1) #[.string p.nm, .int .i64 p.fm, .int .i64 p.fe, .string p.ct, .bool p.pro, .slice ab nb cb]).cell? ⟨w.heap.size + 1, 3, none⟩ = some (.string p.ct) ∧ (w5.setRow (w.heap.size + 1) #[.string p.nm, .int .i64 p.fm, .int .i64 p.fe, .string p.ct, .bool p.pro, .slice ab nb cb]).cell? ⟨w.heap.size + 1, 4, none⟩ = some (.bool p.pro) ∧ (w5.setRow (w.heap.size + 1) #[.string p.nm, .int .i64 p.fm, .int .i64 p.fe, .string p.ct, .bool p.pro, .slice ab nb cb]).cell? ⟨w.heap.size + 1, 5, none⟩ = some (.slice ab nb cb) from ⟨cell_setRow_same w5 (w.heap.size + 1) 0 _ #[.string p.nm, .int .i64 p.fm, .int .i64 p.fe, .string p.ct, .bool p.pro, .slice ab nb cb] _ _ R15.out, cell_setRow_same w5 (w.heap.size + 1) 1 _ #[.string p.nm, .int .i64 p.fm, .int .i64 p.fe, .string p.ct, .bool p.pro, .slice ab nb cb] _ _ R15.out, cell_setRow_same w5 (w.heap.size + 1) 2 _ #[.string p.nm, .int .i64 p.fm, .int .i64 p.fe, .string p.ct, .bool p.pro, .slice ab nb cb] _ _ R15.out, cell_setRow_same w5 (w.heap.size + 1) 3 _ #[.string p.nm, .int .i64 p.fm, .int .i64 p.fe, .string p.ct, .bool p.pro, .slice ab nb cb] _ _ R15.out, cell_setRow_same w5 (w.heap.size + 1) 4 _ #[.string p.nm, .int .i64 p.fm, .int .i64 p.fe, .string p.ct, .bool p.pro, .slice ab nb cb] _ _ R15.out, cell_setRow_same w5 (w.heap.size + 1) 5 _ #[.string p.nm, .int .i64 p.fm, .int .i64 p.fe, .string p.ct, .bool p.pro, .slice ab nb cb] _ _ R15.out⟩)
      have HbF := Lib.hid (below_setRow1 Hw5.out (show w.heap.size ≤ w.heap.size + 1 by omega) #[.string p.nm, .int .i64 p.fm, .int .i64 p.fe, .string p.ct, .bool p.pro, .slice ab nb cb])
      go_upto_region 8 with (fail)
      rw [← HE5.out]
      clear HE5
      generalize hpp : p.pro = pr at *
      cases pr with
      | false =>
        have HF := Lib.hid (HfN.out p hpp)
        have Hpp := Lib.hid hpp
        clear hpp
        go_upto_region 9 with (fail)
        clear q4
        have HC5 := Lib.hid (show ∀ Y, Below w5.heap.size w5 Y → Y.cell? ⟨w4.heap.size, 0, none⟩ = some (.string p.nm) ∧ Y.cell? ⟨w4.heap.size, 1, none⟩ = some (.int .i64 p.fm) ∧ Y.cell? ⟨w4.heap.size, 2, none⟩ = some (.int .i64 p.fe) ∧ Y.cell? ⟨w4.heap.size, 3, none⟩ = some (.string p.ct) ∧ Y.cell? ⟨w4.heap.size, 4, none⟩ = some (.bool false) ∧ Y.cell? ⟨w4.heap.size, 5, none⟩ = some (.slice ab nb cb) from fun Y hY => by
          have q := (hY.block _ h45).trans R5.out
          exact ⟨cell_of_row Y _ 0 _ _ _ q, cell_of_row Y _ 1 _ _ _ q, cell_of_row Y _ 2 _ _ _ q, cell_of_row Y _ 3 _ _ _ q, cell_of_row Y _ 4 _ _ _ q, cell_of_row Y _ 5 _ _ _ q⟩)
        refine wp_region_free3 4 (fun Y => Below w5.heap.size w5 Y) (fun i v _ => v = (match i with | 0 => .pointer (some ⟨w4.heap.size, 2, none⟩) | 1 => .int .i64 p.fe | 2 => .agg #[.string p.nm, .int .i64 p.fm, .int .i64 p.fe, .string p.ct, .bool false, .slice ab nb cb] | 3 => .int .i64 p.fe | _ => v)) (by kernel_rfl) (by kernel_rfl) (Below.refl _ _).drew ?_ ?_
        · generalize hfr : (fun v : Nat → Value => _) = fr
          simp only [List.take_succ_cons, List.take_zero, List.map_cons, List.map_nil, putsL, List.setIfInBounds_toArray, List.set_cons_succ, List.set_cons_zero, Nat.zero_add, Nat.reduceAdd] at hfr
          simp only [List.take_succ_cons, List.take_zero, FreeHead]
          refine ⟨?_, ?_, ?_, ?_, trivial⟩
          · intro v w6 hC hd K hK
            rw [← hfr] at hK ⊢
            go_simp
            exact hK _ _ hC (fun _ _ h => h) rfl
          · intro v w6 hC hd K hK
            obtain ⟨f0, -⟩ := hd
            have e0 : v 0 = _ := f0
            obtain ⟨k0, k1, k2, k3, k4, k5⟩ := HC5.out w6 hC
            rw [← hfr] at hK ⊢
            simp only [e0] at hK ⊢
            go_simp
            exact hK _ _ hC (fun _ _ h => h) rfl
          · intro v w6 hC hd K hK
            obtain ⟨k0, k1, k2, k3, k4, k5⟩ := HC5.out w6 hC
            rw [← hfr] at hK ⊢
            go_simp
            exact hK _ _ hC (fun _ _ h => h) rfl
          · intro v w6 hC hd K hK
            obtain ⟨f1, -⟩ := hd
            have e1 : v 1 = _ := f1
            rw [← hfr] at hK ⊢
            simp only [e1] at hK ⊢
            go_simp
            exact hK _ _ hC (fun _ _ h => h) rfl
        · intro v w6 hC hall
          obtain ⟨⟨⟨⟨-, g0⟩, g1⟩, g2⟩, g3⟩ := hall
          have e0 : v 0 = .pointer (some ⟨w4.heap.size, 2, none⟩) := g0
          have e1 : v 1 = .int .i64 p.fe := g1
          have e2 : v 2 = .agg #[.string p.nm, .int .i64 p.fm, .int .i64 p.fe, .string p.ct, .bool false, .slice ab nb cb] := g2
          have e3 : v 3 = .int .i64 p.fe := g3
          have R16 := Lib.hid ((hC.block _ (by have := Hw5.out.size; have := (Array.getElem?_eq_some_iff.1 R15.out).1; omega)).trans R15.out)
          have HbF := Lib.hid (below_setRow1 (Hw5.out.trans (hC.mono Hw5.out.size)) (show w.heap.size ≤ w.heap.size + 1 by omega) #[.string p.nm, .int .i64 p.fm, .int .i64 p.fe, .string p.ct, .bool false, .slice ab nb cb])
          simp only [List.take_succ_cons, List.take_zero, List.map_cons, List.map_nil, putsL, List.setIfInBounds_toArray, List.set_cons_succ, List.set_cons_zero, Nat.zero_add, Nat.reduceAdd, List.drop_succ_cons, List.drop_zero]
          simp only [e0, e1, e2, e3]
          clear e0 e1 e2 e3 g0 g1 g2 g3 hC v
          have t0 := cell_setRow_same w6 (w.heap.size + 1) 0 _ #[.string p.nm, .int .i64 p.fm, .int .i64 p.fe, .string p.ct, .bool false, .slice ab nb cb] _ _ R16.out
          have t1 := cell_setRow_same w6 (w.heap.size + 1) 1 _ #[.string p.nm, .int .i64 p.fm, .int .i64 p.fe, .string p.ct, .bool false, .slice ab nb cb] _ _ R16.out
          have t2 := cell_setRow_same w6 (w.heap.size + 1) 2 _ #[.string p.nm, .int .i64 p.fm, .int .i64 p.fe, .string p.ct, .bool false, .slice ab nb cb] _ _ R16.out
          have t3 := cell_setRow_same w6 (w.heap.size + 1) 3 _ #[.string p.nm, .int .i64 p.fm, .int .i64 p.fe, .string p.ct, .bool false, .slice ab nb cb] _ _ R16.out
          have t4 := cell_setRow_same w6 (w.heap.size + 1) 4 _ #[.string p.nm, .int .i64 p.fm, .int .i64 p.fe, .string p.ct, .bool false, .slice ab nb cb] _ _ R16.out
          have t5 := cell_setRow_same w6 (w.heap.size + 1) 5 _ #[.string p.nm, .int .i64 p.fm, .int .i64 p.fe, .string p.ct, .bool false, .slice ab nb cb] _ _ R16.out
          repeat (first | refine wpList_store_row rfl _ _ _ rfl (w.heap.size + 1) #[.string p.nm, .int .i64 p.fm, .int .i64 p.fe, .string p.ct, .bool false, .slice ab nb cb] rfl rfl 72 _ R16.out (by kernel_rfl) rfl (by simp [Value.oneCell']) ?_ | go_step)
          refine bodyPost_ret (v := .tuple #[.int .i64 p.fe, .agg #[.string p.nm, .int .i64 p.fm, .int .i64 p.fe, .string p.ct, .bool false, .slice ab nb cb], .int .i64 0]) (by simp [results, Tryz.results41, go_sem, t0, t1, t2, t3, t4, t5]) rfl ?_
          rw [HV.out, HF.out]
          exact ⟨_, rfl, ⟨ab, nb, cb, by rw [Hpp.out]⟩, HbF.out⟩
      | true =>
        have HF := Lib.hid (HfY.out p hpp)
        have Hpp := Lib.hid hpp
        clear hpp
        go_upto_region 10 with (fail)
        clear q4
        obtain ⟨⟨r1, r2⟩, hpr⟩ : ∃ r, r = proV p.fe f t A := ⟨_, rfl⟩
        have HCall := Lib.hid (prorate_calls p.fe f t _ A w5 HpA5.out HAl.out)
        rw [← hpr] at HCall
        have HPr := Lib.hid hpr.symm
        clear hpr
        have k2 : w5.cell? ⟨w4.heap.size, 2, none⟩ = some (.int .i64 p.fe) := cell_of_row w5 _ 2 _ _ _ R5.out
        have c0 := cell_of_row w5 _ 0 _ _ _ R05.out
        have c1 := cell_of_row w5 _ 1 _ _ _ R05.out
        go_wp2_with fail
        refine HCall.out.mono ?_
        rintro e w7 ⟨rfl, hb7⟩
        unfold pairT
        have R17 := Lib.hid ((hb7.block _ (Array.getElem?_eq_some_iff.1 R15.out).1).trans R15.out)
        have R57 := Lib.hid ((hb7.block _ h45).trans R5.out)
        have Hw7 := Lib.hid (Hw5.out.trans (hb7.mono Hw5.out.size))
        have h47 : w4.heap.size < w7.heap.size := (Array.getElem?_eq_some_iff.1 R57.out).1
        clear hb7 k2 c0 c1 R15 R5 Hw5 HbF Ht h45
        obtain ⟨R15, R5, Hw5, h45⟩ : _ ∧ _ ∧ _ ∧ _ := ⟨R17.out, R57.out, Hw7.out, h47⟩
        obtain ⟨w5, hw57⟩ : ∃ w5', w5' = w7 := ⟨_, rfl⟩
        rw [← hw57] at R15 R5 Hw5 h45 ⊢
        clear hw57
        have HC5 := Lib.hid (show ∀ Y, (w5.grownBy Y (some (w.heap.size + 1)) ∧ ∃ cs : Array Value, Y.heap[w.heap.size + 1]? = some (Obj.cells cs 72) ∧ cs.size = 6) → Y.cell? ⟨w4.heap.size, 0, none⟩ = some (.string p.nm) ∧ Y.cell? ⟨w4.heap.size, 1, none⟩ = some (.int .i64 p.fm) ∧ Y.cell? ⟨w4.heap.size, 2, none⟩ = some (.int .i64 p.fe) ∧ Y.cell? ⟨w4.heap.size, 3, none⟩ = some (.string p.ct) ∧ Y.cell? ⟨w4.heap.size, 4, none⟩ = some (.bool true) ∧ Y.cell? ⟨w4.heap.size, 5, none⟩ = some (.slice ab nb cb) from fun Y hY => by
          have q := (hY.1.block _ h45 (by intro e; simp only [Option.some.injEq] at e; omega)).trans R5
          exact ⟨cell_of_row Y _ 0 _ _ _ q, cell_of_row Y _ 1 _ _ _ q, cell_of_row Y _ 2 _ _ _ q, cell_of_row Y _ 3 _ _ _ q, cell_of_row Y _ 4 _ _ _ q, cell_of_row Y _ 5 _ _ _ q⟩)
        go_upto_region 11 with (fail)
        refine wp_region_free2 (fun Y => w5.grownBy Y (some (w.heap.size + 1)) ∧ ∃ cs : Array Value, Y.heap[w.heap.size + 1]? = some (Obj.cells cs 72) ∧ cs.size = 6) (fun i v Y => (match i with | 0 => v = .int .i64 r1 | 1 => v = .agg #[.string p.nm, .int .i64 p.fm, .int .i64 p.fe, .string p.ct, .bool true, .slice ab nb cb] | 2 => v = .int .i64 r2 | 3 => v = .int .i64 r1 | 4 => Y.heap[w.heap.size + 1]? = some (Obj.cells #[.string p.nm, .int .i64 p.fm, .int .i64 p.fe, .string p.ct, .bool true, .slice ab nb cb] 72) | _ => True)) (by kernel_rfl) (by decide) (by kernel_rfl) ⟨⟨rfl, rfl, rfl, Nat.le_refl _, fun _ _ _ => rfl⟩, _, R15, rfl⟩ ?_
        generalize hfr : (fun v : Nat → Value => _) = fr
        simp only [List.map_cons, List.map_nil, putsL, List.setIfInBounds_toArray, List.set_cons_succ, List.set_cons_zero, Nat.zero_add, Nat.reduceAdd] at hfr
        simp only [FreeOps]
        refine ⟨?_, ?_, ?_, ?_, ?_, ?_⟩
        · intro v w6 hC hd K hK
          rw [← hfr] at hK ⊢
          go_simp
          exact hK _ _ hC (fun _ _ h => h) rfl
        · intro v w6 hC hd K hK
          obtain ⟨k0, k1, k2, k3, k4, k5⟩ := HC5.out w6 hC
          rw [← hfr] at hK ⊢
          go_simp
          exact hK _ _ hC (fun _ _ h => h) rfl
        · intro v w6 hC hd K hK
          rw [← hfr] at hK ⊢
          go_simp
          exact hK _ _ hC (fun _ _ h => h) rfl
        · intro v w6 hC hd K hK
          obtain ⟨f0, -⟩ := hd
          have e0 : v 0 = _ := f0
          rw [← hfr] at hK ⊢
          simp only [e0] at hK ⊢
          go_simp
          exact hK _ _ hC (fun _ _ h => h) rfl
        · intro v w6 hC hd K hK
          obtain ⟨f1, f3, -⟩ := hd
          have e1 : v 1 = .agg #[.string p.nm, .int .i64 p.fm, .int .i64 p.fe, .string p.ct, .bool true, .slice ab nb cb] := f1
          obtain ⟨hg6, cs, hr6, hcs⟩ := hC
          refine wp_store_row _ _ _ rfl (w.heap.size + 1) #[.string p.nm, .int .i64 p.fm, .int .i64 p.fe, .string p.ct, .bool true, .slice ab nb cb] (by rw [← hfr]; rfl) (by rw [← hfr]; exact e1) 72 cs hr6 (by kernel_rfl) hcs (by simp [Value.oneCell']) ?_
          have hn := setRow_heap w6 (w.heap.size + 1) cs #[.string p.nm, .int .i64 p.fm, .int .i64 p.fe, .string p.ct, .bool true, .slice ab nb cb] _ _ hr6
          refine hK _ _ ⟨⟨hg6.os, hg6.tape, hg6.output, by rw [setRow_size]; exact hg6.size, fun k hk hne => (setRow_other _ _ _ _ (fun e => hne (by rw [e]))).trans (hg6.block k hk hne)⟩, _, hn, rfl⟩ (fun j y h => ?_) hn
          match j, h with
          | 0, h => exact h
          | 1, h => exact h
          | 2, h => exact h
          | 3, h => exact h
          | 4, _ => exact hn
          | _ + 5, _ => trivial
        · intro v w6 hC hall
          obtain ⟨⟨⟨⟨⟨-, g0⟩, g1⟩, g2⟩, g3⟩, g4⟩ := hall
          have e0 : v 0 = .int .i64 r1 := g0
          have e1 : v 1 = .agg #[.string p.nm, .int .i64 p.fm, .int .i64 p.fe, .string p.ct, .bool true, .slice ab nb cb] := g1
          have e2 : v 2 = .int .i64 r2 := g2
          have e3 : v 3 = .int .i64 r1 := g3
          have hr6 : w6.heap[w.heap.size + 1]? = some (Obj.cells #[.string p.nm, .int .i64 p.fm, .int .i64 p.fe, .string p.ct, .bool true, .slice ab nb cb] 72) := g4
          have HbF := Lib.hid (Hw5.grown hC.1 (by have := Hw5.size; exact this) (fun g hg => by cases hg; omega))
          have t0 := cell_of_row w6 _ 0 _ _ _ hr6
          have t1 := cell_of_row w6 _ 1 _ _ _ hr6
          have t2 := cell_of_row w6 _ 2 _ _ _ hr6
          have t3 := cell_of_row w6 _ 3 _ _ _ hr6
          have t4 := cell_of_row w6 _ 4 _ _ _ hr6
          have t5 := cell_of_row w6 _ 5 _ _ _ hr6
          rw [← hfr]
          simp only [e0, e1, e2, e3]
          generalize v 4 = z4, v 5 = z5
          clear e0 e1 e2 e3 g0 g1 g2 g3 g4 hC hfr hr6 v
          go_wp2
          refine bodyPost_ret (v := .tuple #[.int .i64 r1, .agg #[.string p.nm, .int .i64 p.fm, .int .i64 p.fe, .string p.ct, .bool true, .slice ab nb cb], .int .i64 r2]) (by simp [results, Tryz.results41, go_sem, t0, t1, t2, t3, t4, t5]) rfl ?_
          rw [HV.out, HF.out, HPr.out]
          exact ⟨_, rfl, ⟨ab, nb, cb, by rw [Hpp.out]⟩, HbF.out⟩

set_option maxRecDepth 100000 in
set_option maxHeartbeats 12800000 in
theorem version_calls (ve vp : Value) (l : List Ev) (P : List Pd) (n : Int) (s : ByteArray) (f t : Int) (w : World) (he : EvsAt w ve l) (hp : PdsAt w vp P) (hl : l.length ≤ 1000) (hf : FewP P) (hr : OkRun l) :
    Calls Tryz.prog 43 #[ve, vp, .int .i64 n, .string s, .agg #[.int .i64 f, .int .i64 t]] w (VerTo (verC l P n s f t) (actL n s l) w) := by
  obtain ⟨W, hW, r0, r1, hw0, hz⟩ := two_rows2 w (Obj.cells #[.int .i64 f, .int .i64 t] 25) (Obj.cells #[.string ⟨#[]⟩, .int .i64 0, .int .i64 0, .string ⟨#[]⟩, .bool false, .slice none 0 0] 72)
  have HAc := Lib.hid (ractive_calls ve l n s W (he.below hw0) hl hr)
  have HAl := Lib.hid (Nat.le_trans (actL_len n s l) hl)
  have Hp := Lib.hid (hp.below hw0)
  have Hf := Lib.hid hf
  have HvI := Lib.hid (@verC_nil l P n s f t)
  have HvC := Lib.hid (@verC_cons l P n s f t)
  have HW := Lib.hid hW
  have Hw0 := Lib.hid hw0
  have R0 := Lib.hid r0
  have R1 := Lib.hid r1
  have Hz := Lib.hid hz
  obtain ⟨av, cap, rfl, -, -⟩ := rec_shape he.1
  obtain ⟨pav, pcap, rfl, -, -, -⟩ := hp
  clear hW r0 r1 hw0 hz he hf
  generalize hA : actL n s l = A at *
  clear hA
  go_enter Tryz.func43, Tryz.ntmps43
  go_upto_region 1 with (fail)
  rw [← HW.out]
  go_wp2_with fail
  refine HAc.out.mono ?_
  rintro e w2 ⟨aA, cA, rfl, howA, hb2⟩
  have HowA := Lib.hid howA
  have hpA := PersAt.own howA
  have HpA := Lib.hid hpA
  have HbW := Lib.hid hb2
  have c0 := cell_of_row w2 _ 0 _ _ _ ((hb2.block _ (by have := Hz.out; omega)).trans R0.out)
  have c1 := cell_of_row w2 _ 1 _ _ _ ((hb2.block _ (by have := Hz.out; omega)).trans R0.out)
  have hbB := pers_block w2 [(f, t)] (by unfold maxLen; simp)
  have HbB := Lib.hid hbB
  have hal : (Below w2.heap.size w2 (w2.alloc (Obj.cells ([(f, t)].flatMap perCells).toArray 25))) := (Below.refl _ _).alloc (Nat.le_refl _) _
  have HCm := Lib.hid (common_calls _ _ A [(f, t)] _ (HpA.out.below hal) HbB.out (by have := HAl.out; simp; omega))
  clear hbB hal hpA howA hb2
  go_wp2_with fail
  refine HCm.out.mono ?_
  rintro e w3 ⟨vC, rfl, hpC, hb3⟩
  have hb3 := ((Below.refl _ w2).alloc (Nat.le_refl _) (Obj.cells ([(f, t)].flatMap perCells).toArray 25)).trans (hb3.mono (by simp))
  have Hb3 := Lib.hid (HbW.out.trans (hb3.mono HbW.out.size))
  have HpA3 := Lib.hid (HpA.out.below hb3)
  have HowA3 := Lib.hid (ownsRow_below HowA.out hb3)
  have R03 := Lib.hid ((Hb3.out.block _ (by have := Hz.out; omega)).trans R0.out)
  have R13 := Lib.hid ((Hb3.out.block _ Hz.out).trans R1.out)
  have Hw3 := Lib.hid (Hw0.out.trans (Hb3.out.mono Hw0.out.size))
  have Hp3 := Lib.hid (Hp.out.below Hb3.out)
  clear hb3 c0 c1 HpA HCm HbB HAc
  generalize hC : chooseL A [(f, t)] false true = C at *
  clear hC
  obtain ⟨aC, cC, rfl, hC1, hC2⟩ := pers_shape hpC
  unfold maxLen at hC2
  have HpC := Lib.hid hpC
  clear hpC
  cases C with
  | nil =>
    have HV := Lib.hid (HvI.out (by first | rfl | trivial))
    have HbF := Lib.hid (below_setRow1 Hw3.out (show w.heap.size ≤ w.heap.size + 1 by omega) #[.string ⟨#[]⟩, .int .i64 0, .int .i64 0, .string ⟨#[]⟩, .bool false, .slice none 0 0])
    have t0 := cell_setRow_same w3 (w.heap.size + 1) 0 _ #[.string ⟨#[]⟩, .int .i64 0, .int .i64 0, .string ⟨#[]⟩, .bool false, .slice none 0 0] _ _ R13.out
    have t1 := cell_setRow_same w3 (w.heap.size + 1) 1 _ #[.string ⟨#[]⟩, .int .i64 0, .int .i64 0, .string ⟨#[]⟩, .bool false, .slice none 0 0] _ _ R13.out
    have t2 := cell_setRow_same w3 (w.heap.size + 1) 2 _ #[.string ⟨#[]⟩, .int .i64 0, .int .i64 0, .string ⟨#[]⟩, .bool false, .slice none 0 0] _ _ R13.out
    have t3 := cell_setRow_same w3 (w.heap.size + 1) 3 _ #[.string ⟨#[]⟩, .int .i64 0, .int .i64 0, .string ⟨#[]⟩, .bool false, .slice none 0 0] _ _ R13.out
    have t4 := cell_setRow_same w3 (w.heap.size + 1) 4 _ #[.string ⟨#[]⟩, .int .i64 0, .int .i64 0, .string ⟨#[]⟩, .bool false, .slice none 0 0] _ _ R13.out
    have t5 := cell_setRow_same w3 (w.heap.size + 1) 5 _ #[.string ⟨#[]⟩, .int .i64 0, .int .i64 0, .string ⟨#[]⟩, .bool false, .slice none 0 0] _ _ R13.out
    go_upto_region 4 with (fail)
    repeat (first | refine wpList_store_row rfl _ _ _ rfl (w.heap.size + 1) #[.string ⟨#[]⟩, .int .i64 0, .int .i64 0, .string ⟨#[]⟩, .bool false, .slice none 0 0] rfl rfl 72 _ R13.out (by kernel_rfl) rfl (by simp [Value.oneCell']) ?_ | go_step)
    refine bodyPost_ret (v := .tuple #[.agg #[.string ⟨#[]⟩, .int .i64 0, .int .i64 0, .string ⟨#[]⟩, .bool false, .slice none 0 0], .slice none 0 0, .bool false]) (by simp [results, Tryz.results43, go_sem, t0, t1, t2, t3, t4, t5]) rfl ?_
    rw [HV.out]
    exact ⟨_, _, rfl, rfl, (fun h => by cases h), ⟨_, _, _, rfl⟩, HbF.out⟩
  | cons c r =>
    have HV := Lib.hid (HvC.out c r (by first | rfl | trivial))
    obtain ⟨a4, c4, e4, -, -, hx⟩ := HpC.out
    cases e4
    obtain ⟨bb, o, rfl, hB, hx⟩ := hx (by simp)
    obtain ⟨x0, -⟩ := hx 0 (by simp)
    simp only [List.getElem_cons_zero, Nat.zero_mul, Nat.add_zero] at x0
    have hlen : (0 : Int) < ((c :: r).length : Int) := by rw [List.length_cons]; omega
    have hlen0 : (((c :: r).length : Int) == 0) = false := beq_eq_false_iff_ne.2 (by rw [List.length_cons]; omega)
    have hlen1 : 0 < (c :: r).length := by simp
    have HAt := Lib.hid (rat_calls _ P s c.1 w3 Hp3.out)
    clear hx hB
    obtain ⟨N, hN⟩ : ∃ N, N = (c :: r).length := ⟨_, rfl⟩
    rw [← hN] at hlen hlen0 hlen1 ⊢
    clear hN
    go_wp2_with fail
    refine HAt.out.mono ?_
    intro e w4 hAt
    obtain ⟨vv, rfl, hvv, hb4⟩ := atV hAt
    have R14 := Lib.hid ((hb4.block _ (by have := Hz.out; have := Hb3.out.size; omega)).trans R13.out)
    have Hw4 := Lib.hid (Hw3.out.trans (hb4.mono Hw3.out.size))
    have HowA4 := Lib.hid (ownsRow_below HowA3.out hb4)
    clear hAt hb4 HAt x0
    generalize atL P s c.1 = ov at *
    have hz4 : w.heap.size + 1 < w4.heap.size := (Array.getElem?_eq_some_iff.1 R14.out).1
    have Hsh := Lib.hid (show ∃ (s1 s2 : ByteArray) (j1 j2 : Int) (pb : Bool) (ab : Option Addr) (nb cb : Nat), vv = .agg #[.string s1, .int .i64 j1, .int .i64 j2, .string s2, .bool pb, .slice ab nb cb] from by
      cases ov with
      | none => exact ⟨_, _, _, _, _, _, _, _, hvv⟩
      | some p => obtain ⟨ab, nb, cb, h⟩ := hvv; exact ⟨_, _, _, _, _, ab, nb, cb, h⟩)
    obtain ⟨s1, s2, j1, j2, pb, ab, nb, cb, rfl⟩ := Hsh.out
    have Hvv := Lib.hid hvv
    clear hvv
    obtain ⟨w5, hw5⟩ : ∃ w5, w5 = w4.alloc (Obj.cells #[.string s1, .int .i64 j1, .int .i64 j2, .string s2, .bool pb, .slice ab nb cb] 72) := ⟨_, rfl⟩
    have hb5 : Below w4.heap.size w4 w5 := by rw [hw5]; go_grown
    have R15 := Lib.hid ((hb5.block _ hz4).trans R14.out)
    have R5 := Lib.hid (show w5.heap[w4.heap.size]? = some (Obj.cells #[.string s1, .int .i64 j1, .int .i64 j2, .string s2, .bool pb, .slice ab nb cb] 72) by rw [hw5]; exact heap_alloc_new _ _)
    have Hw5 := Lib.hid (Hw4.out.trans (hb5.mono Hw4.out.size))
    have HowA5 := Lib.hid (ownsRow_below HowA4.out hb5)
    have HE5 := Lib.hid hw5
    clear hw5 hb5
    have HbF := Lib.hid (below_setRow1 Hw5.out (show w.heap.size ≤ w.heap.size + 1 by omega) #[.string s1, .int .i64 j1, .int .i64 j2, .string s2, .bool pb, .slice ab nb cb])
    have t0 := cell_setRow_same w5 (w.heap.size + 1) 0 _ #[.string s1, .int .i64 j1, .int .i64 j2, .string s2, .bool pb, .slice ab nb cb] _ _ R15.out
    have t1 := cell_setRow_same w5 (w.heap.size + 1) 1 _ #[.string s1, .int .i64 j1, .int .i64 j2, .string s2, .bool pb, .slice ab nb cb] _ _ R15.out
    have t2 := cell_setRow_same w5 (w.heap.size + 1) 2 _ #[.string s1, .int .i64 j1, .int .i64 j2, .string s2, .bool pb, .slice ab nb cb] _ _ R15.out
    have t3 := cell_setRow_same w5 (w.heap.size + 1) 3 _ #[.string s1, .int .i64 j1, .int .i64 j2, .string s2, .bool pb, .slice ab nb cb] _ _ R15.out
    have t4 := cell_setRow_same w5 (w.heap.size + 1) 4 _ #[.string s1, .int .i64 j1, .int .i64 j2, .string s2, .bool pb, .slice ab nb cb] _ _ R15.out
    have t5 := cell_setRow_same w5 (w.heap.size + 1) 5 _ #[.string s1, .int .i64 j1, .int .i64 j2, .string s2, .bool pb, .slice ab nb cb] _ _ R15.out
    have k0 := cell_of_row w5 _ 0 _ _ _ R5.out
    have k1 := cell_of_row w5 _ 1 _ _ _ R5.out
    have k2 := cell_of_row w5 _ 2 _ _ _ R5.out
    have k3 := cell_of_row w5 _ 3 _ _ _ R5.out
    have k4 := cell_of_row w5 _ 4 _ _ _ R5.out
    have k5 := cell_of_row w5 _ 5 _ _ _ R5.out
    have HPF := Lib.hid (show ov.isSome = true → PersAt (w5.setRow (w.heap.size + 1) #[.string s1, .int .i64 j1, .int .i64 j2, .string s2, .bool pb, .slice ab nb cb]) (.slice aA A.length cA) A from fun _ => PersAt.own (own_setRow1 HowA5.out (own_other HowA5.out R15.out (by decide)) _))
    go_upto_region 6 with (fail)
    rw [← HE5.out]
    repeat (first | refine wpList_store_row rfl _ _ _ rfl (w.heap.size + 1) #[.string s1, .int .i64 j1, .int .i64 j2, .string s2, .bool pb, .slice ab nb cb] rfl rfl 72 _ R15.out (by kernel_rfl) rfl (by simp [Value.oneCell']) ?_ | go_step)
    refine bodyPost_ret (v := .tuple #[.agg #[.string s1, .int .i64 j1, .int .i64 j2, .string s2, .bool pb, .slice ab nb cb], .slice aA A.length cA, .bool ov.isSome]) (by simp [results, Tryz.results43, go_sem, t0, t1, t2, t3, t4, t5]) rfl ?_
    rw [HV.out]
    exact ⟨_, _, rfl, Hvv.out, HPF.out, ⟨_, _, _, rfl⟩, HbF.out⟩
end Go.Proofs.YtngippiilgdnoaaGreat

namespace Go.Proofs.YtngippiilgdnoaaGreat
open Go.RowKit

set_option maxRecDepth 100000 in
set_option maxHeartbeats 6400000 in
theorem fee_calls (ve vp : Value) (l : List Ev) (P : List Pd) (n : Int) (s : ByteArray) (f t : Int) (w : World) (he : EvsAt w ve l) (hp : PdsAt w vp P) (hl : l.length ≤ 1000) (hf : FewP P) :
    Calls Tryz.prog 13 #[ve, vp, .int .i64 n, .string s, .agg #[.int .i64 f, .int .i64 t]] w fun e w' => e = .returned (pairT (feeV l P n s f t)) ∧ Below w.heap.size w w' := by
  obtain ⟨W, hW⟩ : ∃ W, W = w.alloc (Obj.cells #[Value.int .i64 f, Value.int .i64 t] 25) := ⟨_, rfl⟩
  have hw0 : Below w.heap.size w W := by rw [hW]; exact (Below.refl _ _).alloc (Nat.le_refl _) _
  have rW : W.heap[w.heap.size]? = some (Obj.cells #[Value.int .i64 f, Value.int .i64 t] 25) := by rw [hW]; exact heap_alloc_new _ _
  have hzW : w.heap.size < W.heap.size := (Array.getElem?_eq_some_iff.1 rW).1
  have HM := Lib.hid (show ∀ w', Below W.heap.size W w' → w'.cell? ⟨w.heap.size, 0, none⟩ = some (.int .i64 f) ∧ w'.cell? ⟨w.heap.size, 1, none⟩ = some (.int .i64 t) from fun w' hb => by
    have q := (hb.block _ hzW).trans rW
    exact ⟨cell_of_row w' _ 0 _ _ _ q, cell_of_row w' _ 1 _ _ _ q⟩)
  have HW := Lib.hid hW
  have Hw0 := Lib.hid hw0
  have Hv := Lib.hid (valid_calls f t W)
  have HC := Lib.hid (fun Y (hY : Below W.heap.size W Y) => charged_calls ve vp l P n s f t Y ((he.below hw0).below hY) ((hp.below hw0).below hY) hl hf)
  obtain ⟨av, cap, rfl, -, -⟩ := rec_shape he.1
  obtain ⟨pav, pcap, rfl, -, -, -⟩ := hp
  obtain ⟨m0, m1⟩ := HM.out W (Below.refl _ _)
  clear hW rW hw0 he
  cases hv : validB f t with
  | false =>
    rw [hv] at Hv
    have HF := Lib.hid (show feeV l P n s f t = (0, 8) by unfold feeV; rw [if_neg (by rw [hv]; decide)])
    clear hv
    go_enter Tryz.func13, Tryz.ntmps13
    go_upto_region 1 with (fail)
    rw [← HW.out]
    go_wp2_with fail
    refine Hv.out.mono ?_
    rintro e w1 ⟨rfl, hb1⟩
    have Hb1 := Lib.hid (Hw0.out.trans (hb1.mono Hw0.out.size))
    clear m0 m1 hb1
    go_wp2
    go_ret2
    exact ⟨by rw [HF.out]; rfl, Hb1.out⟩
  | true =>
    rw [hv] at Hv
    have HF := Lib.hid (show feeV l P n s f t = feeC l n s f t (verC l P n s f t) by unfold feeV; rw [if_pos hv])
    clear hv
    generalize verC l P n s f t = ov at *
    generalize feeC l n s f t ov = r at *
    obtain ⟨r1, r2⟩ := r
    go_enter Tryz.func13, Tryz.ntmps13
    go_upto_region 1 with (fail)
    rw [← HW.out]
    go_wp2_with fail
    refine Hv.out.mono ?_
    rintro e w1 ⟨rfl, hb1⟩
    have Hb1 := Lib.hid (Hw0.out.trans (hb1.mono Hw0.out.size))
    have HC1 := Lib.hid (HC.out w1 hb1)
    clear m0 m1
    obtain ⟨m0, m1⟩ := HM.out w1 hb1
    clear hb1
    go_wp2_with fail
    refine HC1.out.mono ?_
    rintro e w2 ⟨vv, rfl, hvv, hb2⟩
    have Hsh := Lib.hid (show ∃ (s1 s2 : ByteArray) (j1 j2 : Int) (pb : Bool) (ab : Option Addr) (nb cb : Nat), vv = .agg #[.string s1, .int .i64 j1, .int .i64 j2, .string s2, .bool pb, .slice ab nb cb] from by
      cases ov with
      | none => exact ⟨_, _, _, _, _, _, _, _, hvv⟩
      | some p => obtain ⟨ab, nb, cb, h⟩ := hvv; exact ⟨_, _, _, _, _, ab, nb, cb, h⟩)
    obtain ⟨s1, s2, j1, j2, pb, ab, nb, cb, rfl⟩ := Hsh.out
    have Hb2 := Lib.hid (Hb1.out.trans (hb2.mono Hb1.out.size))
    clear hvv hb2 m0 m1
    go_wp2
    go_ret2
    exact ⟨by rw [HF.out]; rfl, Hb2.out.alloc Hb2.out.size _⟩

set_option maxRecDepth 100000 in
set_option maxHeartbeats 6400000 in
theorem rfee_calls (ve vp : Value) (l : List Ev) (P : List Pd) (n : Int) (s : ByteArray) (f t : Int) (w : World) (he : EvsAt w ve l) (hp : PdsAt w vp P) (hl : l.length ≤ 1000) (hf : FewP P) (hr : OkRun l) :
    Calls Tryz.prog 14 #[ve, vp, .int .i64 n, .string s, .agg #[.int .i64 f, .int .i64 t]] w fun e w' => e = .returned (pairT (feeV l P n s f t)) ∧ Below w.heap.size w w' := by
  obtain ⟨W, hW⟩ : ∃ W, W = w.alloc (Obj.cells #[Value.int .i64 f, Value.int .i64 t] 25) := ⟨_, rfl⟩
  have hw0 : Below w.heap.size w W := by rw [hW]; exact (Below.refl _ _).alloc (Nat.le_refl _) _
  have rW : W.heap[w.heap.size]? = some (Obj.cells #[Value.int .i64 f, Value.int .i64 t] 25) := by rw [hW]; exact heap_alloc_new _ _
  have hzW : w.heap.size < W.heap.size := (Array.getElem?_eq_some_iff.1 rW).1
  have HM := Lib.hid (show ∀ w', Below W.heap.size W w' → w'.cell? ⟨w.heap.size, 0, none⟩ = some (.int .i64 f) ∧ w'.cell? ⟨w.heap.size, 1, none⟩ = some (.int .i64 t) from fun w' hb => by
    have q := (hb.block _ hzW).trans rW
    exact ⟨cell_of_row w' _ 0 _ _ _ q, cell_of_row w' _ 1 _ _ _ q⟩)
  have HW := Lib.hid hW
  have Hw0 := Lib.hid hw0
  have Hv := Lib.hid (rvalid_calls f t W)
  have HC := Lib.hid (fun Y (hY : Below W.heap.size W Y) => version_calls ve vp l P n s f t Y ((he.below hw0).below hY) ((hp.below hw0).below hY) hl hf hr)
  have HAl := Lib.hid (Nat.le_trans (actL_len n s l) hl)
  obtain ⟨av, cap, rfl, -, -⟩ := rec_shape he.1
  obtain ⟨pav, pcap, rfl, -, -, -⟩ := hp
  obtain ⟨m0, m1⟩ := HM.out W (Below.refl _ _)
  clear hW rW hw0 he
  cases hv : validB f t with
  | false =>
    rw [hv] at Hv
    have HF := Lib.hid (show feeV l P n s f t = (0, 8) by unfold feeV; rw [if_neg (by rw [hv]; decide)])
    clear hv
    go_enter Tryz.func14, Tryz.ntmps14
    go_upto_region 1 with (fail)
    rw [← HW.out]
    go_wp2_with fail
    refine Hv.out.mono ?_
    rintro e w1 ⟨rfl, hb1⟩
    have Hb1 := Lib.hid (Hw0.out.trans (hb1.mono Hw0.out.size))
    clear m0 m1 hb1
    go_wp2
    go_ret2
    exact ⟨by rw [HF.out]; rfl, Hb1.out⟩
  | true =>
    rw [hv] at Hv
    have HF := Lib.hid (show feeV l P n s f t = feeC l n s f t (verC l P n s f t) by unfold feeV; rw [if_pos hv])
    have HfN := Lib.hid (@feeC_no l n s f t)
    have HfY := Lib.hid (@feeC_yes l n s f t)
    have HfO := Lib.hid (show feeC l n s f t none = (0, 0) from rfl)
    clear hv
    generalize verC l P n s f t = ov at *
    generalize hA : actL n s l = A at *
    clear hA
    go_enter Tryz.func14, Tryz.ntmps14
    go_upto_region 1 with (fail)
    rw [← HW.out]
    go_wp2_with fail
    refine Hv.out.mono ?_
    rintro e w1 ⟨rfl, hb1⟩
    have Hb1 := Lib.hid (Hw0.out.trans (hb1.mono Hw0.out.size))
    have Hb1W := Lib.hid hb1
    have HC1 := Lib.hid (HC.out w1 hb1)
    clear m0 m1
    obtain ⟨m0, m1⟩ := HM.out w1 hb1
    clear hb1
    go_wp2_with fail
    refine HC1.out.mono ?_
    rintro e w2 ⟨vv, va, rfl, hvv, hpa, ⟨a3, n3, c3, rfl⟩, hb2⟩
    have Hb2 := Lib.hid (Hb1.out.trans (hb2.mono Hb1.out.size))
    have Hb2W := Lib.hid (Hb1W.out.trans (hb2.mono Hb1W.out.size))
    have Hpa := Lib.hid hpa
    clear hb2 m0 m1 hpa
    cases ov with
    | none =>
      obtain rfl : vv = zeroPd := hvv
      unfold zeroPd
      go_wp2
      go_ret2
      exact ⟨by rw [HF.out, HfO.out]; rfl, Hb2.out.alloc Hb2.out.size _⟩
    | some p =>
      obtain ⟨ab, nb, cb, rfl⟩ := hvv
      have HPA := Lib.hid (Hpa.out rfl)
      obtain ⟨w3, hw3⟩ : ∃ w3, w3 = w2.alloc (Obj.cells #[.string p.nm, .int .i64 p.fm, .int .i64 p.fe, .string p.ct, .bool p.pro, .slice ab nb cb] 72) := ⟨_, rfl⟩
      have hb3 : Below w2.heap.size w2 w3 := by rw [hw3]; go_grown
      have R3 := Lib.hid (show w3.heap[w2.heap.size]? = some (Obj.cells #[.string p.nm, .int .i64 p.fm, .int .i64 p.fe, .string p.ct, .bool p.pro, .slice ab nb cb] 72) by rw [hw3]; exact heap_alloc_new _ _)
      have HPA3 := Lib.hid (HPA.out.below hb3)
      have Hb3 := Lib.hid (Hb2.out.trans (hb3.mono Hb2.out.size))
      have Hb3W := Lib.hid (Hb2W.out.trans (hb3.mono Hb2W.out.size))
      have HE3 := Lib.hid hw3
      clear hw3 hb3 Hpa HPA
      have k2 : w3.cell? ⟨w2.heap.size, 2, none⟩ = some (.int .i64 p.fe) := cell_of_row w3 _ 2 _ _ _ R3.out
      have k4 : w3.cell? ⟨w2.heap.size, 4, none⟩ = some (.bool p.pro) := cell_of_row w3 _ 4 _ _ _ R3.out
      go_upto_region 6 with (fail)
      rw [← HE3.out]
      clear HE3
      generalize hpp : p.pro = pr at *
      cases pr with
      | false =>
        have HFN := Lib.hid (HfN.out p hpp)
        clear hpp
        go_wp2
        go_ret2
        exact ⟨by rw [HF.out, HFN.out]; rfl, Hb3.out⟩
      | true =>
        have HFY := Lib.hid (HfY.out p hpp)
        clear hpp
        have HPr := Lib.hid (rprorate_calls p.fe f t _ A w3 HPA3.out HAl.out)
        generalize proV p.fe f t A = r at *
        obtain ⟨r1, r2⟩ := r
        obtain ⟨m0, m1⟩ := HM.out w3 Hb3W.out
        go_wp2_with fail
        refine HPr.out.mono ?_
        rintro e w4 ⟨rfl, hb4⟩
        have Hb4 := Lib.hid (Hb3.out.trans (hb4.mono Hb3.out.size))
        unfold pairT
        clear hb4 k2 k4 m0 m1
        go_wp2
        go_ret2
        exact ⟨by rw [HF.out, HFY.out]; rfl, Hb4.out⟩

/-- What Few asks. -/
def fewB (l : List Ev) (P : List Pd) (b w c : Nat) (t : Int) : Bool :=
  decide (l.length ≤ 40) && decide (P.length ≤ 8) && decide (b ≤ 60) && decide (w ≤ 40) && decide (c ≤ 40) && (P.all fun p => decide (p.bs.length ≤ 4)) && (decide (l.length = 0) || decide (t < 69120000) || decide (t - 69120000 < (l.getD 0 default).tm))
theorem fewB_is {l : List Ev} {P : List Pd} {b w c : Nat} {t : Int} (h : fewB l P b w c t = true) : l.length ≤ 40 ∧ P.length ≤ 8 ∧ b ≤ 60 ∧ w ≤ 40 ∧ c ≤ 40 ∧ (∀ p ∈ P, p.bs.length ≤ 4) ∧ (l.length = 0 ∨ t < 69120000 ∨ t - 69120000 < (l.getD 0 default).tm) := by
  unfold fewB at h
  simp only [Bool.and_eq_true, Bool.or_eq_true, decide_eq_true_eq, List.all_eq_true] at h
  obtain ⟨⟨⟨⟨⟨⟨h1, h2⟩, h3⟩, h4⟩, h5⟩, h6⟩, h7⟩ := h
  exact ⟨h1, h2, h3, h4, h5, h6, or_assoc.1 h7⟩
end Go.Proofs.YtngippiilgdnoaaGreat

namespace Go.Proofs.YtngippiilgdnoaaGreat
open Go.RowKit

theorem fewB_no {l : List Ev} {P : List Pd} {b w c : Nat} {t : Int} (h : ¬ (l.length ≤ 40 ∧ P.length ≤ 8 ∧ b ≤ 60 ∧ w ≤ 40 ∧ c ≤ 40 ∧ (∀ p ∈ P, p.bs.length ≤ 4))) : fewB l P b w c t = false := by
  cases hq : fewB l P b w c t with
  | false => rfl
  | true => obtain ⟨h1, h2, h3, h4, h5, h6, -⟩ := fewB_is hq; exact absurd ⟨h1, h2, h3, h4, h5, h6⟩ h
theorem fewB_last {l : List Ev} {P : List Pd} {b w c : Nat} {t : Int} (h : l.length ≤ 40 ∧ P.length ≤ 8 ∧ b ≤ 60 ∧ w ≤ 40 ∧ c ≤ 40 ∧ (∀ p ∈ P, p.bs.length ≤ 4)) : fewB l P b w c t = (decide (l.length = 0) || decide (t < 69120000) || decide (t - 69120000 < (l.getD 0 default).tm)) := by
  obtain ⟨h1, h2, h3, h4, h5, h6⟩ := h
  unfold fewB
  rw [decide_eq_true h1, decide_eq_true h2, decide_eq_true h3, decide_eq_true h4, decide_eq_true h5, List.all_eq_true.2 (fun p hp => decide_eq_true (h6 p hp))]
  simp

set_option maxRecDepth 100000 in
set_option maxHeartbeats 12800000 in
theorem few35_calls (ve vp : Value) (ba wa ca : Option Addr) (bn wn cn bc wc cc : Nat) (l : List Ev) (P : List Pd) (t : Int) (w : World) (he : EvsAt w ve l) (hp : PdsAt w vp P) (hbn : bn ≤ maxLen) (hwn : wn ≤ maxLen) (hcn : cn ≤ maxLen) (ht1 : -9223372036854775808 ≤ t) (ht2 : t ≤ 9223372036854775807) :
    Calls Tryz.prog 36 #[ve, vp, .agg #[.slice ba bn bc, .slice wa wn wc, .slice ca cn cc], .int .i64 t] w fun e w' => e = .returned (.bool (fewB l P bn wn cn t)) ∧ Below w.heap.size w w' := by
  unfold maxLen at hbn hwn hcn
  obtain ⟨W, hW⟩ : ∃ W, W = w.alloc (Obj.cells #[.slice ba bn bc, .slice wa wn wc, .slice ca cn cc] 45) := ⟨_, rfl⟩
  have hw0 : Below w.heap.size w W := by rw [hW]; exact (Below.refl _ _).alloc (Nat.le_refl _) _
  have rW : W.heap[w.heap.size]? = some (Obj.cells #[.slice ba bn bc, .slice wa wn wc, .slice ca cn cc] 45) := by rw [hW]; exact heap_alloc_new _ _
  have s0 := cell_of_row W _ 0 _ _ _ rW
  have s1 := cell_of_row W _ 1 _ _ _ rW
  have s2 := cell_of_row W _ 2 _ _ _ rW
  have HW := Lib.hid hW
  have Hw0 := Lib.hid hw0
  have HE := Lib.hid (he.below hw0)
  have HP := Lib.hid (hp.below hw0)
  obtain ⟨av, cap, rfl, hlc, hcm⟩ := rec_shape he.1
  obtain ⟨pav, pcap, rfl, hpc, hpm, -⟩ := hp
  have hpm := hpm.1
  unfold maxLen at hcm hpm
  clear hW hw0 rW he
  by_cases e1 : 40 < l.length
  · have qe1 : (40 : Int) < (l.length : Int) := by omega
    have HN := Lib.hid (show fewB l P bn wn cn t = false from fewB_no (fun h => by omega))
    go_enter Tryz.func36, Tryz.ntmps36
    go_upto_region 1 with (fail)
    rw [← HW.out]
    go_wp2
    go_ret
    exact ⟨ret_bool HN.out.symm, Hw0.out⟩
  · have qe1 : ¬ (40 : Int) < (l.length : Int) := by omega
    by_cases e2 : 8 < P.length
    · have qe2 : (8 : Int) < (P.length : Int) := by omega
      have HN := Lib.hid (show fewB l P bn wn cn t = false from fewB_no (fun h => by omega))
      go_enter Tryz.func36, Tryz.ntmps36
      go_upto_region 1 with (fail)
      rw [← HW.out]
      go_wp2
      go_ret
      exact ⟨ret_bool HN.out.symm, Hw0.out⟩
    · have qe2 : ¬ (8 : Int) < (P.length : Int) := by omega
      by_cases e3 : 60 < bn
      · have qe3 : (60 : Int) < (bn : Int) := by omega
        have HN := Lib.hid (show fewB l P bn wn cn t = false from fewB_no (fun h => by omega))
        go_enter Tryz.func36, Tryz.ntmps36
        go_upto_region 1 with (fail)
        rw [← HW.out]
        go_wp2
        go_ret
        exact ⟨ret_bool HN.out.symm, Hw0.out⟩
      · have qe3 : ¬ (60 : Int) < (bn : Int) := by omega
        by_cases e4 : 40 < wn
        · have qe4 : (40 : Int) < (wn : Int) := by omega
          have HN := Lib.hid (show fewB l P bn wn cn t = false from fewB_no (fun h => by omega))
          go_enter Tryz.func36, Tryz.ntmps36
          go_upto_region 1 with (fail)
          rw [← HW.out]
          go_wp2
          go_ret
          exact ⟨ret_bool HN.out.symm, Hw0.out⟩
        · have qe4 : ¬ (40 : Int) < (wn : Int) := by omega
          by_cases e5 : 40 < cn
          · have qe5 : (40 : Int) < (cn : Int) := by omega
            have HN := Lib.hid (show fewB l P bn wn cn t = false from fewB_no (fun h => by omega))
            go_enter Tryz.func36, Tryz.ntmps36
            go_upto_region 1 with (fail)
            rw [← HW.out]
            go_wp2
            go_ret
            exact ⟨ret_bool HN.out.symm, Hw0.out⟩
          · have qe5 : ¬ (40 : Int) < (cn : Int) := by omega
            go_enter Tryz.func36, Tryz.ntmps36
            go_upto_region 1 with (fail)
            rw [← HW.out]
            go_wp2_with fail
            go_loop [9] (fun i => ∃ k : Nat, k ≤ P.length ∧ i = .int .i64 k ∧ RowKit.Hid (∀ j (hj : j < P.length), j < k → (P[j]).bs.length ≤ 4)) (fun i => P.length - (intOf i).toNat)
            case atStart => exact ⟨0, Nat.zero_le _, rfl, Lib.hid (fun j _ h => by omega)⟩
            case round =>
              obtain ⟨k, hk, rfl, Hn⟩ := hrel
              by_cases hlt : k < P.length
              · have hk1 : (k : Int) < (P.length : Int) := by omega
                have hk0 : (0 : Int) ≤ (k : Int) := Int.natCast_nonneg _
                obtain ⟨av2, cap2, ee, -, -, hx⟩ := HP.out
                cases ee
                obtain ⟨b1, o1, rfl, hB1, hx⟩ := hx (by rintro rfl; cases hlt)
                obtain ⟨-, -, -, -, -, bv, u5, hbv⟩ := hx k hlt
                obtain ⟨ab, cb, rfl, hb1, hb2, -⟩ := hbv
                have hb2 := hb2.1
                unfold maxLen at hb2
                have HNx := Lib.hid (show (P[k]).bs.length ≤ 4 → ∀ j (hj : j < P.length), j < k + 1 → (P[j]).bs.length ≤ 4 from fun h j hj hjk => by
                  by_cases e : j = k
                  · subst e; exact h
                  · exact Hn.out j hj (by omega))
                have HBad := Lib.hid (show ¬ (P[k]).bs.length ≤ 4 → fewB l P bn wn cn t = false from fun h => fewB_no (fun hh => h (hh.2.2.2.2.2 _ (List.getElem_mem hlt))))
                clear hx
                generalize (P[k]).bs.length = m at *
                by_cases hm : m ≤ 4
                · have HE2 := Lib.hid (HNx.out hm)
                  have hm2 : ¬ (4 : Int) < (m : Int) := by omega
                  clear hm
                  go_wp2
                  exact ⟨⟨k + 1, by omega, by go_num, HE2⟩, by simp [intOf]; omega⟩
                · have HE2 := Lib.hid (HBad.out hm)
                  have hm2 : (4 : Int) < (m : Int) := by omega
                  clear hm
                  go_wp2
                  go_ret
                  exact ⟨ret_bool HE2.out.symm, Hw0.out⟩
              · have HF := Lib.hid (show fewB l P bn wn cn t = (decide (l.length = 0) || decide (t < 69120000) || decide (t - 69120000 < (l.getD 0 default).tm)) from fewB_last ⟨by omega, by omega, by omega, by omega, by omega, fun p hp => by
                  obtain ⟨j, hj, rfl⟩ := List.mem_iff_getElem.1 hp
                  exact Hn.out j hj (by omega)⟩)
                by_cases h0 : l.length = 0
                · have hz : ((l.length : Int) == 0) = true := beq_iff_eq.2 (by omega)
                  have HR := Lib.hid (show (decide (l.length = 0) || decide (t < 69120000) || decide (t - 69120000 < (l.getD 0 default).tm)) = true by rw [decide_eq_true h0]; rfl)
                  clear h0
                  go_wp2
                  go_ret
                  exact ⟨ret_bool (by rw [HF.out, HR.out]), Hw0.out⟩
                · have hz : ((l.length : Int) == 0) = false := beq_eq_false_iff_ne.2 (by omega)
                  have hlp : (0 : Int) < (l.length : Int) := by omega
                  have hln : 0 < l.length := by omega
                  by_cases htl : t < 69120000
                  · have HR := Lib.hid (show (decide (l.length = 0) || decide (t < 69120000) || decide (t - 69120000 < (l.getD 0 default).tm)) = true by rw [decide_eq_true htl]; simp)
                    go_wp2
                    go_ret
                    exact ⟨ret_bool (by rw [HF.out, HR.out]), Hw0.out⟩
                  · obtain ⟨av2, cap2, ee, -, -, hx⟩ := HE.out.1
                    cases ee
                    obtain ⟨b1, o1, rfl, hB1, hx⟩ := hx (by rintro rfl; simp at hln)
                    have x0 : W.cell? ⟨b1, o1, none⟩ = some (.int .i64 (l.getD 0 default).tm) := by
                      have h := hx 0 hln 0 (by decide)
                      simp only [Nat.zero_mul, Nat.add_zero] at h
                      rw [h]
                      simp [evCells, List.getD, hln]
                    have HR := Lib.hid (show (decide (l.length = 0) || decide (t < 69120000) || decide (t - 69120000 < (l.getD 0 default).tm)) = decide (t - 69120000 < (l.getD 0 default).tm) by rw [decide_eq_false h0, decide_eq_false htl]; rfl)
                    clear hx h0
                    generalize (l.getD 0 default).tm = t0 at *
                    go_wp2
                    go_ret
                    exact ⟨ret_bool (by rw [HF.out, HR.out]), Hw0.out⟩
end Go.Proofs.YtngippiilgdnoaaGreat

namespace Go.Proofs.YtngippiilgdnoaaGreat
open Go.RowKit

theorem prodsE_all : ∀ (P : List Pd) (q : Option Pd), prodsE q P = 0 → ∀ p ∈ P, prodE p = 0
  | [], _, _ => fun p hp => by cases hp
  | a :: r, q, h => by
    unfold prodsE at h
    by_cases hc : prodE a ≠ 0
    · rw [if_pos hc] at h; exact absurd h hc
    · rw [if_neg hc] at h
      have key : ∀ c : Bool, (if c = true then (9 : Int) else prodsE (some a) r) = 0 → prodsE (some a) r = 0 := fun c hh => by
        cases c
        · simpa using hh
        · cases hh
      have h2 := key _ h
      intro p hp
      rcases List.mem_cons.1 hp with rfl | hp
      · exact Decidable.not_not.1 hc
      · exact prodsE_all r _ h2 p hp
theorem bundlesE_all : ∀ (B : List Bd), bundlesE B = 0 → ∀ b ∈ B, bundleE b = 0
  | [], _ => fun p hp => by cases hp
  | a :: r, h => by
    unfold bundlesE at h
    split at h
    · rename_i hc; exact absurd h hc
    · rename_i hc
      intro p hp
      rcases List.mem_cons.1 hp with rfl | hp
      · exact Decidable.not_not.1 hc
      · exact bundlesE_all r h p hp
/-- What a product that is valid fulfils. -/
structure PdOk (p : Pd) : Prop where
  nm : isName p.nm = true
  fm : 0 ≤ p.fm ∧ p.fm < 12622780800
  fe : 0 ≤ p.fe ∧ p.fe ≤ 1125899906842624
  ct : isName p.ct = true
  bs : ∀ b ∈ p.bs, 1 ≤ b.kd ∧ b.kd ≤ 4 ∧ b.ok ∧ b.zs.length ≤ 64 ∧ b.zs.all isName = true
theorem prodE_ok {p : Pd} (h : prodE p = 0) : PdOk p := by
  unfold prodE at h
  split at h
  · cases h
  rename_i h1
  split at h
  · cases h
  rename_i h2
  split at h
  · cases h
  rename_i h3
  split at h
  · cases h
  rename_i h4
  split at h
  · cases h
  refine ⟨by simpa using h1, by omega, by omega, by simpa using h4, fun b hb => ?_⟩
  have hE := bundlesE_all _ h b hb
  unfold bundleE at hE
  split at hE
  · cases hE
  rename_i k1
  split at hE
  · rename_i k2; exact absurd hE k2
  rename_i k2
  split at hE
  · cases hE
  rename_i k3
  have hz : zonesE b.zs = 0 := Decidable.not_not.1 k2
  unfold zonesE at hz
  split at hz
  · cases hz
  rename_i z1
  split at hz
  · cases hz
  rename_i z2
  exact ⟨by omega, by omega, Decidable.not_not.1 k3, by omega, by simpa using z2⟩
theorem checkE_ok {P : List Pd} (h : checkE P = 0) : P.length ≤ 4096 ∧ ∀ p ∈ P, PdOk p := by
  unfold checkE at h
  split at h
  · cases h
  · exact ⟨by omega, fun p hp => prodE_ok (prodsE_all P none h p hp)⟩
/-- What the laws take of valid events and products. -/
structure Case44 (l : List Ev) (P : List Pd) : Prop where
  le : l.length ≤ 40
  lp : P.length ≤ 8
  r : OkRun l
  f : FewP P
  b : ∀ p ∈ P, p.bs.length ≤ 4
  ok : ∀ p ∈ P, PdOk p
theorem case44 {l : List Ev} {P : List Pd} {b w c : Nat} {t : Int} (h : fewB l P b w c t = true) (hr : OkRun l) (hc : checkE P = 0) : Case44 l P := by
  obtain ⟨h1, h2, -, -, -, h6, -⟩ := fewB_is h
  obtain ⟨c1, c2⟩ := checkE_ok hc
  exact ⟨h1, h2, hr, ⟨c1, fun p hp => ⟨by have := h6 p hp; omega, fun b hb => by have := (c2 p hp).bs b hb; omega⟩⟩, h6, c2⟩
def TruTo (P : Prop) (w : World) (e : Ending) (w' : World) : Prop := (∃ b, e = .returned (.bool b) ∧ (b = true → P)) ∧ Below w.heap.size w w'

set_option maxRecDepth 100000 in
set_option maxHeartbeats 6400000 in
theorem valid44_calls (ea pa : Option Addr) (en pn ec pc : Nat) (f t : Int) (l : List Ev) (P : List Pd) (w : World) (he : EvsAt w (.slice ea en ec) l) (hp : PdsAt w (.slice pa pn pc) P) :
    Calls Tryz.prog 11 #[.agg #[.slice ea en ec, .slice pa pn pc, .int .i64 f, .int .i64 t]] w (TruTo (Case44 l P) w) := by
  obtain ⟨W, hW⟩ : ∃ W, W = w.alloc (Obj.cells #[.slice ea en ec, .slice pa pn pc, .int .i64 f, .int .i64 t] 27) := ⟨_, rfl⟩
  have hw0 : Below w.heap.size w W := by rw [hW]; exact (Below.refl _ _).alloc (Nat.le_refl _) _
  have rW : W.heap[w.heap.size]? = some (Obj.cells #[.slice ea en ec, .slice pa pn pc, .int .i64 f, .int .i64 t] 27) := by rw [hW]; exact heap_alloc_new _ _
  have hzW : w.heap.size < W.heap.size := (Array.getElem?_eq_some_iff.1 rW).1
  have HM := Lib.hid (show ∀ w', Below W.heap.size W w' → w'.cell? ⟨w.heap.size, 0, none⟩ = some (.slice ea en ec) ∧ w'.cell? ⟨w.heap.size, 1, none⟩ = some (.slice pa pn pc) from fun w' hb => by
    have q := (hb.block _ hzW).trans rW
    exact ⟨cell_of_row w' _ 0 _ _ _ q, cell_of_row w' _ 1 _ _ _ q⟩)
  have HW := Lib.hid hW
  have Hw0 := Lib.hid hw0
  have HE := Lib.hid (he.below hw0)
  have HP := Lib.hid (hp.below hw0)
  have HFw := Lib.hid (few35_calls _ _ none none none 0 0 0 0 0 0 l P 0 W (he.below hw0) (hp.below hw0) (Nat.zero_le _) (Nat.zero_le _) (Nat.zero_le _) (by decide) (by decide))
  obtain ⟨m0, m1⟩ := HM.out W (Below.refl _ _)
  clear hW rW hw0 he hp
  go_enter Tryz.func11, Tryz.ntmps11
  go_upto_region 1 with (fail)
  rw [← HW.out]
  go_wp2_with fail
  refine HFw.out.mono ?_
  rintro e w1 ⟨rfl, hb1⟩
  have HbW := Lib.hid hb1
  have Hb1 := Lib.hid (Hw0.out.trans (hb1.mono Hw0.out.size))
  clear m0 m1
  obtain ⟨m0, m1⟩ := HM.out w1 hb1
  clear hb1
  cases hfw : fewB l P 0 0 0 0 with
  | false =>
    clear hfw m0 m1
    go_wp2
    go_ret
    exact ⟨⟨false, rfl, fun h => by cases h⟩, Hb1.out⟩
  | true =>
    have Hfw := Lib.hid hfw
    have HCk := Lib.hid (check17_calls _ l w1 (HE.out.below HbW.out) (by have := (fewB_is hfw).1; omega))
    clear hfw
    go_wp2_with fail
    refine HCk.out.mono ?_
    rintro e w2 ⟨p0, r0, rfl, hr0, hb2⟩
    have Hb2W := Lib.hid (HbW.out.trans (hb2.mono HbW.out.size))
    have Hb2 := Lib.hid (Hb1.out.trans (hb2.mono Hb1.out.size))
    have Hr0 := Lib.hid hr0
    clear m0 m1 hb2 hr0
    by_cases hrz : r0 = 0
    · have HOk := Lib.hid (Hr0.out hrz)
      subst hrz
      obtain ⟨m0, m1⟩ := HM.out w2 Hb2W.out
      have HPc := Lib.hid (rpcheck_calls _ P w2 (HP.out.below Hb2W.out))
      go_wp2_with fail
      refine HPc.out.mono ?_
      rintro e w3 ⟨rfl, hb3⟩
      have Hb3 := Lib.hid (Hb2.out.trans (hb3.mono Hb2.out.size))
      clear m0 m1 hb3
      by_cases hcz : checkE P = 0
      · have HC := Lib.hid (case44 Hfw.out HOk.out hcz)
        have hc1 : (checkE P == 0) = true := beq_iff_eq.2 hcz
        clear hcz
        generalize checkE P = cE at *
        go_wp2
        go_ret
        exact ⟨⟨_, rfl, fun _ => HC.out⟩, Hb3.out⟩
      · have hc1 : (checkE P == 0) = false := beq_eq_false_iff_ne.2 hcz
        clear hcz
        generalize checkE P = cE at *
        go_wp2
        go_ret
        exact ⟨⟨false, rfl, fun h => by cases h⟩, Hb3.out⟩
    · have hr1 : (r0 == 0) = false := beq_eq_false_iff_ne.2 hrz
      clear hrz
      go_wp2
      go_ret
      exact ⟨⟨false, rfl, fun h => by cases h⟩, Hb2.out⟩

end Go.Proofs.YtngippiilgdnoaaGreat
