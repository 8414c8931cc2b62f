/-
  The chapter's example of a settlement: it comes out as the law asks.
  The walk of the law on statements: both give one statement.
  The walk of the law on statements: the program's and the reference's are one.
-/
import Derived.Test.YtohmdohbmmbbkaaDoorMgbq
import Derived.Test.YtohmdohbmmbbkaaDoorMgbr
import Derived.Test.YtohmdohbmmbbkaaDoorMgaz
import Derived.Shelf.Strconv.Itoa3
import Derived.Deep.DeepCutAuto
import Derived.Test.YtohmdohbmmbbkaaDoorMgas
namespace Go.Proofs.YtohmdohbmmbbkaaDoor
open Go.RowKit

abbrev exA1 : Ag := ⟨7, 1, true, 0, 2678400, [⟨0, 1, 5⟩], 100⟩
abbrev exA2 : Ag := ⟨7, 1, false, 0, 2678400, [⟨0, 1, 2⟩], 0⟩
abbrev exU1 : Us := ⟨0, 1, 0, 0, { data := #[] }, { data := #[] }, 5, 30, 7, true, 0, 0⟩
abbrev exU2 : Us := ⟨0, 1, 0, 0, { data := #[] }, { data := #[] }, 6, 40, 7, false, 0, 0⟩
theorem ex_stm : stmE [exA1, exA2] [exU1, exU2] 7 0 2678400 = (0, ⟨7, 0, 2678400, [⟨1, false, 1, 40, 80⟩, ⟨1, true, 1, 30, 100⟩], 20⟩) := by kernel_rfl
theorem ex_parts : partsL 0 2678400 [exU1, exU2] = [7, 7] := by kernel_rfl
theorem ex_sort : sortL [7, 7] = [7, 7] := by
  have h := sortL_perm [7, 7]
  have hl := sortL_len [7, 7]
  have := List.eq_replicate_iff.2 (⟨hl, fun b hb => by simpa using h.mem_iff.1 hb⟩ : (sortL [7, 7]).length = 2 ∧ ∀ b ∈ sortL [7, 7], b = (7 : Int))
  rw [this]; rfl
theorem ex_comp : Go.Lib.compact [(7 : Int), 7] = [7] := by decide +kernel
abbrev s7 : ByteArray := ⟨(Lib.decDigits 7).toArray⟩
theorem ex_s7 : s7 = { data := #[55] } := by decide +kernel
theorem ex_posts : postsL s7 (roundV 50000) = [({ data := #[112, 97, 114, 116, 110, 101, 114, 58, 55] }, 5), (sReve, -5)] := by decide +kernel

theorem month_calls (w : World) : Calls Tryd.prog 18 #[] w fun e w' => e = .returned (.agg #[.int .i64 0, .int .i64 2678400]) ∧ Below w.heap.size w w' := by
  have HB := Lib.hid (show ∀ o, Below w.heap.size w (w.alloc o) from fun o => (Below.refl _ _).alloc (Nat.le_refl _) o)
  go_enter Tryd.func18, Tryd.ntmps18
  go_wp2
  refine ⟨rfl, _, ?_, ⟨rfl, HB.out _⟩⟩
  rw [results_cell1 rfl]
  go_simp

theorem steps_one {w : World} {g : Nat} {t : TypeId} (s : St) (h : w.heap[g]? = some (Obj.cells #[.int .i64 s.u, .int .i64 s.q, .int .i64 s.p] t)) : StepsAt w (.slice (some ⟨g, 0, none⟩) 1 1) [s] :=
  ⟨_, 1, rfl, by show 1 ≤ maxLen; decide, fun _ => ⟨g, 0, rfl, (Array.getElem?_eq_some_iff.1 h).1, fun i hi => by
    obtain rfl : i = 0 := by simpa using hi
    exact ⟨cell_of_row w g 0 _ _ _ h, cell_of_row w g 1 _ _ _ h, cell_of_row w g 2 _ _ _ h⟩⟩⟩
def SampleTo (w : World) (e : Ending) (w' : World) : Prop := ∃ v, e = .returned v ∧ AgsAt w' v [exA1, exA2] ∧ Below w.heap.size w w'
set_option maxRecDepth 100000 in
set_option maxHeartbeats 3200000 in
theorem sample_calls (w : World) : Calls Tryd.prog 17 #[] w (SampleTo w) := by
  have HM := Lib.hid (fun w' => month_calls w')
  go_enter Tryd.func17, Tryd.ntmps17
  go_wp2_with fail
  refine (HM.out _).mono ?_
  rintro e w1 ⟨rfl, hb1⟩
  have Hb1 := Lib.hid hb1
  clear hb1
  go_wp2_with fail
  refine (HM.out _).mono ?_
  rintro e w2 ⟨rfl, hb2⟩
  have Hb2 := Lib.hid hb2
  clear hb2
  have r1 := (Hb2.out.block w1.heap.size (by simp)).trans (heap_alloc_new _ _)
  have hs1 : w1.heap.size < w2.heap.size := (Array.getElem?_eq_some_iff.1 r1).1
  have hs0 := Hb1.out.size
  have Hw2 := Lib.hid ((Hb1.out.alloc hs0 (Obj.cells #[.int .i64 0, .int .i64 1, .int .i64 5] 79)).trans (Hb2.out.mono (by simp; omega)))
  obtain ⟨X, hX⟩ : ∃ X, X = (w2.alloc (Obj.cells #[Value.int .i64 0, .int .i64 1, .int .i64 2] 79)).alloc (Obj.cells #[Value.int .i64 7, .int .i64 1, .bool true, .int .i64 0, .int .i64 2678400, .slice (some ⟨w1.heap.size, 0, none⟩) 1 1, .int .i64 100, .int .i64 7, .int .i64 1, .bool false, .int .i64 0, .int .i64 2678400, .slice (some ⟨w2.heap.size, 0, none⟩) 1 1, .int .i64 0] 53) := ⟨_, rfl⟩
  have hbX : Below w.heap.size w X := by rw [hX]; exact (Hw2.out.alloc Hw2.out.size _).alloc (by have := Hw2.out.size; simp; omega) _
  have q1 : X.heap[w1.heap.size]? = some (Obj.cells #[Value.int .i64 0, .int .i64 1, .int .i64 5] 79) := by
    rw [hX, Below.heap_alloc _ _ _ (by simp; omega), Below.heap_alloc _ _ _ hs1]
    exact r1
  have q2 : X.heap[w2.heap.size]? = some (Obj.cells #[Value.int .i64 0, .int .i64 1, .int .i64 2] 79) := by
    rw [hX, Below.heap_alloc _ _ _ (by simp)]
    exact heap_alloc_new _ _
  have q3 : X.heap[w2.heap.size + 1]? = some (Obj.cells #[Value.int .i64 7, .int .i64 1, .bool true, .int .i64 0, .int .i64 2678400, .slice (some ⟨w1.heap.size, 0, none⟩) 1 1, .int .i64 100, .int .i64 7, .int .i64 1, .bool false, .int .i64 0, .int .i64 2678400, .slice (some ⟨w2.heap.size, 0, none⟩) 1 1, .int .i64 0] 53) := by
    rw [hX]
    simpa using heap_alloc_new (w2.alloc (Obj.cells #[Value.int .i64 0, .int .i64 1, .int .i64 2] 79)) _
  have HS := Lib.hid (show SampleTo w (.returned (.slice (some ⟨w2.heap.size + 1, 0, none⟩) 2 2)) X from by
    refine ⟨_, rfl, ⟨_, 2, rfl, Nat.le_refl _, ⟨by decide, fun h => by cases h⟩, fun _ => ⟨w2.heap.size + 1, 0, rfl, (Array.getElem?_eq_some_iff.1 q3).1, fun i hi => ?_⟩⟩, hbX⟩
    have c := fun j => cell_of_row X _ j _ _ _ q3
    have hi : i < 2 := hi
    have s1 := steps_one ⟨0, 1, 5⟩ q1
    have s2 := steps_one ⟨0, 1, 2⟩ q2
    match i, hi with
    | 0, _ => exact ⟨c 0, c 1, c 2, c 3, c 4, ⟨_, c 5, s1, fun _ _ h => by cases h⟩, c 6⟩
    | 1, _ => exact ⟨c 7, c 8, c 9, c 10, c 11, ⟨_, c 12, s2, fun _ _ h => by cases h⟩, c 13⟩)
  have HX := Lib.hid hX
  clear r1 hs1 hs0 hX hbX q1 q2 q3
  go_wp2
  rw [← HX.out]
  go_ret
  exact HS.out

def BoolTo (b : Bool) (w : World) (e : Ending) (w' : World) : Prop := e = .returned (.bool b) ∧ Below w.heap.size w w'
theorem itoa7_calls (w : World) : Calls Tryd.prog 35 #[.int .i64 7] w fun e w'' => e = .returned (.string s7) ∧ Below w.heap.size w w'' := by
  have h := Go.Proofs.Any.strconv_Itoa_small Tryd.itoaS 7 (by decide) w
  change Calls Tryd.prog 35 _ _ _ at h
  refine h.mono ?_
  rintro e w' ⟨rfl, rfl⟩
  exact ⟨rfl, Below.refl _ _⟩

set_option maxRecDepth 100000 in
set_option maxHeartbeats 12800000 in
theorem alive51_calls (w : World) : Calls Tryd.prog 8 #[] w (BoolTo true w) := by
  have HMo := Lib.hid (fun w' => month_calls w')
  have HSa := Lib.hid (fun w' => sample_calls w')
  obtain ⟨W, hW⟩ : ∃ W, W = w.alloc (Obj.cells #[Value.int .i64 0, .int .i64 1, .int .i64 0, .int .i64 0, .string { data := #[] }, .string { data := #[] }, .int .i64 5, .int .i64 30, .int .i64 7, .bool true, .int .i64 0, .int .i64 0, Value.int .i64 0, .int .i64 1, .int .i64 0, .int .i64 0, .string { data := #[] }, .string { data := #[] }, .int .i64 6, .int .i64 40, .int .i64 7, .bool false, .int .i64 0, .int .i64 0] 47) := ⟨_, rfl⟩
  have hbW : Below w.heap.size w W := by rw [hW]; exact (Below.refl _ _).alloc (Nat.le_refl _) _
  have rW : W.heap[w.heap.size]? = some (Obj.cells #[Value.int .i64 0, .int .i64 1, .int .i64 0, .int .i64 0, .string { data := #[] }, .string { data := #[] }, .int .i64 5, .int .i64 30, .int .i64 7, .bool true, .int .i64 0, .int .i64 0, Value.int .i64 0, .int .i64 1, .int .i64 0, .int .i64 0, .string { data := #[] }, .string { data := #[] }, .int .i64 6, .int .i64 40, .int .i64 7, .bool false, .int .i64 0, .int .i64 0] 47) := by rw [hW]; exact heap_alloc_new _ _
  have HU := Lib.hid (show UssAt W (.slice (some ⟨w.heap.size, 0, none⟩) 2 2) [exU1, exU2] from by
    refine ⟨_, 2, rfl, Nat.le_refl _, ⟨by decide, fun h => by cases h⟩, fun _ => ⟨w.heap.size, 0, rfl, (Array.getElem?_eq_some_iff.1 rW).1, fun i hi => ?_⟩⟩
    have c := fun j => cell_of_row W _ j _ _ _ rW
    have hi : i < 2 := hi
    match i, hi with
    | 0, _ =>
      intro j hj
      match j, hj with
      | 0, _ => exact c 0
      | 1, _ => exact c 1
      | 2, _ => exact c 2
      | 3, _ => exact c 3
      | 4, _ => exact c 4
      | 5, _ => exact c 5
      | 6, _ => exact c 6
      | 7, _ => exact c 7
      | 8, _ => exact c 8
      | 9, _ => exact c 9
      | 10, _ => exact c 10
      | 11, _ => exact c 11
    | 1, _ =>
      intro j hj
      match j, hj with
      | 0, _ => exact c 12
      | 1, _ => exact c 13
      | 2, _ => exact c 14
      | 3, _ => exact c 15
      | 4, _ => exact c 16
      | 5, _ => exact c 17
      | 6, _ => exact c 18
      | 7, _ => exact c 19
      | 8, _ => exact c 20
      | 9, _ => exact c 21
      | 10, _ => exact c 22
      | 11, _ => exact c 23)
  have HW := Lib.hid hW
  have HbW := Lib.hid hbW
  clear hW hbW rW
  go_enter Tryd.func8, Tryd.ntmps8
  go_upto_region 2 with (fail)
  rw [← HW.out]
  go_wp2_with fail
  refine (HSa.out W).mono ?_
  rintro e w1 ⟨va, rfl, hag, hb1⟩
  have Hag := Lib.hid hag
  have Hb1 := Lib.hid hb1
  clear hag hb1
  go_wp2_with fail
  refine (HMo.out w1).mono ?_
  rintro e w2 ⟨rfl, hb2⟩
  have Hb2 := Lib.hid (Hb1.out.trans (hb2.mono Hb1.out.size))
  have HSt := Lib.hid (statement_calls va (.slice (some ⟨w.heap.size, 0, none⟩) 2 2) [exA1, exA2] [exU1, exU2] 7 0 2678400 w2 (Hag.out.below hb2) (HU.out.below Hb2.out) (by decide) (by decide))
  rw [ex_stm] at HSt
  clear hb2
  go_wp2_with fail
  refine HSt.out.mono ?_
  rintro e w3 ⟨vc, rfl, hown, hb3⟩
  obtain ⟨g, cap, rfl, hgb, hgl⟩ := hown.form (by decide)
  have Hb3 := Lib.hid (Hb2.out.trans (hb3.mono Hb2.out.size))
  have Hown := Lib.hid hown
  clear hb3 hown HSt
  dsimp only
  obtain ⟨X, hX⟩ : ∃ X, X = w3.alloc (Obj.cells #[Value.int .i64 7, .int .i64 0, .int .i64 2678400, .slice (some ⟨g, 0, none⟩) 2 cap, .int .i64 20] 32) := ⟨_, rfl⟩
  have hbX : Below w3.heap.size w3 X := by rw [hX]; exact (Below.refl _ _).alloc (Nat.le_refl _) _
  have rX : X.heap[w3.heap.size]? = some (Obj.cells #[Value.int .i64 7, .int .i64 0, .int .i64 2678400, .slice (some ⟨g, 0, none⟩) 2 cap, .int .i64 20] 32) := by rw [hX]; exact heap_alloc_new _ _
  have hcX := fun j (hj : j < 10) => ((ownsRow_below Hown.out hbX).cellAt j hj)
  have c1 : X.cell? ⟨g, 1, none⟩ = some (.bool false) := hcX 1 (by decide)
  have c4 : X.cell? ⟨g, 4, none⟩ = some (.int .i64 80) := hcX 4 (by decide)
  have c9 : X.cell? ⟨g, 9, none⟩ = some (.int .i64 100) := hcX 9 (by decide)
  have x2 := cell_of_row X _ 3 _ _ _ rX
  have x4 := cell_of_row X _ 4 _ _ _ rX
  have HX := Lib.hid hX
  have HbX := Lib.hid (Hb3.out.trans (hbX.mono Hb3.out.size))
  have HrX := Lib.hid rX
  have hgX : g < X.heap.size := by have := hbX.size; omega
  clear hX hbX rX hcX
  go_upto_region 3 with (fail)
  rw [← HX.out]
  go_upto_region 5 with (fail)
  clear c1 c4 c9 x2 x4
  go_wp2_with fail
  refine (HMo.out X).mono ?_
  rintro e w4 ⟨rfl, hb4⟩
  have Hb4 := Lib.hid (HbX.out.trans (hb4.mono HbX.out.size))
  have HP := Lib.hid (partners_calls (.slice (some ⟨w.heap.size, 0, none⟩) 2 2) [exU1, exU2] 0 2678400 w4 (HU.out.below Hb4.out) (by decide) (by rw [ex_parts]; simp))
  rw [ex_parts, ex_sort, ex_comp] at HP
  have Hx4 := Lib.hid hb4
  clear hb4
  go_wp2_with fail
  refine HP.out.mono ?_
  rintro e w5 ⟨pb, pc, rfl, hpg, hic, hb5⟩
  have Hb5 := Lib.hid (Hb4.out.trans (hb5.mono Hb4.out.size))
  have hx5 := Hx4.out.trans (hb5.mono Hx4.out.size)
  have hXs : w3.heap.size < X.heap.size := (Array.getElem?_eq_some_iff.1 HrX.out).1
  have r5 := (hx5.block _ hXs).trans HrX.out
  have Hic := Lib.hid hic
  obtain ⟨pa, pc2, e2, -, -, hpx⟩ := hic
  cases e2
  obtain ⟨pb2, po, e3, hpb, hpc⟩ := hpx (by simp)
  cases e3
  have p0 : w5.cell? ⟨pb, 0, none⟩ = some (.int .i64 7) := hpc 0 (by decide)
  have x3 := cell_of_row w5 _ 4 _ _ _ r5
  have f3 : w5.frozen? ⟨w3.heap.size, 4, none⟩ = false := by simp [World.frozen?, r5]
  have hpX : w3.heap.size ≠ pb := by have := Hx4.out.size; omega
  obtain ⟨Y, hY⟩ : ∃ Y, Y = w5.setCell ⟨w3.heap.size, 4, none⟩ (.int .i64 50000) := ⟨_, rfl⟩
  have rY : Y.heap[w3.heap.size]? = some (Obj.cells #[Value.int .i64 7, .int .i64 0, .int .i64 2678400, .slice (some ⟨g, 0, none⟩) 2 cap, .int .i64 50000] 32) := by rw [hY]; exact heap_setCell_same w5 _ 4 _ _ _ r5
  have hpY : Y.cell? ⟨pb, 0, none⟩ = some (.int .i64 7) := by rw [hY]; exact (World.cell?_setCell_far _ _ _ _ hpX).trans p0
  have hsY : Y.heap.size = w5.heap.size := by rw [hY]; simp [World.setCell]
  have hbY : Below w.heap.size w Y := by rw [hY]; exact (HbW.out.trans (Hb5.out.mono HbW.out.size)).setCell (by show w.heap.size ≤ w3.heap.size; have := HbW.out.size; have := Hb3.out.size; omega) _
  have HY := Lib.hid hY
  have HbY := Lib.hid hbY
  have HpY := Lib.hid hpY
  have hplY : pb < Y.heap.size := by omega
  clear hY hbY hpY hpc hpx hpb hsY p0
  go_upto_region 7 with (fail)
  rw [← HY.out]
  clear x3 f3 r5
  have x0 := cell_of_row Y _ 0 _ _ _ rY
  have x1 := cell_of_row Y _ 1 _ _ _ rY
  have x2 := cell_of_row Y _ 2 _ _ _ rY
  have x3 := cell_of_row Y _ 3 _ _ _ rY
  have x4 := cell_of_row Y _ 4 _ _ _ rY
  have HE := Lib.hid (entry_calls 7 0 2678400 50000 9 (some ⟨g, 0, none⟩) 2 cap s7 Y (by rw [ex_s7]; decide) (by decide) (by decide) (fun w' _ => itoa7_calls w'))
  clear rY
  go_wp2_with fail
  refine HE.out.mono ?_
  rintro e w6 ⟨vq, rfl, hown6, hb6⟩
  rw [ex_posts] at hown6
  obtain ⟨q, qc, rfl, hqg, hql⟩ := hown6.form (by decide)
  have Hb6 := Lib.hid (HbY.out.trans (hb6.mono HbY.out.size))
  have hpZ := (hb6.cell (p := ⟨pb, 0, none⟩) hplY).trans HpY.out
  have hpl6 : pb < w6.heap.size := by have := hb6.size; omega
  obtain ⟨Z, hZ⟩ : ∃ Z, Z = w6.alloc (Obj.cells #[Value.int .i64 9, .string sSett, .slice (some ⟨q, 0, none⟩) 2 qc] 40) := ⟨_, rfl⟩
  have hbZ : Below w6.heap.size w6 Z := by rw [hZ]; exact (Below.refl _ _).alloc (Nat.le_refl _) _
  have rZ : Z.heap[w6.heap.size]? = some (Obj.cells #[Value.int .i64 9, .string sSett, .slice (some ⟨q, 0, none⟩) 2 qc] 40) := by rw [hZ]; exact heap_alloc_new _ _
  have p0 := (hbZ.cell (p := ⟨pb, 0, none⟩) hpl6).trans hpZ
  have z0 := cell_of_row Z _ 0 _ _ _ rZ
  have z2 := cell_of_row Z _ 2 _ _ _ rZ
  have q0 : Z.cell? ⟨q, 0, none⟩ = some (.string { data := #[112, 97, 114, 116, 110, 101, 114, 58, 55] }) := (ownsRow_below hown6 hbZ).cellAt 0 (by decide)
  have q1 : Z.cell? ⟨q, 1, none⟩ = some (.int .i64 5) := (ownsRow_below hown6 hbZ).cellAt 1 (by decide)
  have HZ := Lib.hid hZ
  have HbZ := Lib.hid (Hb6.out.trans (hbZ.mono Hb6.out.size))
  clear hZ hbZ rZ hown6 hb6 x0 x1 x2 x3 x4 hpZ
  go_upto_region 8 with (fail)
  rw [← HZ.out]
  go_wp2
  go_ret
  exact ⟨rfl, HbZ.out⟩
end Go.Proofs.YtohmdohbmmbbkaaDoor

namespace Go.Proofs.YtohmdohbmmbbkaaDoor
open Go.RowKit

/-- Charges, five cells each. -/
def ChgR (w : World) (b o : Nat) (c : Chg) : Prop := ∀ j, j < 5 → w.cell? ⟨b, o + j, none⟩ = (chCells c)[j]?
theorem ChgR.stays : Stays ChgR := fun _ _ b _ _ hb hB h j hj => (hb.cell (p := ⟨b, _, none⟩) hB).trans (h j hj)
def ChsAt (w : World) (v : Value) (l : List Chg) : Prop := SliceAt 5 ChgR w v l
theorem ChsAt.below {w w' : World} {v : Value} {l : List Chg} (h : ChsAt w v l) (hb : Below w.heap.size w w') : ChsAt w' v l := SliceAt.below ChgR.stays h hb
theorem ChsAt.own {w : World} {base : Nat} {e : TypeId} {v : Value} {l : List Chg} (h : w.ownsRow base e 5 v l.length (l.flatMap chCells)) : ChsAt w v l :=
  SliceAt.own chCells (fun _ => rfl) h fun _ _ _ _ h => h

set_option maxRecDepth 100000 in
set_option maxHeartbeats 6400000 in
theorem same51_calls (pa mf mt net : Int) (va vb : Value) (L : List Chg) (w : World) (ha : ChsAt w va L) (hb0 : ChsAt w vb L) :
    Calls Tryd.prog 11 #[.agg #[.int .i64 pa, .int .i64 mf, .int .i64 mt, va, .int .i64 net], .agg #[.int .i64 pa, .int .i64 mf, .int .i64 mt, vb, .int .i64 net]] w (BoolTo true w) := by
  have hA0 := ha
  have hB0 := hb0
  obtain ⟨aa, ca, rfl, hla, hma, -⟩ := ha
  obtain ⟨ab, cb, rfl, hlb, hmb, -⟩ := hb0
  have hma := hma.1
  have hmb := hmb.1
  unfold maxLen at hma hmb
  obtain ⟨W, hW⟩ : ∃ W, W = (w.alloc (Obj.cells #[Value.int .i64 pa, .int .i64 mf, .int .i64 mt, .slice aa L.length ca, .int .i64 net] 32)).alloc (Obj.cells #[Value.int .i64 pa, .int .i64 mf, .int .i64 mt, .slice ab L.length cb, .int .i64 net] 32) := ⟨_, rfl⟩
  have hbW : Below w.heap.size w W := by rw [hW]; go_grown
  have hzW : W.heap.size = w.heap.size + 2 := by rw [hW]; simp
  have r0 : W.heap[w.heap.size]? = some (Obj.cells #[Value.int .i64 pa, .int .i64 mf, .int .i64 mt, .slice aa L.length ca, .int .i64 net] 32) := by
    rw [hW, Below.heap_alloc _ _ _ (by simp)]
    exact heap_alloc_new _ _
  have r1 : W.heap[w.heap.size + 1]? = some (Obj.cells #[Value.int .i64 pa, .int .i64 mf, .int .i64 mt, .slice ab L.length cb, .int .i64 net] 32) := by
    rw [hW]
    simpa using heap_alloc_new (w.alloc (Obj.cells #[Value.int .i64 pa, .int .i64 mf, .int .i64 mt, .slice aa L.length ca, .int .i64 net] 32)) _
  have hA := hA0.below hbW
  have hB := hB0.below hbW
  have y := fun j => cell_of_row W w.heap.size j _ _ _ r0
  have z := fun j => cell_of_row W (w.heap.size + 1) j _ _ _ r1
  have y0 := y 0
  have y1 := y 1
  have y2 := y 2
  have y3 := y 3
  have y4 := y 4
  have z0 := z 0
  have z1 := z 1
  have z2 := z 2
  have z3 := z 3
  have z4 := z 4
  have e0 : ((L.length : Int) != (L.length : Int)) = false := by simp
  have HW := Lib.hid hW
  have HbW := Lib.hid hbW
  have HA := Lib.hid hA
  have HB := Lib.hid hB
  have HR := Lib.hid (And.intro r0 r1)
  have hl0 : w.heap.size < W.heap.size := by omega
  have hl1 : w.heap.size + 1 < W.heap.size := by omega
  clear hW hbW r0 r1 y z hA hB hA0 hB0 hzW
  go_enter Tryd.func11, Tryd.ntmps11
  go_upto_region 1 with (fail)
  rw [← HW.out]
  go_wp2_with fail
  go_loopg [5] L.length (fun g i wx => ∃ k : Nat, k + g = L.length ∧ i = .int .i64 k ∧ Below W.heap.size W wx)
  case atStart => exact ⟨0, by omega, rfl, Below.refl _ _⟩
  case round =>
    obtain ⟨k, hkg, rfl, hbr⟩ := hrel
    have r0 := (hbr.block _ hl0).trans HR.out.1
    have r1 := (hbr.block _ hl1).trans HR.out.2
    clear y0 y1 y2 y3 y4 z0 z1 z2 z3 z4
    have y3 := cell_of_row wr _ 3 _ _ _ r0
    have z3 := cell_of_row wr _ 3 _ _ _ r1
    have Hbr := Lib.hid hbr
    cases gk with
    | zero =>
      have hkz : ¬ ((k : Int) < (L.length : Int)) := by omega
      have HF := Lib.hid (HbW.out.trans (hbr.mono HbW.out.size))
      clear hkg hbr r0 r1
      go_wp2
      go_ret
      exact ⟨rfl, HF.out⟩
    | succ gk =>
      have hlt : k < L.length := by omega
      have hk1 : (k : Int) < (L.length : Int) := by omega
      have hk0 : (0 : Int) ≤ (k : Int) := Int.natCast_nonneg _
      obtain ⟨av2, cap2, e2, -, -, hx⟩ := HA.out
      cases e2
      obtain ⟨b1, o1, rfl, hB1, hx⟩ := hx (by rintro rfl; cases hlt)
      obtain ⟨av3, cap3, e3, -, -, hy⟩ := HB.out
      cases e3
      obtain ⟨b2, o2, rfl, hB2, hy⟩ := hy (by rintro rfl; cases hlt)
      have c := fun j (hj : j < 5) => (hbr.cell (p := ⟨b1, _, none⟩) hB1).trans (hx k hlt j hj)
      have d := fun j (hj : j < 5) => (hbr.cell (p := ⟨b2, _, none⟩) hB2).trans (hy k hlt j hj)
      clear hx hy
      generalize L[k] = y at *
      obtain ⟨kd, ib, cn, un, am⟩ := y
      unfold chCells at c d
      dsimp only at c d
      have hs := hbr.size
      have c0 : wr.cell? ⟨b1, o1 + k * 5, none⟩ = some (.int .i64 kd) := c 0 (by omega)
      have c1 := c 1 (by omega)
      have c2 := c 2 (by omega)
      have c3 := c 3 (by omega)
      have c4 := c 4 (by omega)
      have d0 : wr.cell? ⟨b2, o2 + k * 5, none⟩ = some (.int .i64 kd) := d 0 (by omega)
      have d1 := d 1 (by omega)
      have d2 := d 2 (by omega)
      have d3 := d 3 (by omega)
      have d4 := d 4 (by omega)
      clear c d r0 r1
      go_upto_region 6 with (fail)
      go_big_quiet (fail)
      go_wp2
      go_roundg gk
      case measure => omega
      case rel => exact ⟨k + 1, by omega, by first | rfl | simp, below_drewN2 Hbr.out _⟩
end Go.Proofs.YtohmdohbmmbbkaaDoor

namespace Go.Proofs.YtohmdohbmmbbkaaDoor
open Go.RowKit

def fewC (l : List Ag) (us : List Us) : Bool := fewAs l && decide (us.length ≤ 30)
theorem fewC_len {l : List Ag} {us : List Us} (h : fewC l us = true) : l.length ≤ 19 ∧ us.length ≤ 40 := by
  unfold fewC fewAs at h
  simp only [Bool.and_eq_true, decide_eq_true_eq] at h
  omega

set_option maxRecDepth 100000 in
set_option maxHeartbeats 3200000 in
theorem few51_calls (vl vu : Value) (l : List Ag) (us : List Us) (pa mf mt : Int) (w : World) (hl : AgsAt w vl l) (hu : UssAt w vu us) :
    Calls Tryd.prog 7 #[.agg #[vl, vu, .int .i64 pa, .int .i64 mf, .int .i64 mt]] w (BoolTo (fewC l us) w) := by
  obtain ⟨X, hX⟩ : ∃ X, X = w.alloc (Obj.cells #[vl, vu, .int .i64 pa, .int .i64 mf, .int .i64 mt] 27) := ⟨_, rfl⟩
  have hbX : Below w.heap.size w X := by rw [hX]; exact (Below.refl _ _).alloc (Nat.le_refl _) _
  have rX : X.heap[w.heap.size]? = some (Obj.cells #[vl, vu, .int .i64 pa, .int .i64 mf, .int .i64 mt] 27) := by rw [hX]; exact heap_alloc_new _ _
  have x0 := cell_of_row X _ 0 _ _ _ rX
  have x1 := cell_of_row X _ 1 _ _ _ rX
  have HF := Lib.hid (few50_calls vl l X (hl.below hbX))
  have HV := Lib.hid (show fewC l us = (fewAs l && decide (us.length ≤ 30)) from rfl)
  obtain ⟨la, lc, rfl, -, -, -⟩ := hl
  obtain ⟨ua, uc, rfl, -, -, -⟩ := hu
  generalize fewAs l = fl at *
  have HX := Lib.hid hX
  have HbX := Lib.hid hbX
  clear hX hbX rX
  cases fl with
  | false =>
    have HE := Lib.hid (show fewC l us = false by rw [HV.out]; rfl)
    rw [HE.out]
    go_enter Tryd.func7, Tryd.ntmps7
    go_upto_region 1 with (fail)
    rw [← HX.out]
    go_wp2_with fail
    refine HF.out.mono ?_
    rintro e w' ⟨rfl, rfl⟩
    go_wp2
    go_ret
    exact ⟨rfl, HbX.out⟩
  | true =>
    by_cases h30 : us.length ≤ 30
    · have HE := Lib.hid (show fewC l us = true by rw [HV.out, decide_eq_true h30]; rfl)
      rw [HE.out]
      have h30i : decide ((us.length : Int) ≤ 30) = true := decide_eq_true (by omega)
      go_enter Tryd.func7, Tryd.ntmps7
      go_upto_region 1 with (fail)
      rw [← HX.out]
      go_wp2_with fail
      refine HF.out.mono ?_
      rintro e w' ⟨rfl, rfl⟩
      go_wp2
      go_ret
      exact ⟨rfl, HbX.out⟩
    · have HE := Lib.hid (show fewC l us = false by rw [HV.out, decide_eq_false h30]; rfl)
      rw [HE.out]
      have h30i : decide ((us.length : Int) ≤ 30) = false := decide_eq_false (by omega)
      go_enter Tryd.func7, Tryd.ntmps7
      go_upto_region 1 with (fail)
      rw [← HX.out]
      go_wp2_with fail
      refine HF.out.mono ?_
      rintro e w' ⟨rfl, rfl⟩
      go_wp2
      go_ret
      exact ⟨rfl, HbX.out⟩

set_option maxRecDepth 100000 in
set_option maxHeartbeats 6400000 in
theorem statements51_law (vl vu : Value) (l : List Ag) (us : List Us) (pa mf mt : Int) (w : World) (hl : AgsAt w vl l) (hu : UssAt w vu us) :
    Calls Tryd.prog 3 #[.agg #[vl, vu, .int .i64 pa, .int .i64 mf, .int .i64 mt]] w (BoolTo true w) := by
  obtain ⟨X, hX⟩ : ∃ X, X = w.alloc (Obj.cells #[vl, vu, .int .i64 pa, .int .i64 mf, .int .i64 mt] 27) := ⟨_, rfl⟩
  have hbX : Below w.heap.size w X := by rw [hX]; exact (Below.refl _ _).alloc (Nat.le_refl _) _
  have rX : X.heap[w.heap.size]? = some (Obj.cells #[vl, vu, .int .i64 pa, .int .i64 mf, .int .i64 mt] 27) := by rw [hX]; exact heap_alloc_new _ _
  have hlX := hl.below hbX
  have huX := hu.below hbX
  have x0 := cell_of_row X _ 0 _ _ _ rX
  have x1 := cell_of_row X _ 1 _ _ _ rX
  have x2 := cell_of_row X _ 2 _ _ _ rX
  have x3 := cell_of_row X _ 3 _ _ _ rX
  have x4 := cell_of_row X _ 4 _ _ _ rX
  have HF := Lib.hid (few51_calls vl vu l us pa mf mt X hlX huX)
  have HAl := Lib.hid (fun w' => alive51_calls w')
  obtain ⟨la, lc, rfl, -, -, -⟩ := hl
  obtain ⟨ua, uc, rfl, -, -, -⟩ := hu
  obtain ⟨fl, hfl⟩ : ∃ fl, fl = fewC l us := ⟨_, rfl⟩
  rw [← hfl] at HF
  have Hfl := Lib.hid hfl
  have HX := Lib.hid hX
  have HbX := Lib.hid hbX
  have HrX := Lib.hid rX
  have Hl := Lib.hid hlX
  have Hu := Lib.hid huX
  have hzX : w.heap.size < X.heap.size := (Array.getElem?_eq_some_iff.1 rX).1
  clear hX hbX rX hlX huX hfl
  go_enter Tryd.func3, Tryd.ntmps3
  go_upto_region 1 with (fail)
  rw [← HX.out]
  go_wp2_with fail
  refine HF.out.mono ?_
  rintro e w1 ⟨rfl, hb1⟩
  have Hb1 := Lib.hid hb1
  have H1 := Lib.hid (HbX.out.trans (hb1.mono HbX.out.size))
  clear x0 x1 x2 x3 x4 hb1
  cases fl with
  | false =>
    go_wp2_with fail
    refine (HAl.out w1).mono ?_
    rintro e w2 ⟨rfl, hb2⟩
    have H2 := Lib.hid (H1.out.trans (hb2.mono H1.out.size))
    clear hb2
    go_wp2
    go_ret
    exact ⟨rfl, H2.out⟩
  | true =>
    obtain ⟨hl19, hu40⟩ := fewC_len Hfl.out.symm
    obtain ⟨r, hr⟩ : ∃ r, r = stmE l us pa mf mt := ⟨_, rfl⟩
    have HS := Lib.hid (fun w' (hb : Below X.heap.size X w') => statement_calls _ _ l us pa mf mt w' (Hl.out.below hb) (Hu.out.below hb) hl19 hu40)
    have HT := Lib.hid (fun w' (hb : Below X.heap.size X w') => rstatement_calls _ _ l us pa mf mt w' (Hl.out.below hb) (Hu.out.below hb) hl19 hu40)
    rw [← hr] at HS HT
    clear hr hl19 hu40
    obtain ⟨er, qa, qf, qt, qs, qn⟩ := r
    have HS1 := Lib.hid (HS.out w1 Hb1.out)
    have r1 := (Hb1.out.block _ hzX).trans HrX.out
    have x0 := cell_of_row w1 _ 0 _ _ _ r1
    have x1 := cell_of_row w1 _ 1 _ _ _ r1
    have x2 := cell_of_row w1 _ 2 _ _ _ r1
    have x3 := cell_of_row w1 _ 3 _ _ _ r1
    have x4 := cell_of_row w1 _ 4 _ _ _ r1
    clear r1
    go_wp2_with fail
    refine HS1.out.mono ?_
    rintro e w2 ⟨vc, rfl, hown, hb2⟩
    obtain ⟨ca, cc, rfl, -, -⟩ := own_shape hown
    dsimp only at hown ⊢
    obtain ⟨Y, hY⟩ : ∃ Y, Y = w2.alloc (Obj.cells #[Value.int .i64 qa, .int .i64 qf, .int .i64 qt, .slice ca qs.length cc, .int .i64 qn] 32) := ⟨_, rfl⟩
    have hbY : Below w2.heap.size w2 Y := by rw [hY]; exact (Below.refl _ _).alloc (Nat.le_refl _) _
    have rY : Y.heap[w2.heap.size]? = some (Obj.cells #[Value.int .i64 qa, .int .i64 qf, .int .i64 qt, .slice ca qs.length cc, .int .i64 qn] 32) := by rw [hY]; exact heap_alloc_new _ _
    have hwY := Hb1.out.trans ((hb2.trans (hbY.mono hb2.size)).mono Hb1.out.size)
    have HcY := Lib.hid ((ChsAt.own hown).below hbY)
    have HY := Lib.hid hY
    have HrY := Lib.hid rY
    have HwY := Lib.hid hwY
    have HTY := Lib.hid (HT.out Y hwY)
    have hyl : w2.heap.size < Y.heap.size := (Array.getElem?_eq_some_iff.1 rY).1
    have r1 := (hwY.block _ hzX).trans HrX.out
    clear x0 x1 x2 x3 x4 hY hbY rY hwY hown hb2
    have x0 := cell_of_row Y _ 0 _ _ _ r1
    have x1 := cell_of_row Y _ 1 _ _ _ r1
    have x2 := cell_of_row Y _ 2 _ _ _ r1
    have x3 := cell_of_row Y _ 3 _ _ _ r1
    have x4 := cell_of_row Y _ 4 _ _ _ r1
    clear r1
    go_upto_region 4 with (fail)
    rw [← HY.out]
    go_wp2_with fail
    refine HTY.out.mono ?_
    rintro e w3 ⟨vd, rfl, hown, hb3⟩
    obtain ⟨da, dc, rfl, -, -⟩ := own_shape hown
    dsimp only at hown ⊢
    obtain ⟨Z, hZ⟩ : ∃ Z, Z = w3.alloc (Obj.cells #[Value.int .i64 qa, .int .i64 qf, .int .i64 qt, .slice da qs.length dc, .int .i64 qn] 32) := ⟨_, rfl⟩
    have hbZ : Below w3.heap.size w3 Z := by rw [hZ]; exact (Below.refl _ _).alloc (Nat.le_refl _) _
    have rZ : Z.heap[w3.heap.size]? = some (Obj.cells #[Value.int .i64 qa, .int .i64 qf, .int .i64 qt, .slice da qs.length dc, .int .i64 qn] 32) := by rw [hZ]; exact heap_alloc_new _ _
    have hYZ := hb3.trans (hbZ.mono hb3.size)
    have HwZ := Lib.hid (HbX.out.trans ((HwY.out.trans (hYZ.mono HwY.out.size)).mono HbX.out.size))
    have HSm := Lib.hid (same51_calls qa qf qt qn _ _ qs Z (HcY.out.below hYZ) ((ChsAt.own hown).below hbZ))
    have rY := (hYZ.block _ hyl).trans HrY.out
    have HZ := Lib.hid hZ
    have HrZ := Lib.hid rZ
    have HrYZ := Lib.hid rY
    clear x0 x1 x2 x3 x4 hZ hbZ hYZ hown hb3
    have y0 := cell_of_row Z _ 0 _ _ _ rY
    have y1 := cell_of_row Z _ 1 _ _ _ rY
    have y2 := cell_of_row Z _ 2 _ _ _ rY
    have y3 := cell_of_row Z _ 3 _ _ _ rY
    have y4 := cell_of_row Z _ 4 _ _ _ rY
    have z0 := cell_of_row Z _ 0 _ _ _ rZ
    have z1 := cell_of_row Z _ 1 _ _ _ rZ
    have z2 := cell_of_row Z _ 2 _ _ _ rZ
    have z3 := cell_of_row Z _ 3 _ _ _ rZ
    have z4 := cell_of_row Z _ 4 _ _ _ rZ
    have heq : (er == er) = true := beq_self_eq_true er
    clear rY rZ
    go_upto_region 5 with (fail)
    rw [← HZ.out]
    go_wp2_with fail
    refine HSm.out.mono ?_
    rintro e w4 ⟨rfl, hb4⟩
    have H4 := Lib.hid (HwZ.out.trans (hb4.mono HwZ.out.size))
    clear y0 y1 y2 y3 y4 z0 z1 z2 z3 z4 hb4
    go_wp2_with fail
    refine (HAl.out w4).mono ?_
    rintro e w5 ⟨rfl, hb5⟩
    have H5 := Lib.hid (H4.out.trans (hb5.mono H4.out.size))
    clear hb5
    go_wp2
    go_ret
    exact ⟨rfl, H5.out⟩
end Go.Proofs.YtohmdohbmmbbkaaDoor
