/-
  The walks of segment.Rate and of the reference's Rate.
-/
import Derived.Test.YtnekgkmlodeckaaMgbe
import Derived.Shelf.Abstract
namespace Go.Proofs.Ytnekgkmlodeckaa
open Go.RowKit

def IsSl (v : Value) : Prop := ∃ (a : Option Addr) (n c : Nat), v = .slice a n c
theorem SliceAt.isSl {α : Type} {sz : Nat} {R : World → Nat → Nat → α → Prop} {w : World} {v : Value} {l : List α} (h : SliceAt sz R w v l) : IsSl v := by
  obtain ⟨a, c, e, -⟩ := h
  exact ⟨a, _, c, e⟩
theorem rateTo_none {o : Option Rt} {w w' : World} (h : o = none) (hb : Below w.heap.size w w') : RateTo o w (.returned (.tuple #[.agg #[.int .i64 0, .string ⟨#[]⟩, .string ⟨#[]⟩, .int .i64 0, .slice none 0 0], .bool false])) w' := by
  subst h
  exact ⟨.slice none 0 0, rfl, SliceAt.nil _, hb⟩
/-- A rate whose steps are a row of the call's own, and a truth. -/
def FreshTo (o : Option Rt) (w : World) (e : Ending) (w' : World) : Prop :=
  ∃ sv, e = .returned (.tuple #[.agg #[.int .i64 (o.getD zeroRt).1, .string (o.getD zeroRt).2.1, .string (o.getD zeroRt).2.2.1, .int .i64 (o.getD zeroRt).2.2.2.1, sv], .bool o.isSome]) ∧ StpAt w' sv (o.getD zeroRt).2.2.2.2 ∧ Below w.heap.size w w' ∧ ∀ g, sv.ownBlock = some g → w.heap.size ≤ g
theorem FreshTo.rate {o : Option Rt} {w w' : World} {e : Ending} (h : FreshTo o w e w') : RateTo o w e w' := by
  obtain ⟨sv, h1, h2, h3, -⟩ := h
  exact ⟨sv, h1, h2, h3⟩
theorem freshTo_none {o : Option Rt} {w w' : World} (h : o = none) (hb : Below w.heap.size w w') : FreshTo o w (.returned (.tuple #[.agg #[.int .i64 0, .string ⟨#[]⟩, .string ⟨#[]⟩, .int .i64 0, .slice none 0 0], .bool false])) w' := by
  subst h
  exact ⟨.slice none 0 0, rfl, SliceAt.nil _, hb, fun g e => by cases e⟩
theorem freshTo_some {o : Option Rt} {x : Rt} {w w' : World} {sv : Value} (h : o = some x) (hs : StpAt w' sv x.2.2.2.2) (hb : Below w.heap.size w w') (hf : ∀ g, sv.ownBlock = some g → w.heap.size ≤ g) : FreshTo o w (.returned (.tuple #[.agg #[.int .i64 x.1, .string x.2.1, .string x.2.2.1, .int .i64 x.2.2.2.1, sv], .bool true])) w' := by
  subst h
  exact ⟨sv, rfl, hs, hb, hf⟩
theorem rateTo_some {o : Option Rt} {x : Rt} {w w' : World} {sv : Value} (h : o = some x) (hs : StpAt w' sv x.2.2.2.2) (hb : Below w.heap.size w w') : RateTo o w (.returned (.tuple #[.agg #[.int .i64 x.1, .string x.2.1, .string x.2.2.1, .int .i64 x.2.2.2.1, sv], .bool true])) w' := by
  subst h
  exact ⟨sv, rfl, hs, hb⟩

/-- A rate whose steps lay there already, and a truth. -/
def OldTo (o : Option Rt) (w0 w : World) (e : Ending) (w' : World) : Prop :=
  ∃ sv, e = .returned (.tuple #[.agg #[.int .i64 (o.getD zeroRt).1, .string (o.getD zeroRt).2.1, .string (o.getD zeroRt).2.2.1, .int .i64 (o.getD zeroRt).2.2.2.1, sv], .bool o.isSome]) ∧ StpAt w0 sv (o.getD zeroRt).2.2.2.2 ∧ Below w.heap.size w w'
theorem OldTo.rate {o : Option Rt} {w w' : World} {e : Ending} (h : OldTo o w w e w') : RateTo o w e w' := by
  obtain ⟨sv, h1, h2, h3⟩ := h
  exact ⟨sv, h1, h2.below h3, h3⟩
theorem oldTo_none {o : Option Rt} {w0 w w' : World} (h : o = none) (hb : Below w.heap.size w w') : OldTo o w0 w (.returned (.tuple #[.agg #[.int .i64 0, .string ⟨#[]⟩, .string ⟨#[]⟩, .int .i64 0, .slice none 0 0], .bool false])) w' := by
  subst h
  exact ⟨.slice none 0 0, rfl, SliceAt.nil _, hb⟩
theorem oldTo_some {o : Option Rt} {x : Rt} {w0 w w' : World} {sv : Value} (h : o = some x) (hs : StpAt w0 sv x.2.2.2.2) (hb : Below w.heap.size w w') : OldTo o w0 w (.returned (.tuple #[.agg #[.int .i64 x.1, .string x.2.1, .string x.2.2.1, .int .i64 x.2.2.2.1, sv], .bool true])) w' := by
  subst h
  exact ⟨sv, rfl, hs, hb⟩

set_option maxRecDepth 100000 in
set_option maxHeartbeats 12800000 in
theorem rate_calls (nm : ByteArray) (fr : Int) (sl : Bool) (zv bv rv dv : Value) (rs : List Rt) (kd : Int) (zn bn : ByteArray) (w : World) (hz : IsSl zv) (hb0 : IsSl bv) (hd : IsSl dv) (hr : RtsAt w rv rs) (hsm : ∀ r ∈ rs, r.2.2.2.2.length ≤ 5864062014634) :
    Calls Try.prog 17 #[.agg #[.string nm, .int .i64 fr, .bool sl, zv, bv, rv, dv], .int .i64 kd, .string zn, .string bn] w (FreshTo (rateF kd zn bn rs) w) := by
  have eg : ∀ args w, (callFunc 51 args).run Try.prog w = .ok (.enter 51 args) w := Go.Proofs.enters_of Try.func51 (by kernel_rfl) rfl
  obtain ⟨za, zl, zc, rfl⟩ := hz
  obtain ⟨ba, bl, bc, rfl⟩ := hb0
  obtain ⟨da, dl, dc, rfl⟩ := hd
  have hr0 := hr
  obtain ⟨ra, rc, rfl, hrl, hrm, -⟩ := hr0
  obtain ⟨W, hW⟩ : ∃ W, W = ((((w.alloc (Obj.cells #[Value.string nm, .int .i64 fr, .bool sl, .slice za zl zc, .slice ba bl bc, .slice ra rs.length rc, .slice da dl dc] 27)).alloc (Obj.cells #[Value.int .i64 kd] 3)).alloc (Obj.cells #[Value.string zn] 9)).alloc (Obj.cells #[Value.string bn] 9)).alloc (Obj.cells #[Value.int .i64 0, .string ⟨#[]⟩, .string ⟨#[]⟩, .int .i64 0, .slice none 0 0] 33) := ⟨_, rfl⟩
  have hw0 : Below w.heap.size w W := by rw [hW]; go_grown
  have hzW : W.heap.size = w.heap.size + 5 := by rw [hW]; simp
  have q0 : W.cell? ⟨w.heap.size, 5, none⟩ = some (.slice ra rs.length rc) := by rw [hW]; simp [go_sem]
  have q1 : W.cell? ⟨w.heap.size + 1, 0, none⟩ = some (.int .i64 kd) := by rw [hW]; simp [go_sem]
  have q2 : W.cell? ⟨w.heap.size + 2, 0, none⟩ = some (.string zn) := by rw [hW]; simp [go_sem]
  have q3 : W.cell? ⟨w.heap.size + 3, 0, none⟩ = some (.string bn) := by rw [hW]; simp [go_sem]
  have q4 : W.heap[w.heap.size + 4]? = some (Obj.cells #[Value.int .i64 0, .string ⟨#[]⟩, .string ⟨#[]⟩, .int .i64 0, .slice none 0 0] 33) := by rw [hW]; simpa using heap_alloc_new ((((w.alloc _).alloc _).alloc _).alloc _) _
  have HM := Lib.hid (show ∀ w', Below W.heap.size W w' → w'.cell? ⟨w.heap.size, 5, none⟩ = some (.slice ra rs.length rc) ∧ w'.cell? ⟨w.heap.size + 1, 0, none⟩ = some (.int .i64 kd) ∧ w'.cell? ⟨w.heap.size + 2, 0, none⟩ = some (.string zn) ∧ w'.cell? ⟨w.heap.size + 3, 0, none⟩ = some (.string bn) ∧ w'.heap[w.heap.size + 4]? = some (Obj.cells #[Value.int .i64 0, .string ⟨#[]⟩, .string ⟨#[]⟩, .int .i64 0, .slice none 0 0] 33) ∧ w.heap.size + 5 ≤ w'.heap.size from fun w' hb =>
    ⟨(hb.cell (p := ⟨w.heap.size, _, none⟩) (by show w.heap.size < _; omega)).trans q0, (hb.cell (p := ⟨w.heap.size + 1, _, none⟩) (by show w.heap.size + 1 < _; omega)).trans q1, (hb.cell (p := ⟨w.heap.size + 2, _, none⟩) (by show w.heap.size + 2 < _; omega)).trans q2, (hb.cell (p := ⟨w.heap.size + 3, _, none⟩) (by show w.heap.size + 3 < _; omega)).trans q3, (hb.block _ (by omega)).trans q4, by have := hb.size; omega⟩)
  have HW := Lib.hid hW
  have Hw0 := Lib.hid hw0
  have Hr := Lib.hid (hr.below hw0)
  have Hsm := Lib.hid hsm
  have HRF := Lib.hid (show rateF kd zn bn rs = rs.find? (fitsR kd zn bn) from rfl)
  generalize rateF kd zn bn rs = o at *
  have hrm := hrm.1
  unfold maxLen at hrm
  clear hW hw0 q0 q1 q2 q3 q4 hr hsm hzW
  obtain ⟨m0, -, -, -, -, -⟩ := HM.out W (Below.refl _ _)
  go_enter Try.func17, Try.ntmps17
  go_upto_region 1 with (fail)
  rw [← HW.out]
  go_wp2_with fail
  clear m0
  go_loopw [17] (fun i wr => ∃ k : Nat, k ≤ rs.length ∧ i = .int .i64 k ∧ (rs.take k).find? (fitsR kd zn bn) = none ∧ Below W.heap.size W wr) (fun i _ => rs.length - (intOf i).toNat)
  case atStart => exact ⟨0, Nat.zero_le _, rfl, rfl, Below.refl _ _⟩
  case round =>
    obtain ⟨k, hk, rfl, hn, hb⟩ := hrel
    have Hn := Lib.hid hn
    have Hb := Lib.hid hb
    obtain ⟨m0, m1, m2, m3, m4, m5⟩ := HM.out wr hb
    clear hn
    by_cases hlt : k < rs.length
    · have HT := Lib.hid (fun h => find_take (p := fitsR kd zn bn) hlt Hn.out h)
      have HH := Lib.hid (fun h => find_hit (p := fitsR kd zn bn) hlt Hn.out h)
      have hlen := Hsm.out rs[k] (List.getElem_mem hlt)
      obtain ⟨ra2, rc2, e2, -, -, hx⟩ := Hr.out.below hb
      cases e2
      obtain ⟨b, o', rfl, hB, hx⟩ := hx (by rintro rfl; cases hlt)
      obtain ⟨c0, ⟨c1, -⟩, ⟨c2, -⟩, c3, sv, c4, hs⟩ := hx k hlt
      have hk0 : (0 : Int) ≤ (k : Int) := Int.natCast_nonneg _
      have hk1 : (k : Int) < (rs.length : Int) := by omega
      clear hx
      generalize rs[k] = x at *
      obtain ⟨xk, xz, xb, xs, xl⟩ := x
      dsimp only at c0 c1 c2 c3 hs hlen
      have Hs := Lib.hid hs
      obtain ⟨sa, sc, rfl, -, -, -⟩ := hs
      obtain ⟨X, hX⟩ : ∃ X, X = wr.alloc (Obj.cells #[Value.int .i64 xk, .string xz, .string xb, .int .i64 xs, .slice sa xl.length sc] 33) := ⟨_, rfl⟩
      have hbX : Below wr.heap.size wr X := by rw [hX]; exact (Below.refl _ _).alloc (Nat.le_refl _) _
      have hzX : X.heap.size = wr.heap.size + 1 := by rw [hX]; simp
      have rX : X.heap[wr.heap.size]? = some (Obj.cells #[Value.int .i64 xk, .string xz, .string xb, .int .i64 xs, .slice sa xl.length sc] 33) := by rw [hX]; exact heap_alloc_new _ _
      have HbX := Lib.hid hbX
      have hWX := hb.trans (hbX.mono hb.size)
      obtain ⟨-, k1, k2, k3, -, k5⟩ := HM.out X hWX
      have HC := Lib.hid (fits_calls (xk, xz, xb, xs, xl) (.slice sa xl.length sc) kd zn bn (w.heap.size + 1) (w.heap.size + 2) (w.heap.size + 3) X (by omega) (by omega) (by omega) k1 k2 k3 ⟨_, _, _, rfl⟩)
      have HrX := Lib.hid rX
      have HX := Lib.hid hX
      have HWX := Lib.hid hWX
      have x0 := cell_of_row X _ 0 _ _ _ rX
      have x1 := cell_of_row X _ 1 _ _ _ rX
      have x2 := cell_of_row X _ 2 _ _ _ rX
      have x3 := cell_of_row X _ 3 _ _ _ rX
      have x4 := cell_of_row X _ 4 _ _ _ rX
      clear hX rX k1 k2 k3 hWX hb hbX m1 m2 m3 m4
      go_upto_region 5 with (fail)
      rw [← HX.out]
      clear c0 c1 c2 c3 c4 m0
      go_wp2_with fail
      refine HC.out.mono ?_
      rintro e w2 ⟨rfl, hb2⟩
      have Hb2 := Lib.hid hb2
      have HWb := Lib.hid (HWX.out.trans (hb2.mono HWX.out.size))
      have rX2 := (hb2.block wr.heap.size (by omega)).trans HrX.out
      have hs2 := hb2.size
      clear x0 x1 x2 x3 x4
      cases hg : fitsR kd zn bn (xk, xz, xb, xs, xl) with
      | false =>
        have HE := Lib.hid (HT.out hg)
        clear hg rX2
        go_wp2
        exact ⟨⟨k + 1, by omega, by go_num, HE.out, HWb.out⟩, by simp [intOf]; omega⟩
      | true =>
        have HE := Lib.hid (HRF.out.trans (HH.out hg))
        have x4 := cell_of_row w2 _ 4 _ _ _ rX2
        have HrX2 := Lib.hid rX2
        have Hs2 := Lib.hid (Hs.out.below (HbX.out.trans (hb2.mono HbX.out.size)))
        clear hg rX2
        go_wp2_with (at_builtin; refine append_stps rfl _ _ rfl w2.heap.size (Nat.le_refl _) _ _ [] xl rfl rfl ⟨rfl, Or.inl ⟨rfl, rfl⟩⟩ Hs2.out (by simp; omega) ?_)
        intro R hR v3 w3 hown3 hb3
        obtain rfl : xl = R := hR.out.symm
        have hown3' := hown3
        obtain ⟨a3, c3, rfl, -, -⟩ := own_shape hown3'
        have rX3 := (hb3.block wr.heap.size (by omega)).trans HrX2.out
        have HW3 := Lib.hid (HWb.out.trans (hb3.mono HWb.out.size))
        obtain ⟨-, -, -, -, m4, m5'⟩ := HM.out w3 HW3.out
        have hs3 := hb3.size
        have Hown3 := Lib.hid hown3
        clear x4 hown3 hown3' hb3
        have y0 := cell_of_row w3 _ 0 _ _ _ rX3
        have y1 := cell_of_row w3 _ 1 _ _ _ rX3
        have y2 := cell_of_row w3 _ 2 _ _ _ rX3
        have y3 := cell_of_row w3 _ 3 _ _ _ rX3
        have y4 := cell_of_row w3 _ 4 _ _ _ rX3
        have f4 : w3.frozen? ⟨wr.heap.size, 4, none⟩ = false := by simp [World.frozen?, rX3]
        have hne : ¬ w.heap.size + 4 = wr.heap.size := by omega
        have hne2 : ¬ wr.heap.size = w.heap.size + 4 := by omega
        have n0 : w3.cell? ⟨w.heap.size + 4, 0, none⟩ = some (Value.int .i64 0) := cell_of_row w3 _ 0 _ _ _ m4
        have e0 : w3.frozen? ⟨w.heap.size + 4, 0, none⟩ = false := by simp [World.frozen?, m4]
        have n1 : w3.cell? ⟨w.heap.size + 4, 1, none⟩ = some (Value.string ⟨#[]⟩) := cell_of_row w3 _ 1 _ _ _ m4
        have e1 : w3.frozen? ⟨w.heap.size + 4, 1, none⟩ = false := by simp [World.frozen?, m4]
        have n2 : w3.cell? ⟨w.heap.size + 4, 2, none⟩ = some (Value.string ⟨#[]⟩) := cell_of_row w3 _ 2 _ _ _ m4
        have e2 : w3.frozen? ⟨w.heap.size + 4, 2, none⟩ = false := by simp [World.frozen?, m4]
        have n3 : w3.cell? ⟨w.heap.size + 4, 3, none⟩ = some (Value.int .i64 0) := cell_of_row w3 _ 3 _ _ _ m4
        have e3 : w3.frozen? ⟨w.heap.size + 4, 3, none⟩ = false := by simp [World.frozen?, m4]
        have n4 : w3.cell? ⟨w.heap.size + 4, 4, none⟩ = some (Value.slice none 0 0) := cell_of_row w3 _ 4 _ _ _ m4
        have e4 : w3.frozen? ⟨w.heap.size + 4, 4, none⟩ = false := by simp [World.frozen?, m4]
        have Hk := Lib.hid (fun g e => (ownsRow_block Hown3.out g e).1)
        have hB3 := Hw0.out.trans (HW3.out.mono Hw0.out.size)
        clear rX3 m4
        go_wp2
        refine bodyPost_ret (v := .tuple #[.agg #[.int .i64 xk, .string xz, .string xb, .int .i64 xs, .slice a3 xl.length c3], .bool true]) (by simp [results, Try.results17, go_sem, n0, n1, n2, n3, n4]) rfl (freshTo_some HE.out ?_ ?_ ?_)
        · have h0 : StpAt w3 (.slice a3 xl.length c3) xl := stpAt_own Hown3.out
          have h1 := stp_set (a := ⟨wr.heap.size, 4, none⟩) (x := .slice a3 xl.length c3) h0 (fun g e => by have := Hk.out g e; show g ≠ wr.heap.size; omega)
          have h2 := stp_set (a := ⟨w.heap.size + 4, 0, none⟩) (x := .int .i64 xk) h1 (fun g e => by have := Hk.out g e; show g ≠ w.heap.size + 4; omega)
          have h3 := stp_set (a := ⟨w.heap.size + 4, 1, none⟩) (x := .string xz) h2 (fun g e => by have := Hk.out g e; show g ≠ w.heap.size + 4; omega)
          have h4 := stp_set (a := ⟨w.heap.size + 4, 2, none⟩) (x := .string xb) h3 (fun g e => by have := Hk.out g e; show g ≠ w.heap.size + 4; omega)
          have h5 := stp_set (a := ⟨w.heap.size + 4, 3, none⟩) (x := .int .i64 xs) h4 (fun g e => by have := Hk.out g e; show g ≠ w.heap.size + 4; omega)
          exact stp_set (a := ⟨w.heap.size + 4, 4, none⟩) (x := .slice a3 xl.length c3) h5 (fun g e => by have := Hk.out g e; show g ≠ w.heap.size + 4; omega)
        · go_grown
        · exact fun g e => by have := Hk.out g e; omega
    · have HE := Lib.hid (HRF.out.trans (find_end (by omega) Hn.out))
      have n0 : wr.cell? ⟨w.heap.size + 4, 0, none⟩ = some (Value.int .i64 0) := cell_of_row wr _ 0 _ _ _ m4
      have e0 : wr.frozen? ⟨w.heap.size + 4, 0, none⟩ = false := by simp [World.frozen?, m4]
      have n1 : wr.cell? ⟨w.heap.size + 4, 1, none⟩ = some (Value.string ⟨#[]⟩) := cell_of_row wr _ 1 _ _ _ m4
      have e1 : wr.frozen? ⟨w.heap.size + 4, 1, none⟩ = false := by simp [World.frozen?, m4]
      have n2 : wr.cell? ⟨w.heap.size + 4, 2, none⟩ = some (Value.string ⟨#[]⟩) := cell_of_row wr _ 2 _ _ _ m4
      have e2 : wr.frozen? ⟨w.heap.size + 4, 2, none⟩ = false := by simp [World.frozen?, m4]
      have n3 : wr.cell? ⟨w.heap.size + 4, 3, none⟩ = some (Value.int .i64 0) := cell_of_row wr _ 3 _ _ _ m4
      have e3 : wr.frozen? ⟨w.heap.size + 4, 3, none⟩ = false := by simp [World.frozen?, m4]
      have n4 : wr.cell? ⟨w.heap.size + 4, 4, none⟩ = some (Value.slice none 0 0) := cell_of_row wr _ 4 _ _ _ m4
      have e4 : wr.frozen? ⟨w.heap.size + 4, 4, none⟩ = false := by simp [World.frozen?, m4]
      have Hwb := Lib.hid (Hw0.out.trans (hb.mono Hw0.out.size))
      clear m4 hb
      go_wp2
      refine bodyPost_ret (v := .tuple #[.agg #[.int .i64 0, .string ⟨#[]⟩, .string ⟨#[]⟩, .int .i64 0, .slice none 0 0], .bool false]) (by simp [results, Try.results17, go_sem, n0, n1, n2, n3, n4]) rfl (freshTo_none HE.out ?_)
      have hB3 := Hwb.out
      go_grown

set_option maxRecDepth 100000 in
set_option maxHeartbeats 12800000 in
theorem rrate_calls (nm : ByteArray) (fr : Int) (sl : Bool) (zv bv rv dv : Value) (rs : List Rt) (kd : Int) (zn bn : ByteArray) (w0 w : World) (hw00 : Below w0.heap.size w0 w) (hz : IsSl zv) (hb0 : IsSl bv) (hd : IsSl dv) (hr : RtsAt w0 rv rs) :
    Calls Try.prog 18 #[.agg #[.string nm, .int .i64 fr, .bool sl, zv, bv, rv, dv], .int .i64 kd, .string zn, .string bn] w (OldTo (rateF kd zn bn rs) w0 w) := by
  obtain ⟨za, zl, zc, rfl⟩ := hz
  obtain ⟨ba, bl, bc, rfl⟩ := hb0
  obtain ⟨da, dl, dc, rfl⟩ := hd
  have hr0 := hr
  obtain ⟨ra, rc, rfl, hrl, hrm, -⟩ := hr0
  obtain ⟨W, hW⟩ : ∃ W, W = (w.alloc (Obj.cells #[Value.string nm, .int .i64 fr, .bool sl, .slice za zl zc, .slice ba bl bc, .slice ra rs.length rc, .slice da dl dc] 27)).alloc (Obj.cells #[Value.int .i64 0, .string ⟨#[]⟩, .string ⟨#[]⟩, .int .i64 0, .slice none 0 0] 33) := ⟨_, rfl⟩
  have hw0 : Below w.heap.size w W := by rw [hW]; go_grown
  have hzW : W.heap.size = w.heap.size + 2 := by rw [hW]; simp
  have q0 : W.cell? ⟨w.heap.size, 5, none⟩ = some (.slice ra rs.length rc) := by rw [hW]; simp [go_sem]
  have q4 : W.heap[w.heap.size + 1]? = some (Obj.cells #[Value.int .i64 0, .string ⟨#[]⟩, .string ⟨#[]⟩, .int .i64 0, .slice none 0 0] 33) := by rw [hW]; simpa using heap_alloc_new (w.alloc _) _
  have HM := Lib.hid (show ∀ w', Below W.heap.size W w' → w'.cell? ⟨w.heap.size, 5, none⟩ = some (.slice ra rs.length rc) ∧ w'.heap[w.heap.size + 1]? = some (Obj.cells #[Value.int .i64 0, .string ⟨#[]⟩, .string ⟨#[]⟩, .int .i64 0, .slice none 0 0] 33) ∧ w.heap.size + 2 ≤ w'.heap.size from fun w' hb =>
    ⟨(hb.cell (p := ⟨w.heap.size, _, none⟩) (by show w.heap.size < _; omega)).trans q0, (hb.block _ (by omega)).trans q4, by have := hb.size; omega⟩)
  have HW := Lib.hid hW
  have Hw0 := Lib.hid hw0
  have Hr := Lib.hid hr
  have HRF := Lib.hid (show rateF kd zn bn rs = rs.find? (fitsR kd zn bn) from rfl)
  generalize rateF kd zn bn rs = o at *
  have hrm := hrm.1
  unfold maxLen at hrm
  have H00 := Lib.hid hw00
  clear hW hw0 q0 q4 hr hzW hw00
  obtain ⟨m0, -, -⟩ := HM.out W (Below.refl _ _)
  go_enter Try.func18, Try.ntmps18
  go_upto_region 1 with (fail)
  rw [← HW.out]
  go_wp2_with fail
  clear m0
  go_loopw [10] (fun i wr => ∃ k : Nat, k ≤ rs.length ∧ i = .int .i64 k ∧ (rs.take k).find? (fitsR kd zn bn) = none ∧ Below W.heap.size W wr) (fun i _ => rs.length - (intOf i).toNat)
  case atStart => exact ⟨0, Nat.zero_le _, rfl, rfl, Below.refl _ _⟩
  case round =>
    obtain ⟨k, hk, rfl, hn, hb⟩ := hrel
    have Hn := Lib.hid hn
    have Hb := Lib.hid hb
    obtain ⟨m0, m4, m5⟩ := HM.out wr hb
    clear hn
    by_cases hlt : k < rs.length
    · have HT := Lib.hid (fun h => find_take (p := fitsR kd zn bn) hlt Hn.out h)
      have HH := Lib.hid (fun h => find_hit (p := fitsR kd zn bn) hlt Hn.out h)
      have hwr := H00.out.trans ((Hw0.out.trans (hb.mono Hw0.out.size)).mono H00.out.size)
      obtain ⟨ra2, rc2, e2, -, -, hx⟩ := Hr.out
      cases e2
      obtain ⟨b, o', rfl, hB, hx⟩ := hx (by rintro rfl; cases hlt)
      obtain ⟨c0, ⟨c1, -⟩, ⟨c2, -⟩, c3, sv, c4, hs⟩ := hx k hlt
      have hk0 : (0 : Int) ≤ (k : Int) := Int.natCast_nonneg _
      have hk1 : (k : Int) < (rs.length : Int) := by omega
      clear hx
      generalize rs[k] = x at *
      obtain ⟨xk, xz, xb, xs, xl⟩ := x
      dsimp only at c0 c1 c2 c3 hs
      have Hs := Lib.hid hs
      obtain ⟨sa, sc, rfl, -, -, -⟩ := hs
      have c0 := (hwr.cell (p := ⟨b, _, none⟩) hB).trans c0
      have c1 := (hwr.cell (p := ⟨b, _, none⟩) hB).trans c1
      have c2 := (hwr.cell (p := ⟨b, _, none⟩) hB).trans c2
      have c3 := (hwr.cell (p := ⟨b, _, none⟩) hB).trans c3
      have c4 := (hwr.cell (p := ⟨b, _, none⟩) hB).trans c4
      have hB : b < w.heap.size := Nat.lt_of_lt_of_le hB H00.out.size
      obtain ⟨X, hX⟩ : ∃ X, X = wr.alloc (Obj.cells #[Value.int .i64 xk, .string xz, .string xb, .int .i64 xs, .slice sa xl.length sc] 33) := ⟨_, rfl⟩
      have hbX : Below wr.heap.size wr X := by rw [hX]; exact (Below.refl _ _).alloc (Nat.le_refl _) _
      have rX : X.heap[wr.heap.size]? = some (Obj.cells #[Value.int .i64 xk, .string xz, .string xb, .int .i64 xs, .slice sa xl.length sc] 33) := by rw [hX]; exact heap_alloc_new _ _
      have hWX := hb.trans (hbX.mono hb.size)
      obtain ⟨-, k4, k5⟩ := HM.out X hWX
      have HP := Lib.hid (show fitsR kd zn bn (xk, xz, xb, xs, xl) = (decide (xk = kd) && ((sameS xz zn || sameS xz ByteArray.empty) && (sameS xb bn || sameS xb ByteArray.empty))) from rfl)
      have HE0 := Lib.hid (fun (h : fitsR kd zn bn (xk, xz, xb, xs, xl) = false) => HT.out h)
      have HE1 := Lib.hid (fun (h : fitsR kd zn bn (xk, xz, xb, xs, xl) = true) => HRF.out.trans (HH.out h))
      have HX := Lib.hid hX
      have HWX := Lib.hid hWX
      have hBX := Hw0.out.trans (hWX.mono Hw0.out.size)
      have x0 := cell_of_row X _ 0 _ _ _ rX
      have x1 := cell_of_row X _ 1 _ _ _ rX
      have x2 := cell_of_row X _ 2 _ _ _ rX
      have x3 := cell_of_row X _ 3 _ _ _ rX
      have x4 := cell_of_row X _ 4 _ _ _ rX
      have n0 : X.cell? ⟨w.heap.size + 1, 0, none⟩ = some (Value.int .i64 0) := cell_of_row X _ 0 _ _ _ k4
      have e0 : X.frozen? ⟨w.heap.size + 1, 0, none⟩ = false := by simp [World.frozen?, k4]
      have n1 : X.cell? ⟨w.heap.size + 1, 1, none⟩ = some (Value.string ⟨#[]⟩) := cell_of_row X _ 1 _ _ _ k4
      have e1 : X.frozen? ⟨w.heap.size + 1, 1, none⟩ = false := by simp [World.frozen?, k4]
      have n2 : X.cell? ⟨w.heap.size + 1, 2, none⟩ = some (Value.string ⟨#[]⟩) := cell_of_row X _ 2 _ _ _ k4
      have e2 : X.frozen? ⟨w.heap.size + 1, 2, none⟩ = false := by simp [World.frozen?, k4]
      have n3 : X.cell? ⟨w.heap.size + 1, 3, none⟩ = some (Value.int .i64 0) := cell_of_row X _ 3 _ _ _ k4
      have e3 : X.frozen? ⟨w.heap.size + 1, 3, none⟩ = false := by simp [World.frozen?, k4]
      have n4 : X.cell? ⟨w.heap.size + 1, 4, none⟩ = some (Value.slice none 0 0) := cell_of_row X _ 4 _ _ _ k4
      have e4 : X.frozen? ⟨w.heap.size + 1, 4, none⟩ = false := by simp [World.frozen?, k4]
      have hne : ¬ w.heap.size + 1 = wr.heap.size := by omega
      have hne2 : ¬ wr.heap.size = w.heap.size + 1 := by omega
      clear hX rX k4 hWX hb hbX m4 hwr HT HH
      generalize fitsR kd zn bn (xk, xz, xb, xs, xl) = P at *
      go_upto_region 5 with (fail)
      rw [← HX.out]
      clear c0 c1 c2 c3 c4 m0
      by_cases hk : xk = kd
      · have hkk : (xk == kd) = true := beq_iff_eq.2 hk
        by_cases hz2 : xz = ByteArray.empty
        · have hz3 : sameS xz ByteArray.empty = true := (sameS_iff _ _).2 hz2
          have hP2 : P = (sameS xb bn || sameS xb ByteArray.empty) := by rw [HP.out, hz3, decide_eq_true hk]; simp
          have HQ := Lib.hid hP2
          clear hz3 hP2
          subst hz2
          by_cases hb2 : xb = ByteArray.empty
          · have hb3 : sameS xb ByteArray.empty = true := (sameS_iff _ _).2 hb2
            have hp : P = true := by rw [HQ.out]; simp [hb3]
            have HE := Lib.hid (HE1.out hp)
            clear HP HQ hp
            subst hb2
            go_wp2
            refine bodyPost_ret (v := .tuple #[.agg #[.int .i64 xk, .string ByteArray.empty, .string ByteArray.empty, .int .i64 xs, .slice sa xl.length sc], .bool true]) (by simp [results, Try.results18, go_sem, n0, n1, n2, n3, n4, hk]) rfl (oldTo_some HE.out Hs.out ?_)
            go_grown
          · have hb3 : sameS xb ByteArray.empty = false := by
              cases h : sameS xb ByteArray.empty with
              | false => rfl
              | true => exact absurd ((sameS_iff _ _).1 h) hb2
            obtain ⟨hb4, hb5, hb6⟩ := empty_facts hb2
            cases hb1 : (xb.toList == bn.toList) with
            | true =>
              have hb1' : sameS xb bn = true := hb1
              have hp : P = true := by rw [HQ.out]; simp [hb1']
              have HE := Lib.hid (HE1.out hp)
              clear HP HQ hp
              go_wp2
              refine bodyPost_ret (v := .tuple #[.agg #[.int .i64 xk, .string ByteArray.empty, .string xb, .int .i64 xs, .slice sa xl.length sc], .bool true]) (by simp [results, Try.results18, go_sem, n0, n1, n2, n3, n4, hk]) rfl (oldTo_some HE.out Hs.out ?_)
              go_grown
            | false =>
              have hb1' : sameS xb bn = false := hb1
              have HE := Lib.hid (HE0.out (HQ.out.trans (by simp [hb1', hb3])))
              clear HP HQ
              go_wp2
              exact ⟨⟨k + 1, by omega, by go_num, HE.out, HWX.out⟩, by simp [intOf]; omega⟩
        · have hz3 : sameS xz ByteArray.empty = false := by
            cases h : sameS xz ByteArray.empty with
            | false => rfl
            | true => exact absurd ((sameS_iff _ _).1 h) hz2
          obtain ⟨hz4, hz5, hz6⟩ := empty_facts hz2
          cases hz1 : (xz.toList == zn.toList) with
          | true =>
            have hz1' : sameS xz zn = true := hz1
            by_cases hb2 : xb = ByteArray.empty
            · have hb3 : sameS xb ByteArray.empty = true := (sameS_iff _ _).2 hb2
              have hp : P = true := by rw [HP.out]; simp [hk, hz1', hb3]
              have HE := Lib.hid (HE1.out hp)
              clear HP hp
              subst hb2
              go_wp2
              refine bodyPost_ret (v := .tuple #[.agg #[.int .i64 xk, .string xz, .string ByteArray.empty, .int .i64 xs, .slice sa xl.length sc], .bool true]) (by simp [results, Try.results18, go_sem, n0, n1, n2, n3, n4, hk]) rfl (oldTo_some HE.out Hs.out ?_)
              go_grown
            · have hb3 : sameS xb ByteArray.empty = false := by
                cases h : sameS xb ByteArray.empty with
                | false => rfl
                | true => exact absurd ((sameS_iff _ _).1 h) hb2
              obtain ⟨hb4, hb5, hb6⟩ := empty_facts hb2
              cases hb1 : (xb.toList == bn.toList) with
              | true =>
                have hb1' : sameS xb bn = true := hb1
                have hp : P = true := by rw [HP.out]; simp [hk, hz1', hb1']
                have HE := Lib.hid (HE1.out hp)
                clear HP hp
                go_wp2
                refine bodyPost_ret (v := .tuple #[.agg #[.int .i64 xk, .string xz, .string xb, .int .i64 xs, .slice sa xl.length sc], .bool true]) (by simp [results, Try.results18, go_sem, n0, n1, n2, n3, n4, hk]) rfl (oldTo_some HE.out Hs.out ?_)
                go_grown
              | false =>
                have hb1' : sameS xb bn = false := hb1
                have HE := Lib.hid (HE0.out (HP.out.trans (by simp [hk, hz1', hb1', hb3])))
                clear HP
                go_wp2
                exact ⟨⟨k + 1, by omega, by go_num, HE.out, HWX.out⟩, by simp [intOf]; omega⟩
          | false =>
            have hz1' : sameS xz zn = false := hz1
            have HE := Lib.hid (HE0.out (HP.out.trans (by simp [hz1', hz3])))
            clear HP
            go_wp2
            exact ⟨⟨k + 1, by omega, by go_num, HE.out, HWX.out⟩, by simp [intOf]; omega⟩
      · have hkk : (xk == kd) = false := beq_eq_false_iff_ne.2 hk
        have HE := Lib.hid (HE0.out (HP.out.trans (by simp [hk])))
        clear HP
        go_wp2
        exact ⟨⟨k + 1, by omega, by go_num, HE.out, HWX.out⟩, by simp [intOf]; omega⟩
    · have HE := Lib.hid (HRF.out.trans (find_end (by omega) Hn.out))
      have n0 : wr.cell? ⟨w.heap.size + 1, 0, none⟩ = some (Value.int .i64 0) := cell_of_row wr _ 0 _ _ _ m4
      have e0 : wr.frozen? ⟨w.heap.size + 1, 0, none⟩ = false := by simp [World.frozen?, m4]
      have n1 : wr.cell? ⟨w.heap.size + 1, 1, none⟩ = some (Value.string ⟨#[]⟩) := cell_of_row wr _ 1 _ _ _ m4
      have e1 : wr.frozen? ⟨w.heap.size + 1, 1, none⟩ = false := by simp [World.frozen?, m4]
      have n2 : wr.cell? ⟨w.heap.size + 1, 2, none⟩ = some (Value.string ⟨#[]⟩) := cell_of_row wr _ 2 _ _ _ m4
      have e2 : wr.frozen? ⟨w.heap.size + 1, 2, none⟩ = false := by simp [World.frozen?, m4]
      have n3 : wr.cell? ⟨w.heap.size + 1, 3, none⟩ = some (Value.int .i64 0) := cell_of_row wr _ 3 _ _ _ m4
      have e3 : wr.frozen? ⟨w.heap.size + 1, 3, none⟩ = false := by simp [World.frozen?, m4]
      have n4 : wr.cell? ⟨w.heap.size + 1, 4, none⟩ = some (Value.slice none 0 0) := cell_of_row wr _ 4 _ _ _ m4
      have e4 : wr.frozen? ⟨w.heap.size + 1, 4, none⟩ = false := by simp [World.frozen?, m4]
      have Hwb := Lib.hid (Hw0.out.trans (hb.mono Hw0.out.size))
      clear m4 hb
      go_wp2
      refine bodyPost_ret (v := .tuple #[.agg #[.int .i64 0, .string ⟨#[]⟩, .string ⟨#[]⟩, .int .i64 0, .slice none 0 0], .bool false]) (by simp [results, Try.results18, go_sem, n0, n1, n2, n3, n4]) rfl (oldTo_none HE.out ?_)
      have hB3 := Hwb.out
      go_grown
end Go.Proofs.Ytnekgkmlodeckaa
