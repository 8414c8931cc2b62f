/-
  The walk of segment.Cut.
-/
import Derived.Test.YtnekgkmlodeckaaMgaw
import Derived.Test.YtnekgkmlodeckaaMgbf
import Derived.Test.YtnekgkmlodeckaaMgbk
namespace Go.Proofs.Ytnekgkmlodeckaa
open Go.RowKit

/-- A segment: its band, start, units, amount. -/
abbrev Sg := ByteArray × Int × Int × Int
def sgCells (s : Sg) : List Value := [.string s.1, .int .i64 s.2.1, .int .i64 s.2.2.1, .int .i64 s.2.2.2]
def segOf (p : Pc) : Sg := (p.1, p.2.1, p.2.2 - p.2.1, 0)
def SgR (w : World) (b o : Nat) (x : Sg) : Prop := w.cell? ⟨b, o, none⟩ = some (.string x.1) ∧ w.cell? ⟨b, o + 1, none⟩ = some (.int .i64 x.2.1) ∧ w.cell? ⟨b, o + 2, none⟩ = some (.int .i64 x.2.2.1) ∧ w.cell? ⟨b, o + 3, none⟩ = some (.int .i64 x.2.2.2)
theorem SgR.stays : Stays SgR := fun w w' b _ _ hb hB ⟨h0, h1, h2, h3⟩ =>
  have c : ∀ j, w'.cell? ⟨b, j, none⟩ = w.cell? ⟨b, j, none⟩ := fun j => hb.cell (p := ⟨b, j, none⟩) hB
  ⟨(c _).trans h0, (c _).trans h1, (c _).trans h2, (c _).trans h3⟩
def SgsAt (w : World) (v : Value) (l : List Sg) : Prop := SliceAt 4 SgR w v l
theorem SgsAt.below {w w' : World} {v : Value} {l : List Sg} (h : SgsAt w v l) (hb : Below w.heap.size w w') : SgsAt w' v l := SliceAt.below SgR.stays h hb
theorem SgsAt.own {w : World} {base : Nat} {e : TypeId} {v : Value} {L : List Sg} (h : w.ownsRow base e 4 v L.length (L.flatMap sgCells)) : SgsAt w v L := by
  obtain ⟨-, h2⟩ := id h
  rcases h2 with ⟨rfl, h0⟩ | ⟨g, cap, cur, rfl, hB, hh, h1, h2, h3, h4⟩
  · obtain rfl : L = [] := List.length_eq_zero_iff.1 h0
    exact SliceAt.nil w
  · refine ⟨_, cap, rfl, h1, ⟨h2, fun h => by cases h⟩, fun _ => ⟨g, 0, rfl, (Array.getElem?_eq_some_iff.1 hh).1, fun i hi => ?_⟩⟩
    have f0 := flat_get sgCells 4 (fun _ => rfl) L i 0 hi (by omega)
    have f1 := flat_get sgCells 4 (fun _ => rfl) L i 1 hi (by omega)
    have f2 := flat_get sgCells 4 (fun _ => rfl) L i 2 hi (by omega)
    have f3 := flat_get sgCells 4 (fun _ => rfl) L i 3 hi (by omega)
    rw [Nat.add_zero] at f0
    rw [Nat.zero_add]
    exact ⟨(h.cellAt (i * 4) (by omega)).trans f0, (h.cellAt (i * 4 + 1) (by omega)).trans f1, (h.cellAt (i * 4 + 2) (by omega)).trans f2, (h.cellAt (i * 4 + 3) (by omega)).trans f3⟩

/-- Where the segments of a usage begin. -/
def beginU (u : Us) (free : Int) : Int := if u.kd = 1 then u.st + free else u.st
/-- The segments of a usage. -/
def SegR (bs : List Bn) (hol : List Int) (sl : Bool) (u : Us) (free : Int) (L : List Sg) : Prop :=
  if properP u free = true ∧ checkB bs = 0 then
    if u.kd = 1 ∧ sl = true then ∃ P, CutR bs hol (beginU u free) (u.st + u.un) P ∧ L = P.map segOf
    else L = [(atB bs hol (beginU u free), beginU u free, u.un - free, 0)]
  else L = []
theorem SegR.one {bs : List Bn} {hol : List Int} {sl : Bool} {u : Us} {free : Int} {L M : List Sg} (h : SegR bs hol sl u free L) (g : SegR bs hol sl u free M) : L = M := by
  unfold SegR at h g
  split at h
  · rename_i h1
    rw [if_pos h1] at g
    split at h
    · rename_i h2
      rw [if_pos h2] at g
      obtain ⟨P, p1, rfl⟩ := h
      obtain ⟨Q, q1, rfl⟩ := g
      rw [cutR_unique p1 q1]
    · rename_i h2
      rw [if_neg h2] at g
      rw [h, g]
  · rename_i h1
    rw [if_neg h1] at g
    rw [h, g]
def SegsTo (bs : List Bn) (hol : List Int) (sl : Bool) (u : Us) (free : Int) (w : World) (e : Ending) (w' : World) : Prop :=
  ∃ v L, e = .returned v ∧ w'.ownsRow w.heap.size 52 4 v L.length (L.flatMap sgCells) ∧ SegR bs hol sl u free L ∧ Below w.heap.size w w'
theorem segs_none {bs : List Bn} {hol : List Int} {sl : Bool} {u : Us} {free : Int} {w w' : World} (h : ¬ (properP u free = true ∧ checkB bs = 0)) (hb : Below w.heap.size w w') : SegsTo bs hol sl u free w (.returned (.slice none 0 0)) w' :=
  ⟨_, [], rfl, ⟨rfl, Or.inl ⟨rfl, rfl⟩⟩, by unfold SegR; rw [if_neg h], hb⟩
theorem Try.segInfo : (Try.prog.info? 52).map (fun i => (i.zero, i.size, i.bytes)) = some (some (.agg #[.string ⟨#[]⟩, .int .i64 0, .int .i64 0, .int .i64 0]), 4, 40) := by kernel_rfl
theorem proper_bounds {u : Us} {free : Int} (h : properP u free = true) : 0 ≤ free ∧ free < u.un ∧ u.un ≤ 1099511627776 ∧ 0 ≤ u.st ∧ u.st < 12622780800 ∧ (u.kd = 1 → u.un ≤ 604800 ∧ u.st + u.un ≤ 12622780800) := by
  unfold properP at h
  simp only [Bool.and_eq_true, Bool.or_eq_true, Bool.not_eq_true', Bool.or_eq_false_iff, decide_eq_true_eq, decide_eq_false_iff_not] at h
  obtain ⟨⟨h1, h2, h3, h4, h5⟩, h6⟩ := h
  refine ⟨by omega, by omega, by omega, by omega, by omega, fun e => ?_⟩
  rcases h6 with h6 | h6
  · exact absurd e h6
  · exact h6
theorem ownsRow_base {w : World} {b b' : Nat} {e : TypeId} {sz n : Nat} {v : Value} {xs : List Value} (h : w.ownsRow b e sz v n xs) (hb : b' ≤ b) : w.ownsRow b' e sz v n xs := by
  obtain ⟨h1, h2⟩ := h
  refine ⟨h1, ?_⟩
  rcases h2 with h2 | ⟨g, cap, cur, hv, hg, r⟩
  · exact Or.inl h2
  · exact Or.inr ⟨g, cap, cur, hv, Nat.le_trans hb hg, r⟩
theorem own_one {w : World} {base : Nat} (hb : base ≤ w.heap.size) (s : Sg) (t : TypeId) : (w.alloc (Obj.cells #[.string s.1, .int .i64 s.2.1, .int .i64 s.2.2.1, .int .i64 s.2.2.2] t)).ownsRow base t 4 (.slice (some ⟨w.heap.size, 0, none⟩) 1 1) 1 ([s].flatMap sgCells) :=
  ⟨rfl, Or.inr ⟨w.heap.size, 1, _, rfl, hb, heap_alloc_new _ _, Nat.le_refl _, by decide, rfl, rfl⟩⟩

set_option maxRecDepth 100000 in
set_option maxHeartbeats 12800000 in
theorem scut_calls (nm : ByteArray) (fr : Int) (sl : Bool) (zv bv rv dv vh : Value) (bs : List Bn) (hol : List Int) (u : Us) (free : Int) (w : World) (hz : IsSl zv) (hr : IsSl rv) (hd : IsSl dv) (hbs : BnsAt w bv bs) (hh : IcsAt w vh hol) :
    Calls Try.prog 22 #[.agg #[.string nm, .int .i64 fr, .bool sl, zv, bv, rv, dv], vh, .agg u.row, .int .i64 free] w (SegsTo bs hol sl u free w) := by
  obtain ⟨W, hW⟩ : ∃ W, W = (w.alloc (Obj.cells #[Value.string nm, .int .i64 fr, .bool sl, zv, bv, rv, dv] 27)).alloc (Obj.cells u.row 40) := ⟨_, rfl⟩
  have hw0 : Below w.heap.size w W := by rw [hW]; go_grown
  have hzW : W.heap.size = w.heap.size + 2 := by rw [hW]; simp
  have r0 : W.heap[w.heap.size]? = some (Obj.cells #[Value.string nm, .int .i64 fr, .bool sl, zv, bv, rv, dv] 27) := by
    rw [hW, Below.heap_alloc _ _ _ (by simp)]
    exact heap_alloc_new _ _
  have r1 : W.heap[w.heap.size + 1]? = some (Obj.cells u.row 40) := by
    rw [hW]
    simpa using heap_alloc_new (w.alloc (Obj.cells #[Value.string nm, .int .i64 fr, .bool sl, zv, bv, rv, dv] 27)) (Obj.cells u.row 40)
  have HM := Lib.hid (show ∀ w', Below W.heap.size W w' → w'.heap[w.heap.size]? = some (Obj.cells #[Value.string nm, .int .i64 fr, .bool sl, zv, bv, rv, dv] 27) ∧ w'.heap[w.heap.size + 1]? = some (Obj.cells u.row 40) from fun w' hb => ⟨(hb.block _ (by omega)).trans r0, (hb.block _ (by omega)).trans r1⟩)
  have HW := Lib.hid hW
  have Hw0 := Lib.hid hw0
  have HP := Lib.hid (proper_calls u free W)
  have HC := Lib.hid (fun w1 (hb : Below W.heap.size W w1) => check_calls bv bs w1 ((hbs.below hw0).below hb))
  have HA := Lib.hid (fun t w1 (hb : Below W.heap.size W w1) => at_calls bv vh bs hol t w1 ((hbs.below hw0).below hb) ((hh.below hw0).below hb))
  have HK := Lib.hid (fun pf pt w1 (hb : Below W.heap.size W w1) => pcut_calls bv vh bs hol pf pt w1 ((hbs.below hw0).below hb) ((hh.below hw0).below hb))
  have HN := Lib.hid (fun w' h (hb : Below w.heap.size w w') => (segs_none h hb : SegsTo bs hol sl u free w _ w'))
  have HS := Lib.hid (show ∀ L, SegR bs hol sl u free L ↔ (if properP u free = true ∧ checkB bs = 0 then (if u.kd = 1 ∧ sl = true then ∃ P, CutR bs hol (beginU u free) (u.st + u.un) P ∧ L = P.map segOf else L = [(atB bs hol (beginU u free), beginU u free, u.un - free, 0)]) else L = []) from fun L => Iff.rfl)
  have HPb := Lib.hid (fun h => proper_bounds (u := u) (free := free) h)
  obtain ⟨za, zl, zc, rfl⟩ := hz
  obtain ⟨ra, rl, rc, rfl⟩ := hr
  obtain ⟨da, dl, dc, rfl⟩ := hd
  obtain ⟨ba, bc, rfl, -, -, -⟩ := hbs
  obtain ⟨ha, hc, rfl, -, -, -⟩ := hh
  have HBe := Lib.hid (show beginU u free = if u.kd = 1 then u.st + free else u.st from rfl)
  unfold Us.row at *
  obtain ⟨id, kd, ac, sb, ua, ub, st, un, tr, ib, so, se⟩ := u
  dsimp only at HM HW HP HS HPb HBe ⊢
  obtain ⟨m0, m1⟩ := HM.out W (Below.refl _ _)
  have y := fun j => cell_of_row W (w.heap.size + 1) j _ _ _ m1
  have u0 := y 0
  have u1 := y 1
  have u2 := y 2
  have u3 := y 3
  have u4 := y 4
  have u5 := y 5
  have u6 := y 6
  have u7 := y 7
  have u8 := y 8
  have u9 := y 9
  have u10 := y 10
  have u11 := y 11
  have t4 := cell_of_row W _ 4 _ _ _ m0
  generalize hpp : properP ⟨id, kd, ac, sb, ua, ub, st, un, tr, ib, so, se⟩ free = pp at *
  generalize checkB bs = c at *
  clear hW hw0 r0 r1 y m0 m1 hpp
  go_enter Try.func22, Try.ntmps22
  go_upto_region 1 with (fail)
  rw [← HW.out]
  go_wp2_with fail
  refine HP.out.mono ?_
  rintro e w1 ⟨rfl, hb1⟩
  clear u0 u1 u2 u3 u4 u5 u6 u7 u8 u9 u10 u11 t4
  obtain ⟨m0, m1⟩ := HM.out w1 hb1
  have t4 := cell_of_row w1 _ 4 _ _ _ m0
  cases pp with
  | false =>
    have HN1 := Lib.hid (HN.out w1 (by simp) (Hw0.out.trans (hb1.mono Hw0.out.size)))
    go_wp2
    go_ret
    exact HN1.out
  | true =>
    obtain ⟨b1, b2, b3, b4, b5, b6⟩ := HPb.out (by first | rfl | trivial)
    have HC1 := Lib.hid (HC.out w1 hb1)
    go_wp2_with fail
    refine HC1.out.mono ?_
    rintro e w2 ⟨rfl, hb2⟩
    have hb2 := hb1.trans (hb2.mono hb1.size)
    have hb02 := Hw0.out.trans (hb2.mono Hw0.out.size)
    clear t4 m0 m1
    by_cases hc0 : c = 0
    · subst hc0
      obtain ⟨m0, m1⟩ := HM.out w2 hb2
      have t2 := cell_of_row w2 _ 2 _ _ _ m0
      have t4 := cell_of_row w2 _ 4 _ _ _ m0
      have u1 := cell_of_row w2 _ 1 _ _ _ m1
      have u6 := cell_of_row w2 _ 6 _ _ _ m1
      have u7 := cell_of_row w2 _ 7 _ _ _ m1
      have hwu : IntKind.i64.wrap (un - free) = un - free := IntWalk.i64_in _ (by omega)
      by_cases hk : kd = 1
      · have hkb : (kd == 1) = true := beq_iff_eq.2 hk
        have hkn : (kd != 1) = false := bne_eq_false_iff_eq.2 hk
        obtain ⟨b7, b8⟩ := b6 hk
        have hws : IntKind.i64.wrap (st + free) = st + free := IntWalk.i64_in _ (by omega)
        have hwe : IntKind.i64.wrap (st + un) = st + un := IntWalk.i64_in _ (by omega)
        cases sl with
        | true =>
          have HKt := Lib.hid (HK.out (st + free) (st + un) w2 hb2)
          have HSl := Lib.hid (fun P (hP : CutR bs hol (st + free) (st + un) P) => (HS.out (P.map segOf)).2 (by rw [if_pos ⟨by first | rfl | trivial, by first | rfl | trivial⟩, if_pos ⟨hk, rfl⟩, HBe.out, if_pos hk]; exact ⟨P, hP, rfl⟩))
          have Hb02 := Lib.hid hb02
          clear m0 m1 hb2
          go_wp2_with fail
          refine HKt.out.mono ?_
          rintro e w5 ⟨P, v5, rfl, hP, hR, hb5⟩
          have HSP := Lib.hid (HSl.out P hR)
          obtain ⟨hPl, hPb⟩ := cutR_bounds hR
          have HPb2 := Lib.hid hPb
          have HPc := Lib.hid hP
          have hb5 := hb02.trans (hb5.mono hb02.size)
          obtain ⟨pa, pc, rfl, hpl, hpm, -⟩ := hP
          have hpm := hpm.1
          unfold maxLen at hpm
          clear t2 t4 u1 u6 u7 hb02 hPb hR
          go_wp2_with fail
          go_loopw [10, 63] (fun vo i wr => ∃ k : Nat, k ≤ P.length ∧ i = .int .i64 k ∧ wr.ownsRow w5.heap.size 52 4 vo k (((P.map segOf).take k).flatMap sgCells) ∧ Below w5.heap.size w5 wr) (fun _ i _ => P.length - (intOf i).toNat)
          case atStart => exact ⟨0, Nat.zero_le _, rfl, ⟨rfl, Or.inl ⟨rfl, rfl⟩⟩, Below.refl _ _⟩
          case round =>
            obtain ⟨k, hkP, rfl, hown, hbr⟩ := hrel
            obtain ⟨ao, co, rfl, hco, hcm⟩ := own_shape hown
            have Hown := Lib.hid hown
            have Hbr := Lib.hid hbr
            clear hown
            by_cases hlt : k < P.length
            · have HTk := Lib.hid (show (P.map segOf).take (k + 1) = (P.map segOf).take k ++ [segOf P[k]] by rw [List.take_succ_eq_append_getElem (by simpa using hlt)]; simp)
              obtain ⟨av2, cap2, e2, -, -, hx⟩ := HPc.out.below hbr
              cases e2
              obtain ⟨b, o, rfl, hB, hx⟩ := hx (by rintro rfl; cases hlt)
              obtain ⟨c0, c1, c2⟩ := hx k hlt
              obtain ⟨p1, p2, p3⟩ := HPb2.out k hlt
              have hk0 : (0 : Int) ≤ (k : Int) := Int.natCast_nonneg _
              have hk1 : (k : Int) < (P.length : Int) := by omega
              clear hx
              generalize P[k] = y at *
              obtain ⟨pn, pf, pt⟩ := y
              dsimp only at c0 c1 c2 p1 p2 p3
              have hwd : IntKind.i64.wrap (pt - pf) = pt - pf := IntWalk.i64_in _ (by omega)
              obtain ⟨X, hX⟩ : ∃ X, X = wr.alloc (Obj.cells #[Value.string pn, .int .i64 pf, .int .i64 pt] 66) := ⟨_, rfl⟩
              have hbX : Below wr.heap.size wr X := by rw [hX]; exact (Below.refl _ _).alloc (Nat.le_refl _) _
              have rX : X.heap[wr.heap.size]? = some (Obj.cells #[Value.string pn, .int .i64 pf, .int .i64 pt] 66) := by rw [hX]; exact heap_alloc_new _ _
              have x0 := cell_of_row X _ 0 _ _ _ rX
              have x1 := cell_of_row X _ 1 _ _ _ rX
              have x2 := cell_of_row X _ 2 _ _ _ rX
              have hwX := hbr.trans (hbX.mono hbr.size)
              have hxs := hwX.size
              have HownX := Lib.hid (ownsRow_below Hown.out hbX)
              have HX := Lib.hid hX
              obtain ⟨i0, hi, hz0, hz1, hz2⟩ := info_parts Try.segInfo
              have Hi := Lib.hid (And.intro hi (And.intro hz0 (And.intro hz1 hz2)))
              clear hi hz0 hz1 hz2 hX rX
              go_upto_region 12 with (fail)
              rw [← HX.out]
              clear c0 c1 c2
              go_wp2_with (at_builtin; refine wpList_append_own _ rfl _ _ 45 rfl w5.heap.size 52 i0 _ 4 40 Try.underlying45 Hi.out.1 Hi.out.2.1 Hi.out.2.2.1 Hi.out.2.2.2 rfl (by decide) _ _ _ rfl (HownX.out.alloc _) ⟨X.heap.size, 0, none⟩ 1 1 [.string pn, .int .i64 pf, .int .i64 (pt - pf), .int .i64 0] rfl rfl (World.news_of_block (cs := #[.string pn, .int .i64 pf, .int .i64 (pt - pf), .int .i64 0]) (t := 52) (fr := (0, 0)) (heap_alloc_new _ _)) ?aq2 ?aq3 ?aq4 ?aq5 ?_)
              case aq2 => simp [Value.oneCell']
              case aq3 => unfold maxLen; omega
              case aq4 => omega
              case aq5 => (try simp); omega
              intro v2 w6 hown6 hgrow _
              have hb6 := (hwX.alloc hxs (Obj.cells #[.string pn, .int .i64 pf, .int .i64 (pt - pf), .int .i64 0] 52)).grown hgrow (by simp; omega) (fun g hg => (ownsRow_block HownX.out g hg).1)
              have Hown6 := Lib.hid hown6
              clear hown6 hgrow x0 x1 x2
              go_wp2
              refine ⟨⟨k + 1, by omega, by go_num, ?_, hb6⟩, by simp [intOf]; omega⟩
              rw [HTk.out, List.flatMap_append]
              exact Hown6.out
            · have hkl : k = P.length := by omega
              have HO := Lib.hid (show wr.ownsRow w.heap.size 52 4 (.slice ao (P.map segOf).length co) (P.map segOf).length ((P.map segOf).flatMap sgCells) by
                have h := Hown.out
                rw [hkl] at h
                rw [List.length_map]
                rw [List.take_of_length_le (by simp)] at h
                exact ownsRow_base h hb5.size)
              have HkL := Lib.hid (show k = (P.map segOf).length by rw [List.length_map]; exact hkl)
              clear hkl
              go_wp2
              go_ret
              exact ⟨_, P.map segOf, rfl, by rw [HkL.out]; exact HO.out, HSP.out, hb5.trans (hbr.mono hb5.size)⟩
        | false =>
          have HSl := Lib.hid ((HS.out [(atB bs hol (st + free), st + free, un - free, 0)]).2 (by rw [if_pos ⟨by first | rfl | trivial, by first | rfl | trivial⟩, if_neg (by simp), HBe.out, if_pos hk]))
          have HAt := Lib.hid (fun w1 hb1 => HA.out (st + free) w1 hb1)
          generalize atB bs hol (st + free) = at0 at *
          have hr := Below.refl w2.heap.size w2
          have hs2 := hb02.size
          have h1s : w.heap.size + 1 < w2.heap.size := by have := hb2.size; omega
          have Mk := Lib.hid (show ∀ w' : World, Below w2.heap.size w2 w' → (fun w' => Below w2.heap.size w2 w' ∧ w'.cell? ⟨w.heap.size, 4, none⟩ = some (.slice ba bs.length bc) ∧ w'.cell? ⟨w.heap.size + 1, 7, none⟩ = some (.int .i64 un)) w' from fun w' h => ⟨h, (h.cell (p := ⟨w.heap.size, _, none⟩) (by show w.heap.size < _; omega)).trans t4, (h.cell (p := ⟨w.heap.size + 1, _, none⟩) (by show w.heap.size + 1 < _; omega)).trans u7⟩)
          have Hb2 := Lib.hid hb2
          have Hb02 := Lib.hid hb02
          clear m0 m1 hb2 hb02 hs2 h1s hzW
          go_upto_region 7 with (fail)
          go_region_held3 (fun w' : World => Below w2.heap.size w2 w' ∧ w'.cell? ⟨w.heap.size, 4, none⟩ = some (.slice ba bs.length bc) ∧ w'.cell? ⟨w.heap.size + 1, 7, none⟩ = some (.int .i64 un))
            (first
              | exact Mk.out _ (by assumption)
              | exact Mk.out _ (Below.drew (by assumption))
              | exact Mk.out _ (Below.alloc (And.left (by assumption)) (Below.size (And.left (by assumption))) _))
            (first
              | (go_at_call 26
                 refine (HAt.out _ (Hb2.out.trans (Below.mono (And.left (by assumption)) Hb2.out.size))).mono ?_
                 rintro e w5 ⟨rfl, hb5⟩
                 have hY5 : Below w2.heap.size w2 w5 := Below.trans (And.left (by assumption)) (hb5.mono (Below.size (And.left (by assumption))))
                 clear hb5))
          go_wp2
          go_ret
          have hb5 := Hb02.out.trans (hY5.mono Hb02.out.size)
          refine ⟨_, [(at0, st + free, un - free, 0)], rfl, ?_, HSl.out, ?_⟩
          · exact own_one hb5.size (at0, st + free, un - free, 0) _
          · exact hb5.alloc hb5.size _
      · have hkb : (kd == 1) = false := beq_eq_false_iff_ne.2 hk
        have hkn : (kd != 1) = true := bne_iff_ne.2 hk
        have HSl := Lib.hid ((HS.out [(atB bs hol (st), st, un - free, 0)]).2 (by rw [if_pos ⟨by first | rfl | trivial, by first | rfl | trivial⟩, if_neg (by exact fun h => hk h.1), HBe.out, if_neg hk]))
        have HAt := Lib.hid (fun w1 hb1 => HA.out (st) w1 hb1)
        generalize atB bs hol (st) = at0 at *
        have hr := Below.refl w2.heap.size w2
        have hs2 := hb02.size
        have h1s : w.heap.size + 1 < w2.heap.size := by have := hb2.size; omega
        have Mk := Lib.hid (show ∀ w' : World, Below w2.heap.size w2 w' → (fun w' => Below w2.heap.size w2 w' ∧ w'.cell? ⟨w.heap.size, 4, none⟩ = some (.slice ba bs.length bc) ∧ w'.cell? ⟨w.heap.size + 1, 7, none⟩ = some (.int .i64 un)) w' from fun w' h => ⟨h, (h.cell (p := ⟨w.heap.size, _, none⟩) (by show w.heap.size < _; omega)).trans t4, (h.cell (p := ⟨w.heap.size + 1, _, none⟩) (by show w.heap.size + 1 < _; omega)).trans u7⟩)
        have Hb2 := Lib.hid hb2
        have Hb02 := Lib.hid hb02
        clear m0 m1 hb2 hb02 hs2 h1s hzW
        go_upto_region 7 with (fail)
        go_region_held3 (fun w' : World => Below w2.heap.size w2 w' ∧ w'.cell? ⟨w.heap.size, 4, none⟩ = some (.slice ba bs.length bc) ∧ w'.cell? ⟨w.heap.size + 1, 7, none⟩ = some (.int .i64 un))
          (first
            | exact Mk.out _ (by assumption)
            | exact Mk.out _ (Below.drew (by assumption))
            | exact Mk.out _ (Below.alloc (And.left (by assumption)) (Below.size (And.left (by assumption))) _))
          (first
            | (go_at_call 26
               refine (HAt.out _ (Hb2.out.trans (Below.mono (And.left (by assumption)) Hb2.out.size))).mono ?_
               rintro e w5 ⟨rfl, hb5⟩
               have hY5 : Below w2.heap.size w2 w5 := Below.trans (And.left (by assumption)) (hb5.mono (Below.size (And.left (by assumption))))
               clear hb5))
        go_wp2
        go_ret
        have hb5 := Hb02.out.trans (hY5.mono Hb02.out.size)
        refine ⟨_, [(at0, st, un - free, 0)], rfl, ?_, HSl.out, ?_⟩
        · exact own_one hb5.size (at0, st, un - free, 0) _
        · exact hb5.alloc hb5.size _
    · have hz2 : (c != 0) = true := bne_iff_ne.2 hc0
      have HN1 := Lib.hid (HN.out w2 (fun h => hc0 h.2) hb02)
      go_wp2
      go_ret
      exact HN1.out
end Go.Proofs.Ytnekgkmlodeckaa
