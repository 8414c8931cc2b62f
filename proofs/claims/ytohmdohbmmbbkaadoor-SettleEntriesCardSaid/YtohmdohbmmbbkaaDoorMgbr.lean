/-
  The walk of settle.Partners at usages that some partner's are among.
-/
import Derived.Test.YtohmdohbmmbbkaaDoorMgbp
import Derived.Test.YtohmdohbmmbbkaaDoorMgbj
import Derived.Laws.AppendOwn
namespace Go.Proofs.YtohmdohbmmbbkaaDoor
open Go.RowKit

theorem Tryd.intInfo2 : (Tryd.prog.info? 3).map (fun i => (i.zero, i.size, i.bytes)) = some (some (.int .i64 0), 1, 8) := by kernel_rfl
/-- The partners of usages, as often as they come. -/
def partB (f t : Int) (u : Us) : Bool := decide (1 ≤ u.tr) && containsB f t u.st
def partsL (f t : Int) (us : List Us) : List Int := (us.filter (partB f t)).map (·.tr)
theorem partsL_snoc (f t : Int) (us : List Us) (k : Nat) (h : k < us.length) : partsL f t (us.take (k + 1)) = if partB f t us[k] = true then partsL f t (us.take k) ++ [us[k].tr] else partsL f t (us.take k) := by
  unfold partsL
  rw [List.take_succ_eq_append_getElem h, List.filter_append, List.map_append]
  split
  · rename_i h2
    rw [List.filter_cons_of_pos h2]; rfl
  · rename_i h2
    rw [List.filter_cons_of_neg h2]; simp
theorem partsL_le (f t : Int) (us : List Us) (k : Nat) : (partsL f t (us.take k)).length ≤ us.length := by
  unfold partsL
  rw [List.length_map]
  refine Nat.le_trans (List.length_filter_le _ _) ?_
  rw [List.length_take]
  omega
/-- What Partners returns. -/
def PartTo (L : List Int) (w : World) (e : Ending) (w' : World) : Prop := ∃ g cap, e = .returned (.slice (some ⟨g, 0, none⟩) L.length cap) ∧ w.heap.size ≤ g ∧ IcsAt w' (.slice (some ⟨g, 0, none⟩) L.length cap) L ∧ Below w.heap.size w w'

set_option maxRecDepth 100000 in
set_option maxHeartbeats 6400000 in
theorem partners_calls (vu : Value) (us : List Us) (f t : Int) (w : World) (hu : UssAt w vu us) (hl : us.length ≤ 40) (hne : partsL f t us ≠ []) :
    Calls Tryd.prog 19 #[vu, .agg #[.int .i64 f, .int .i64 t]] w (PartTo (Go.Lib.compact (sortL (partsL f t us))) w) := by
  obtain ⟨W, hW⟩ : ∃ W, W = w.alloc (Obj.cells #[Value.int .i64 f, .int .i64 t] 25) := ⟨_, rfl⟩
  have hw0 : Below w.heap.size w W := by rw [hW]; exact (Below.refl _ _).alloc (Nat.le_refl _) _
  have r0 : W.heap[w.heap.size]? = some (Obj.cells #[Value.int .i64 f, .int .i64 t] 25) := by rw [hW]; exact heap_alloc_new _ _
  have hzW : W.heap.size = w.heap.size + 1 := by rw [hW]; simp
  have HM := Lib.hid (show ∀ w', Below W.heap.size W w' → w'.cell? ⟨w.heap.size, 0, none⟩ = some (.int .i64 f) ∧ w'.cell? ⟨w.heap.size, 1, none⟩ = some (.int .i64 t) from fun w' hb => by
    have g0 := (hb.block _ (by omega)).trans r0
    exact ⟨cell_of_row w' _ 0 _ _ _ g0, cell_of_row w' _ 1 _ _ _ g0⟩)
  have Hu := Lib.hid (hu.below hw0)
  obtain ⟨ua0, uc, rfl, hul, hum, -⟩ := hu
  have hum := hum.1
  unfold maxLen at hum
  have HW := Lib.hid hW
  have Hw0 := Lib.hid hw0
  have HzW := Lib.hid hzW
  have HSn := Lib.hid (partsL_snoc f t us)
  have HLe := Lib.hid (partsL_le f t us)
  have Hne := Lib.hid hne
  clear hW hw0 r0 hne
  go_enter Tryd.func19, Tryd.ntmps19
  go_upto_region 1 with (fail)
  rw [← HW.out]
  go_wp2_with fail
  go_loopg [5, 10] us.length (fun g vo i wx => ∃ k : Nat, k + g = us.length ∧ i = .int .i64 k ∧ wx.ownsRow W.heap.size 3 1 vo (partsL f t (us.take k)).length ((partsL f t (us.take k)).map (Value.int .i64)) ∧ Below W.heap.size W wx)
  case atStart => exact ⟨0, by omega, rfl, World.ownsRow_nil _ _ _ _, Below.refl _ _⟩
  case round =>
    obtain ⟨k, hkg, rfl, hown, hbr⟩ := hrel
    have Hbr := Lib.hid hbr
    have Hown := Lib.hid hown
    have hle := HLe.out k
    obtain ⟨ao, co, rfl, -, -⟩ := own_shape hown
    clear hown
    cases gk with
    | zero =>
      have hkz : ¬ ((k : Int) < (us.length : Int)) := by omega
      have HE := Lib.hid (show us.take k = us from List.take_of_length_le (by omega))
      rw [HE.out] at Hown hle ⊢
      generalize partsL f t us = L at *
      obtain ⟨g, rfl⟩ : ∃ g, ao = some ⟨g, 0, none⟩ := by
        rcases Hown.out.2 with ⟨h1, h2⟩ | ⟨g, cap', cur, hv, -⟩
        · exact absurd (List.length_eq_zero_iff.1 h2) Hne.out
        · simp only [Value.slice.injEq] at hv
          exact ⟨g, hv.1⟩
      have hgl : w.heap.size ≤ g := by have := (ownsRow_block Hown.out g rfl).1; have := Hw0.out.size; omega
      have HS := Lib.hid (sortI_calls W.heap.size g co L wr Hown.out hbr.size (by omega))
      have hsl := sortL_len L
      have Hsl := Lib.hid hsl
      clear hkg hbr hsl
      go_wp2_with fail
      refine HS.out.mono ?_
      rintro e w5 ⟨rfl, hb5, hown5⟩
      have Hb5 := Lib.hid (Hbr.out.trans hb5)
      rw [← Hsl.out] at hown5
      have HC := Lib.hid (compI_calls W.heap.size g co (sortL L) w5 hown5 Hb5.out.size (by rw [Hsl.out]; omega))
      rw [Hsl.out] at HC
      clear hown5 hb5
      go_wp2_with fail
      refine HC.out.mono ?_
      rintro e w6 ⟨rfl, hb6, hic⟩
      have HF := Lib.hid (show PartTo (Go.Lib.compact (sortL L)) w (.returned (.slice (some ⟨g, 0, none⟩) (Go.Lib.compact (sortL L)).length co)) w6 from ⟨_, _, rfl, hgl, hic, Hw0.out.trans ((Hb5.out.trans hb6).mono Hw0.out.size)⟩)
      clear hb6 hic
      go_wp2
      go_ret
      exact HF.out
    | succ gk =>
      have hlt : k < us.length := by omega
      have hk1 : (k : Int) < (us.length : Int) := by omega
      have hk0 : (0 : Int) ≤ (k : Int) := Int.natCast_nonneg _
      obtain ⟨ua2, uc2, e2, -, -, hx⟩ := Hu.out
      cases e2
      obtain ⟨bu, ou, rfl, hBu, hx⟩ := hx (by rintro rfl; cases hlt)
      have c := fun j (hj : j < 12) => (hbr.cell (p := ⟨bu, _, none⟩) hBu).trans (hx k hlt j hj)
      have HSk := Lib.hid (HSn.out k hlt)
      clear hx
      generalize us[k] = u at *
      obtain ⟨id, kx, ac, sb, ua, ub, st, un, tr, ix, so0, se⟩ := u
      unfold Us.row at c
      dsimp only at c
      have HHit := Lib.hid (show partB f t ⟨id, kx, ac, sb, ua, ub, st, un, tr, ix, so0, se⟩ = (decide (1 ≤ tr) && containsB f t st) from rfl)
      have c0 := c 0 (by omega)
      have c1 := c 1 (by omega)
      have c2 := c 2 (by omega)
      have c3 := c 3 (by omega)
      have c4 := c 4 (by omega)
      have c5 := c 5 (by omega)
      have c6 := c 6 (by omega)
      have c7 := c 7 (by omega)
      have c8 := c 8 (by omega)
      have c9 := c 9 (by omega)
      have c10 := c 10 (by omega)
      have c11 := c 11 (by omega)
      have c0 : wr.cell? ⟨bu, ou + k * 12, none⟩ = some (.int .i64 id) := c0
      clear c
      obtain ⟨X, hX⟩ : ∃ X, X = wr.alloc (Obj.cells #[Value.int .i64 id, .int .i64 kx, .int .i64 ac, .int .i64 sb, .string ua, .string ub, .int .i64 st, .int .i64 un, .int .i64 tr, .bool ix, .int .i64 so0, .int .i64 se] 47) := ⟨_, rfl⟩
      have hbX : Below wr.heap.size wr X := by rw [hX]; exact (Below.refl _ _).alloc (Nat.le_refl _) _
      have rX : X.heap[wr.heap.size]? = some (Obj.cells #[Value.int .i64 id, .int .i64 kx, .int .i64 ac, .int .i64 sb, .string ua, .string ub, .int .i64 st, .int .i64 un, .int .i64 tr, .bool ix, .int .i64 so0, .int .i64 se] 47) := by rw [hX]; exact heap_alloc_new _ _
      have hzX : wr.heap.size < X.heap.size := by rw [hX]; simp
      have hwX := hbr.trans (hbX.mono hbr.size)
      obtain ⟨m0, m1⟩ := HM.out X hwX
      have x6 := cell_of_row X _ 6 _ _ _ rX
      have x8 := cell_of_row X _ 8 _ _ _ rX
      obtain ⟨cn, hcn⟩ : ∃ cn, cn = containsB f t st := ⟨_, rfl⟩
      rw [← hcn] at HHit
      have HCn := Lib.hid (show ∀ w', Calls Tryd.prog 38 #[.agg #[.int .i64 f, .int .i64 t], .int .i64 st] w' fun e w'' => e = .returned (.bool cn) ∧ Below w'.heap.size w' w'' from fun w' => hcn ▸ contains_calls f t st w')
      have HX := Lib.hid hX
      have HrX := Lib.hid rX
      have HwX := Lib.hid hwX
      have HownX := Lib.hid (ownsRow_below Hown.out hbX)
      clear hX rX hwX hcn hzW hbX
      go_upto_region 5 with (fail)
      rw [← HX.out]
      clear c0 c1 c2 c3 c4 c5 c6 c7 c8 c9 c10 c11
      by_cases ht : 1 ≤ tr
      · have htb : decide (1 ≤ tr) = true := decide_eq_true ht
        go_wp2_with fail
        refine (HCn.out X).mono ?_
        rintro e wa ⟨rfl, hYa⟩
        have HYa := Lib.hid hYa
        have HwA := Lib.hid (HwX.out.trans (hYa.mono HwX.out.size))
        have HownA := Lib.hid (ownsRow_below HownX.out hYa)
        have q8 := cell_of_row wa _ 8 _ _ _ ((hYa.block _ hzX).trans HrX.out)
        clear x6 x8 m0 m1 hYa
        cases cn with
        | false =>
          have HE := Lib.hid (HSk.out.trans (if_neg (by rw [HHit.out]; simp)))
          go_wp2
          go_roundg gk
          case measure => omega
          case rel => exact ⟨k + 1, by omega, by first | rfl | simp, by rw [HE.out]; exact HownA.out, HwA.out⟩
        | true =>
          have HE := Lib.hid (HSk.out.trans (if_pos (by rw [HHit.out, htb]; rfl)))
          obtain ⟨i0, hi, hz0, hz1, hz2⟩ := info_parts Tryd.intInfo2
          have Hi := Lib.hid (And.intro hi (And.intro hz0 (And.intro hz1 hz2)))
          generalize partsL f t (us.take k) = L at *
          have hsA := HwA.out.size
          clear hi hz0 hz1 hz2
          go_wp2_with (at_builtin; refine wpList_append_own _ rfl _ _ 57 rfl W.heap.size 3 i0 _ 1 8 Tryd.underlying57 Hi.out.1 Hi.out.2.1 Hi.out.2.2.1 Hi.out.2.2.2 rfl (by decide) _ _ _ rfl (HownA.out.alloc _) ⟨wa.heap.size, 0, none⟩ 1 1 [.int .i64 tr] rfl rfl (World.news_of_block (cs := #[.int .i64 tr]) (t := 3) (fr := (0, 0)) (heap_alloc_new _ _)) ?aq2 ?aq3 ?aq4 ?aq5 ?_)
          case aq2 => simp [Value.oneCell']
          case aq3 => unfold maxLen; omega
          case aq4 => omega
          case aq5 => (try simp); omega
          intro v2 w9 hown9 hgrow _
          have Hown9 := Lib.hid hown9
          have Hb9 := Lib.hid ((HwA.out.alloc hsA (Obj.cells #[.int .i64 tr] 3)).grown hgrow (by simp; omega) (fun g hg => (ownsRow_block HownA.out g hg).1))
          clear hown9 hgrow q8
          go_wp2
          go_roundg gk
          case measure => omega
          case rel => exact ⟨k + 1, by omega, by first | rfl | simp, by rw [HE.out, List.length_append, List.map_append]; exact Hown9.out, Hb9.out⟩
      · have htb : decide (1 ≤ tr) = false := decide_eq_false ht
        have HE := Lib.hid (HSk.out.trans (if_neg (by rw [HHit.out, htb]; simp)))
        go_wp2
        go_roundg gk
        case measure => omega
        case rel => exact ⟨k + 1, by omega, by first | rfl | simp, by rw [HE.out]; exact HownX.out, HwX.out⟩
end Go.Proofs.YtohmdohbmmbbkaaDoor
