/-
  Minutes at which bands may change: the plain law, and slices.DeleteFunc at a row of numbers of the call's own.
  The walk of bands.limits.
-/
import Derived.Test.YtnekgkmlodeckaaMgax
import Derived.Test.YtnekgkmlodeckaaMgar
import Derived.Test.YtnekgkmlodeckaaMgbh
import Derived.Shelf.SlicesE.DeleteFunc
namespace Go.Proofs.Ytnekgkmlodeckaa
open Go.RowKit Go.Sort

/-- Numbers gathered from the first k bands. -/
def Gath (l : List Bn) (q k : Nat) (N : List Int) : Prop :=
  0 ∈ N ∧ (∀ m ∈ N, 0 ≤ m ∧ m ≤ 1440) ∧ ∀ b ∈ l.take k, ∀ s ∈ b.2, s.1 / 2 ^ q % 2 = 1 → s.2.1 ∈ N ∧ s.2.2 ∈ N
/-- .. and from the first j slots of the next. -/
def GathI (l : List Bn) (q k : Nat) (ss : List Sl) (j : Nat) (N : List Int) : Prop :=
  Gath l q k N ∧ ∀ s ∈ ss.take j, s.1 / 2 ^ q % 2 = 1 → s.2.1 ∈ N ∧ s.2.2 ∈ N

theorem gath_zero (l : List Bn) (q : Nat) : Gath l q 0 [0] := ⟨by simp, fun m hm => by simp at hm; omega, fun b hb => by simp at hb⟩
theorem gathI_zero {l : List Bn} {q k : Nat} {N : List Int} (ss : List Sl) (h : Gath l q k N) : GathI l q k ss 0 N := ⟨h, fun s hs => by simp at hs⟩
theorem gathI_skip {l : List Bn} {q k : Nat} {ss : List Sl} {j : Nat} {N : List Int} (h : GathI l q k ss j N) (hj : j < ss.length) (ho : ¬ ss[j].1 / 2 ^ q % 2 = 1) : GathI l q k ss (j + 1) N := by
  refine ⟨h.1, fun s hs hon => ?_⟩
  rw [List.take_succ_eq_append_getElem hj, List.mem_append] at hs
  rcases hs with hs | hs
  · exact h.2 s hs hon
  · rw [List.mem_singleton] at hs; subst hs; exact absurd hon ho
theorem gathI_add {l : List Bn} {q k : Nat} {ss : List Sl} {j : Nat} {N : List Int} (h : GathI l q k ss j N) (hj : j < ss.length) (hok : slotOk ss[j] = true) : GathI l q k ss (j + 1) (N ++ [ss[j].2.1, ss[j].2.2]) := by
  obtain ⟨g1, g2, g3, g4, g5⟩ := slot_good hok
  obtain ⟨⟨h1, h2, h3⟩, h4⟩ := h
  refine ⟨⟨by simp [h1], fun m hm => ?_, fun b hb s hs hon => ?_⟩, fun s hs hon => ?_⟩
  · simp only [List.mem_append, List.mem_cons, List.not_mem_nil, or_false] at hm
    rcases hm with hm | rfl | rfl
    · exact h2 m hm
    · omega
    · omega
  · have := h3 b hb s hs hon
    exact ⟨by simp [this.1], by simp [this.2]⟩
  · rw [List.take_succ_eq_append_getElem hj, List.mem_append] at hs
    rcases hs with hs | hs
    · have := h4 s hs hon
      exact ⟨by simp [this.1], by simp [this.2]⟩
    · rw [List.mem_singleton] at hs; subst hs; exact ⟨by simp, by simp⟩
theorem gathI_end {l : List Bn} {q k : Nat} {ss : List Sl} {j : Nat} {N : List Int} (h : GathI l q k ss j N) (hj : ss.length ≤ j) (hk : k < l.length) (hs : l[k].2 = ss) : Gath l q (k + 1) N := by
  obtain ⟨⟨h1, h2, h3⟩, h4⟩ := h
  rw [List.take_of_length_le hj] at h4
  refine ⟨h1, h2, fun b hb s hsb hon => ?_⟩
  rw [List.take_succ_eq_append_getElem hk, List.mem_append] at hb
  rcases hb with hb | hb
  · exact h3 b hb s hsb hon
  · rw [List.mem_singleton] at hb; subst hb; rw [hs] at hsb; exact h4 s hsb hon

def upto1440 (N : List Int) : List Int := (Go.Lib.compact (sortL N)).filter fun m => !decide (1440 ≤ m)
theorem compact_mem (N : List Int) (x : Int) : x ∈ Go.Lib.compact (sortL N) ↔ x ∈ N := by
  have h := (compact_law (sortL N) (sortL_sorted N) (sortL N).length (Nat.le_refl _)).2 x
  rw [List.take_of_length_le (Nat.le_refl _)] at h
  exact h.trans (sortL_perm N).mem_iff
theorem compact_up (N : List Int) : (Go.Lib.compact (sortL N)).Pairwise (· < ·) := (compact_law (sortL N) (sortL_sorted N) (sortL N).length (Nat.le_refl _)).1
theorem mins_of (l : List Bn) (q : Nat) (N : List Int) (h : Gath l q l.length N) : Mins (upto1440 N) (fun s => s.1 / 2 ^ q % 2 = 1) l := by
  obtain ⟨h1, h2, h3⟩ := h
  have hmem : ∀ x, x ∈ upto1440 N ↔ x ∈ N ∧ x < 1440 := fun x => by
    unfold upto1440
    rw [List.mem_filter, compact_mem]
    simp
  have hup : (upto1440 N).Pairwise (· < ·) := (compact_up N).filter _
  refine ⟨hup, ?_, fun m hm => ?_, fun b hb s hs hon => ?_⟩
  · have h0 := (hmem 0).2 ⟨h1, by decide⟩
    cases hL : upto1440 N with
    | nil => rw [hL] at h0; cases h0
    | cons a r =>
      rw [hL] at h0 hup
      rcases List.mem_cons.1 h0 with e | e
      · rw [← e]; rfl
      · have := (List.pairwise_cons.1 hup).1 0 e
        have ha : a ∈ upto1440 N := by rw [hL]; simp
        have := h2 a ((hmem a).1 ha).1
        omega
  · have := (hmem m).1 hm
    have := h2 m this.1
    omega
  · rw [List.take_of_length_le (Nat.le_refl _)] at h3
    obtain ⟨a, c⟩ := h3 b hb s hs hon
    exact ⟨fun h => (hmem _).2 ⟨a, h⟩, fun h => (hmem _).2 ⟨c, h⟩⟩
theorem upto_len (N : List Int) : (upto1440 N).length ≤ N.length := by
  unfold upto1440
  refine Nat.le_trans (List.length_filter_le _ _) ?_
  unfold Go.Lib.compact Go.Lib.compactUpTo
  rw [List.length_map]
  refine Nat.le_trans (List.length_filter_le _ _) ?_
  simp [sortL_len]

theorem lim1_gives (x : Int) (W : World) : FnGives Try.prog 103 #[] #[.int .i64 x] (.bool (decide (1440 ≤ x))) W := by
  show Calls Try.prog 103 #[.int .i64 x] W _
  go_enter Try.func103, Try.ntmps103
  go_wp2
  go_ret
  exact ⟨rfl, 0, rfl⟩

/-- A row of numbers without those from 1440 on. -/
def DeletedI (B g cap : Nat) (zs : List Int) (w : World) (e : Ending) (w' : World) : Prop :=
  e = .returned (.slice (some ⟨g, 0, none⟩) (zs.filter fun m => !decide (1440 ≤ m)).length cap) ∧ Below B w w' ∧ IcsAt w' (.slice (some ⟨g, 0, none⟩) (zs.filter fun m => !decide (1440 ≤ m)).length cap) (zs.filter fun m => !decide (1440 ≤ m))
theorem delI_calls (B g cap : Nat) (zs : List Int) (w : World) (hown : w.ownsRow B 3 1 (.slice (some ⟨g, 0, none⟩) zs.length cap) zs.length (zs.map (Value.int .i64))) (hB : B ≤ w.heap.size) (hl : zs.length ≤ 10000) :
    Calls Try.prog 102 #[.slice (some ⟨g, 0, none⟩) zs.length cap, .func (.func 103) #[] #[]] w (DeletedI B g cap zs w) := by
  rcases hown.2 with ⟨h, -⟩ | ⟨g', cap', cur, hv, hg, hh, h1, h2, h3, h4⟩
  · cases h
  · cases hv
    have eg : ∀ args w, (callFunc 103 args).run Try.prog w = .ok (.enter 103 args) w := enters_of Try.func103 (by kernel_rfl) rfl
    have hlt := (Array.getElem?_eq_some_iff.1 hh).1
    have hcl : (zs.filter fun m => !decide (1440 ≤ m)).length ≤ zs.length := List.length_filter_le _ _
    have h := Go.Proofs.AnyE.slices_DeleteFunc Try.delInts (Value.int .i64) (fun _ => rfl) (fun x => decide (1440 ≤ x)) 103 #[] eg 0 Try.zeroValue3 g 0 cap zs.toArray w
      (fun W x _ => lim1_gives x W) (fun _ _ _ x _ => lim1_gives x _) (holds_of_blockI hh (by rw [← h4, Nat.mul_one])) (by simp; omega) (by simpa using h1)
    change Calls Try.prog 102 _ _ _ at h
    simp only [List.size_toArray] at h
    generalize hL : (zs.filter fun m => !decide (1440 ≤ m)) = L at *
    refine h.mono ?_
    rintro e w' ⟨rfl, q, rfl⟩
    have hlen : (L ++ List.replicate (zs.length - L.length) 0).length = zs.length := by rw [List.length_append, List.length_replicate]; omega
    have ho := ownsRow_sortedI (n := q) (os := #[]) hlen hg hh h1 h2 h3
    have hb := grownBy_sortedI (w := w) (g := g) (n := q) (os := #[]) (L ++ List.replicate (zs.length - L.length) 0).toArray
    rw [grow_empty] at ho hb
    have hb2 := (Below.refl B w).grown hb hB (fun k hk => by cases hk; exact hg)
    unfold DeletedI
    rw [hL]
    refine ⟨rfl, hb2, some ⟨g, 0, none⟩, cap, rfl, by omega, ⟨h2, fun h => by cases h⟩, fun _ => ⟨g, 0, rfl, Nat.lt_of_lt_of_le hlt (by simp [Sort.ahead]), fun i hi => ?_⟩⟩
    have hc := ho.cellAt i (by omega)
    show World.cell? _ _ = _
    rw [Nat.zero_add, Nat.mul_one, hc, List.map_append, List.getElem?_append_left (by simpa using hi)]
    simp [hi]

/-- A row of numbers without repetitions, still the call's own. -/
def CompactedO (B g cap : Nat) (zs : List Int) (w : World) (e : Ending) (w' : World) : Prop :=
  e = .returned (.slice (some ⟨g, 0, none⟩) (Go.Lib.compact zs).length cap) ∧ Below B w w' ∧ w'.ownsRow B 3 1 (.slice (some ⟨g, 0, none⟩) (Go.Lib.compact zs).length cap) (Go.Lib.compact zs).length ((Go.Lib.compact zs).map (Value.int .i64))
theorem compO_calls (B g cap : Nat) (zs : List Int) (w : World) (hown : w.ownsRow B 3 1 (.slice (some ⟨g, 0, none⟩) zs.length cap) zs.length (zs.map (Value.int .i64))) (hB : B ≤ w.heap.size) (hl : zs.length ≤ 10000) :
    Calls Try.prog 101 #[.slice (some ⟨g, 0, none⟩) zs.length cap] w (CompactedO B g cap zs w) := by
  rcases hown.2 with ⟨h, -⟩ | ⟨g', cap', cur, hv, hg, hh, h1, h2, h3, h4⟩
  · cases h
  · cases hv
    have hlt := (Array.getElem?_eq_some_iff.1 hh).1
    have hcl : (Go.Lib.compact zs).length ≤ zs.length := by
      unfold Go.Lib.compact Go.Lib.compactUpTo
      rw [List.length_map]
      exact Nat.le_trans (List.length_filter_le _ _) (by simp)
    have h := Go.Proofs.AnyG.slices_Compact_int Try.compInts g 0 cap zs w (holds_of_blockI hh (by rw [← h4, Nat.mul_one])) (by omega) h1
    change Calls Try.prog 101 _ _ _ at h
    refine h.mono ?_
    rintro e w' ⟨rfl, q, rfl⟩
    have hlen : (Go.Lib.compact zs ++ List.replicate (zs.length - (Go.Lib.compact zs).length) 0).length = zs.length := by rw [List.length_append, List.length_replicate]; omega
    have ho := ownsRow_sortedI (n := q) (os := #[]) hlen hg hh h1 h2 h3
    have hb := grownBy_sortedI (w := w) (g := g) (n := q) (os := #[]) (Go.Lib.compact zs ++ List.replicate (zs.length - (Go.Lib.compact zs).length) 0).toArray
    rw [grow_empty] at ho hb
    have hb2 := (Below.refl B w).grown hb hB (fun k hk => by cases hk; exact hg)
    refine ⟨rfl, hb2, by simp, ?_⟩
    rcases ho.2 with ⟨h, -⟩ | ⟨g2, cap2, cur2, hv2, hg2, hh2, i1, i2, i3, i4⟩
    · cases h
    · cases hv2
      refine Or.inr ⟨g, cap, cur2, rfl, hg2, hh2, by omega, i2, i3, ?_⟩
      rw [Nat.mul_one] at i4 ⊢
      have := congrArg (List.take (Go.Lib.compact zs).length) i4
      rw [List.take_take, Nat.min_eq_left hcl] at this
      rw [this, List.map_append, List.take_append_of_le_length (by simp)]
      exact List.take_of_length_le (by simp)
end Go.Proofs.Ytnekgkmlodeckaa

namespace Go.Proofs.Ytnekgkmlodeckaa
open Go.RowKit

/-- Minutes between which a band does not change on days with a bit. -/
def MinsTo (l : List Bn) (q : Nat) (w : World) (e : Ending) (w' : World) : Prop :=
  ∃ (L : List Int) (v' : Value), e = .returned v' ∧ IcsAt w' v' L ∧ Mins L (fun s => s.1 / 2 ^ q % 2 = 1) l ∧ L.length ≤ 10000 ∧ Below w.heap.size w w' ∧ ∀ g, v'.ownBlock = some g → w.heap.size ≤ g

set_option maxRecDepth 100000 in
set_option maxHeartbeats 6400000 in
theorem limits5_calls (v : Value) (l : List Bn) (q : Nat) (w : World) (h : BnsAt w v l) (hq : q < 8) (hall : ∀ b ∈ l, b.2.all slotOk = true ∧ b.2.length ≤ 64) (hl64 : l.length ≤ 64) :
    Calls Try.prog 68 #[v, .int .i64 (2 ^ q)] w (MinsTo l q w) := by
  have hh := h
  obtain ⟨av, cap, rfl, hlc, hm, -⟩ := h
  have hm := hm.1
  unfold maxLen at hm
  obtain ⟨X, hX⟩ : ∃ X, X = w.alloc (Obj.cells #[Value.int .i64 0] 3) := ⟨_, rfl⟩
  have rX : X.heap[w.heap.size]? = some (Obj.cells #[Value.int .i64 0] 3) := by rw [hX]; exact heap_alloc_new _ _
  have hbX : Below w.heap.size w X := by rw [hX]; exact (Below.refl _ _).alloc (Nat.le_refl _) _
  have hoX : X.ownsRow w.heap.size 3 1 (.slice (some ⟨w.heap.size, 0, none⟩) 1 1) 1 [.int .i64 0] :=
    ⟨rfl, Or.inr ⟨w.heap.size, 1, #[.int .i64 0], rfl, Nat.le_refl _, rX, Nat.le_refl _, by decide, rfl, rfl⟩⟩
  have HX := Lib.hid hX
  have HoX := Lib.hid hoX
  have Hall := Lib.hid hall
  have HQ := Lib.hid hq
  obtain ⟨bq, hbq⟩ : ∃ bq : Int, bq = 2 ^ q := ⟨_, rfl⟩
  rw [← hbq]
  have Hbq := Lib.hid hbq
  clear hX rX hoX hall hq hbq
  go_enter Try.func68, Try.ntmps68
  go_upto_region 2 with (fail)
  rw [← HX.out]
  go_wp2_with fail
  go_loopw [5, 13] (fun v i wr => ∃ k : Nat, k ≤ l.length ∧ i = .int .i64 k ∧ (∃ N : List Int, Gath l q k N ∧ N.length ≤ 1 + 128 * k ∧ wr.ownsRow w.heap.size 3 1 v N.length (N.map (Value.int .i64))) ∧ Below w.heap.size w wr) (fun _ i _ => l.length - (intOf i).toNat)
  case atStart => exact ⟨0, Nat.zero_le _, rfl, ⟨[0], gath_zero l q, by simp, HoX.out⟩, hbX⟩
  case round =>
    obtain ⟨k, hk, rfl, ⟨N, hN, hNl, hown⟩, hb⟩ := hrel
    obtain ⟨wq, rfl⟩ : ∃ wq : World, wq = wr := ⟨_, rfl⟩
    have Hown := Lib.hid hown
    have HN := Lib.hid hN
    obtain ⟨ao, co, rfl, hco, hcm⟩ := own_shape hown
    clear hown hN
    by_cases hlt : k < l.length
    · obtain ⟨av2, cap2, e2, -, -, hx⟩ := hh
      cases e2
      obtain ⟨b, o, rfl, hB, hx⟩ := hx (by rintro rfl; cases hlt)
      obtain ⟨⟨c0, s0⟩, sv, c1, hs⟩ := hx k hlt
      have c0 := (hb.cell (p := ⟨b, o + k * 2, none⟩) hB).trans c0
      have c1 := (hb.cell (p := ⟨b, o + k * 2 + 1, none⟩) hB).trans c1
      have hk0 : (0 : Int) ≤ (k : Int) := Int.natCast_nonneg _
      have hk1 : (k : Int) < (l.length : Int) := by omega
      have hok := Hall.out l[k] (List.getElem_mem hlt)
      have HGE := Lib.hid (fun N j (h : GathI l q k l[k].2 j N) (hj : l[k].2.length ≤ j) => gathI_end h hj hlt rfl)
      clear hx
      generalize l[k] = y at *
      obtain ⟨nm, ss⟩ := y
      dsimp only at c0 c1 hs s0 hok HGE
      obtain ⟨hok, hss⟩ := hok
      have Hok := Lib.hid hok
      have hs0 := hs
      obtain ⟨asv, cs, rfl, hsc, hms, -⟩ := hs0
      have hms := hms.1
      unfold maxLen at hms
      obtain ⟨Y, hY⟩ : ∃ Y, Y = wq.alloc (Obj.cells #[Value.string nm, .slice asv ss.length cs] 86) := ⟨_, rfl⟩
      have hbY : Below wq.heap.size wq Y := by rw [hY]; exact (Below.refl _ _).alloc (Nat.le_refl _) _
      have hwY := hb.trans (hbY.mono hb.size)
      have rY : Y.heap[wq.heap.size]? = some (Obj.cells #[Value.string nm, .slice asv ss.length cs] 86) := by rw [hY]; exact heap_alloc_new _ _
      have y1 := cell_of_row Y _ 1 _ _ _ rY
      have HY := Lib.hid hY
      have HownY := Lib.hid (ownsRow_below Hown.out hbY)
      have HG0 := Lib.hid (gathI_zero ss HN.out)
      clear hY rY hok hb Hown
      go_upto_region 5 with (fail)
      rw [← HY.out]
      go_wp2_with fail
      go_loopw [5, 20] (fun v i wr => ∃ j : Nat, j ≤ ss.length ∧ i = .int .i64 j ∧ (∃ N : List Int, GathI l q k ss j N ∧ N.length ≤ 1 + 128 * k + 2 * j ∧ wr.ownsRow w.heap.size 3 1 v N.length (N.map (Value.int .i64))) ∧ Below w.heap.size w wr) (fun _ i _ => ss.length - (intOf i).toNat)
      case atStart => exact ⟨0, Nat.zero_le _, rfl, ⟨N, HG0.out, by omega, HownY.out⟩, hwY⟩
      case round =>
        clear HownY HG0 HN hwY y1 hco hcm hNl
        obtain ⟨j, hj, rfl, ⟨M, hM, hMl, hown⟩, hb⟩ := hrel
        have Hown := Lib.hid hown
        have HM := Lib.hid hM
        obtain ⟨ao2, co2, rfl, hco2, hcm2⟩ := own_shape hown
        clear hown hM
        by_cases hlj : j < ss.length
        · obtain ⟨av3, cap3, e3, -, -, hx⟩ := hs.below hb
          cases e3
          obtain ⟨b3, o3, rfl, hB3, hx⟩ := hx (by rintro rfl; cases hlj)
          obtain ⟨d0, d1, d2⟩ := hx j hlj
          have hj0 : (0 : Int) ≤ (j : Int) := Int.natCast_nonneg _
          have hj1 : (j : Int) < (ss.length : Int) := by omega
          have hsl := (List.all_eq_true.1 Hok.out) ss[j] (List.getElem_mem hlj)
          have HA := Lib.hid (gathI_add HM.out hlj hsl)
          have HSk := Lib.hid (fun ho => gathI_skip HM.out hlj ho)
          clear hx
          generalize ss[j] = y at *
          obtain ⟨d, f, t⟩ := y
          dsimp only at d0 d1 d2 HA HSk
          obtain ⟨g1, g2, -, -, -⟩ := slot_good hsl
          have hbit : (bits BinOp.and IntKind.i64 d bq != 0) = decide (d / 2 ^ q % 2 = 1) := by rw [Hbq.out]; exact andI_bit d q g1 g2 HQ.out
          obtain ⟨Z, hZ⟩ : ∃ Z, Z = wr.alloc (Obj.cells #[Value.int .i64 d, .int .i64 f, .int .i64 t] 96) := ⟨_, rfl⟩
          have hbZ : Below wr.heap.size wr Z := by rw [hZ]; exact (Below.refl _ _).alloc (Nat.le_refl _) _
          have hwZ := hb.trans (hbZ.mono hb.size)
          have rZ : Z.heap[wr.heap.size]? = some (Obj.cells #[Value.int .i64 d, .int .i64 f, .int .i64 t] 96) := by rw [hZ]; exact heap_alloc_new _ _
          have z0 := cell_of_row Z _ 0 _ _ _ rZ
          have z1 := cell_of_row Z _ 1 _ _ _ rZ
          have z2 := cell_of_row Z _ 2 _ _ _ rZ
          have HZ := Lib.hid hZ
          have HownZ := Lib.hid (ownsRow_below Hown.out hbZ)
          have hzs := hwZ.size
          clear hZ rZ hsl g1 g2 hb Hown
          by_cases hon : d / 2 ^ q % 2 = 1
          · rw [decide_eq_true hon] at hbit
            clear hon HSk
            obtain ⟨i0, hi, hy0, hy1, hy2⟩ := info_parts Try.intInfo
            have Hi := Lib.hid (And.intro hi (And.intro hy0 (And.intro hy1 hy2)))
            clear hi hy0 hy1 hy2
            go_upto_region 8 with (fail)
            rw [← HZ.out]
            go_wp2_with (at_builtin; refine wpList_append_own _ rfl _ _ 38 rfl w.heap.size 3 i0 _ 1 8 Try.underlying38 Hi.out.1 Hi.out.2.1 Hi.out.2.2.1 Hi.out.2.2.2 rfl (by decide) _ _ _ rfl (HownZ.out.alloc _) ⟨Z.heap.size, 0, none⟩ 2 2 [.int .i64 f, .int .i64 t] rfl rfl (World.news_of_block (cs := #[.int .i64 f, .int .i64 t]) (t := 3) (fr := (0, 0)) (heap_alloc_new _ _)) ?aq2 ?aq3 ?aq4 ?aq5 ?_)
            case aq2 => simp [Value.oneCell']
            case aq3 => unfold maxLen; omega
            case aq4 => omega
            case aq5 => (try simp); omega
            intro v_w2 w2 hown_w2 hgrow _
            have hb2 := (hwZ.alloc hzs (Obj.cells #[.int .i64 f, .int .i64 t] 3)).grown hgrow (by simp; omega) (fun g hg => (ownsRow_block HownZ.out g hg).1)
            have Hown2 := Lib.hid hown_w2
            clear hown_w2 hgrow
            obtain ⟨ao3, co3, rfl, -, -⟩ := own_shape Hown2.out
            go_wp2
            refine ⟨⟨j + 1, by omega, by go_num, ⟨M ++ [f, t], HA.out, by simp; omega, ?_⟩, hb2⟩, by simp [intOf]; omega⟩
            rw [List.length_append, List.map_append]
            exact Hown2.out
          · rw [decide_eq_false hon] at hbit
            have HSk2 := Lib.hid (HSk.out hon)
            clear hon HSk HA
            go_upto_region 8 with (fail)
            rw [← HZ.out]
            go_wp2
            exact ⟨⟨j + 1, by omega, by go_num, ⟨M, HSk2.out, by omega, HownZ.out⟩, hwZ⟩, by simp [intOf]; omega⟩
        · have HE := Lib.hid (HGE.out M j HM.out (by omega))
          go_wp2
          exact ⟨⟨k + 1, by omega, by go_num, ⟨M, HE.out, by omega, Hown.out⟩, hb⟩, by simp [intOf]; omega⟩
    · obtain rfl : k = l.length := by omega
      obtain ⟨g, rfl⟩ : ∃ g, ao = some ⟨g, 0, none⟩ := by
        rcases Hown.out.2 with ⟨h1, h2⟩ | ⟨g, cap, cur, hv, -⟩
        · have := HN.out.1
          rw [List.length_eq_zero_iff.1 h2] at this; cases this
        · simp only [Value.slice.injEq] at hv; exact ⟨g, hv.1⟩
      have HgB := Lib.hid (ownsRow_block Hown.out g rfl).1
      have hsl := sortL_len N
      have HMi := Lib.hid (mins_of l q N HN.out)
      have HUl := Lib.hid (upto_len N)
      have H3 := Lib.hid (sortI_calls w.heap.size g co N wq Hown.out hb.size (by omega))
      have H4 := Lib.hid (fun w2 (h1 : w2.ownsRow w.heap.size 3 1 (.slice (some ⟨g, 0, none⟩) N.length co) N.length ((sortL N).map (Value.int .i64))) (h2 : w.heap.size ≤ w2.heap.size) => compO_calls w.heap.size g co (sortL N) w2 (by rw [hsl]; exact h1) h2 (by omega))
      rw [hsl] at H4
      have hcl : (Go.Lib.compact (sortL N)).length ≤ 10000 := by
        unfold Go.Lib.compact Go.Lib.compactUpTo
        rw [List.length_map]
        refine Nat.le_trans (List.length_filter_le _ _) ?_
        simp [hsl]; omega
      have H5 := Lib.hid (fun w2 h1 (h2 : w.heap.size ≤ w2.heap.size) => delI_calls w.heap.size g co (Go.Lib.compact (sortL N)) w2 h1 h2 hcl)
      have HF := Lib.hid (show (Go.Lib.compact (sortL N)).filter (fun m => !decide (1440 ≤ m)) = upto1440 N from rfl)
      clear hsl
      go_wp2_with fail
      refine H3.out.mono ?_
      rintro e w2 ⟨rfl, hb2, hown2⟩
      have hb3 := hb.trans hb2
      have H6 := Lib.hid (H4.out w2 hown2 hb3.size)
      clear hown2
      go_wp2_with fail
      refine H6.out.mono ?_
      rintro e w3 ⟨rfl, hb4, hown3⟩
      have hb5 := hb3.trans hb4
      have H7 := Lib.hid (H5.out w3 hown3 hb5.size)
      clear hown3
      go_wp2_with fail
      refine H7.out.mono ?_
      rintro e w4 ⟨rfl, hb6, hI⟩
      have hb7 := hb5.trans hb6
      rw [HF.out] at hI ⊢
      have HI := Lib.hid hI
      clear hI
      go_wp2
      go_ret
      exact ⟨upto1440 N, _, rfl, HI.out, HMi.out, by have := HUl.out; omega, hb7, fun g' hg' => by cases hg'; exact HgB.out⟩
end Go.Proofs.Ytnekgkmlodeckaa
