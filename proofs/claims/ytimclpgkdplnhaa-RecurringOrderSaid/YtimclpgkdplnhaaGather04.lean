/-
  The walk of combine's inner function that gathers the changes of a list, and of the one that compares two changes.
-/
import Derived.Test.YtimclpgkdplnhaaSwept04
import Derived.Test.YtimclpgkdplnhaaRow
import Derived.Test.YtimclpgkdplnhaaR04d
import Derived.Laws.OwnMore
import Derived.Laws.AppendOwn
namespace Go.Proofs.Ytimclpgkdplnhaa
open Go.RowKit

/-- A change's three cells. -/
def chCells (c : Int × Int × Int) : List Value := [.int .i64 c.1, .int .i64 c.2.1, .int .i64 c.2.2]
theorem Try.chInfo : (Try.prog.info? 65).map (fun i => (i.zero, i.size, i.bytes)) = some (some (.agg #[.int .i64 0, .int .i64 0, .int .i64 0]), 3, 24) := by kernel_rfl

/-- A change in a row of three cells. -/
def ChR (w : World) (b o : Nat) (c : Int × Int × Int) : Prop := w.cell? ⟨b, o, none⟩ = some (.int .i64 c.1) ∧ w.cell? ⟨b, o + 1, none⟩ = some (.int .i64 c.2.1) ∧ w.cell? ⟨b, o + 2, none⟩ = some (.int .i64 c.2.2)
theorem ChR.stays : Stays ChR := fun _ _ b _ _ hb hB ⟨h0, h1, h2⟩ =>
  ⟨(hb.cell (p := ⟨b, _, none⟩) hB).trans h0, (hb.cell (p := ⟨b, _, none⟩) hB).trans h1, (hb.cell (p := ⟨b, _, none⟩) hB).trans h2⟩
def ChsAt (w : World) (v : Value) (l : List (Int × Int × Int)) : Prop := SliceAt 3 ChR w v l
theorem ChsAt.below {w w' : World} {v : Value} {l : List (Int × Int × Int)} (h : ChsAt w v l) (hb : Below w.heap.size w w') : ChsAt w' v l := SliceAt.below ChR.stays h hb

/-- A row sorted: its changes in another order, ascending. -/
def SortedTo (B : Nat) (N : List (Int × Int × Int)) (v : Value) (w : World) (e : Ending) (w' : World) : Prop :=
  e = .returned (.tuple #[]) ∧ Below B w w' ∧ ∃ S : List (Int × Int × Int), S.Perm N ∧ S.Pairwise (fun c e => c.1 ≤ e.1) ∧ S.length = N.length ∧ ChsAt w' v S
/-- An owned row stays where its block stays. -/
theorem ownsRow_keep {w w' : World} {base : Nat} {e : TypeId} {sz n : Nat} {v : Value} {xs : List Value} (h : w.ownsRow base e sz v n xs) (hb : ∀ g, v.ownBlock = some g → w'.heap[g]? = w.heap[g]?) : w'.ownsRow base e sz v n xs := by
  obtain ⟨h1, h2⟩ := h
  refine ⟨h1, ?_⟩
  rcases h2 with h2 | ⟨g, cap, cur, hv, hg, hh, r⟩
  · exact Or.inl h2
  · exact Or.inr ⟨g, cap, cur, hv, hg, (hb g (by rw [hv]; rfl)).trans hh, r⟩

theorem chg_snoc (j : Int) (l : List (Int × Int)) (k : Nat) (h : k < l.length) : chg j (l.take (k + 1)) = chg j (l.take k) ++ (if validB l[k].1 l[k].2 = true then [(l[k].1, j, 1), (l[k].2, j, -1)] else []) := by
  unfold chg
  rw [List.take_succ_eq_append_getElem h, List.flatMap_append]
  congr 1
  simp
theorem chg_len (j : Int) (l : List (Int × Int)) : (chg j l).length ≤ 2 * l.length := by
  induction l with
  | nil => exact Nat.le_refl _
  | cons p r ih =>
    rw [chg_cons, List.length_append, List.length_cons]
    split
    · simp; omega
    · simp; omega

/-- The variable in block c holds a row of the changes N. -/
def VarAt (w0 : World) (N : List (Int × Int × Int)) (w : World) : Prop :=
  Below w0.heap.size w0 w ∧ w0.heap.size < w.heap.size ∧ ∃ v, w.cell? ⟨w0.heap.size, 0, none⟩ = some v ∧ w.frozen? ⟨w0.heap.size, 0, none⟩ = false ∧ w.ownsRow (w0.heap.size + 1) 65 3 v N.length (N.flatMap chCells)
theorem VarAt.below {w0 w w' : World} {N : List (Int × Int × Int)} (h : VarAt w0 N w) (hb : Below w.heap.size w w') : VarAt w0 N w' := by
  obtain ⟨h1, h2, v, h3, h4, h5⟩ := h
  exact ⟨h1.trans (hb.mono h1.size), Nat.lt_of_lt_of_le h2 hb.size, v, (hb.cell (p := ⟨w0.heap.size, 0, none⟩) h2).trans h3, (hb.frozen (p := ⟨w0.heap.size, 0, none⟩) h2).trans h4, ownsRow_below h5 hb⟩
def VarTo (w0 : World) (N : List (Int × Int × Int)) (e : Ending) (w' : World) : Prop := e = .returned (.tuple #[]) ∧ VarAt w0 N w'

set_option maxRecDepth 100000 in
set_option maxHeartbeats 6400000 in
theorem gather_calls (w0 w : World) (vl : Value) (l : List (Int × Int)) (j : Int) (L : List (Int × Int × Int)) (hl : PersAt w0 vl l) (hn : L.length + 2 * l.length ≤ 8000) (hV : VarAt w0 L w) :
    Calls Try.prog 58 #[vl, .int .i64 j, .pointer (some ⟨w0.heap.size, 0, none⟩)] w (VarTo w0 (L ++ chg j l)) := by
  have hlh := hl
  obtain ⟨av, cap, rfl, hlc, hm, -⟩ := hl
  have hm := hm.1
  unfold maxLen at hm
  go_enter Try.func58, Try.ntmps58
  go_wp2_with fail
  go_loopw [9] (fun i wr => ∃ k : Nat, k ≤ l.length ∧ i = .int .i64 k ∧ VarAt w0 (L ++ chg j (l.take k)) wr) (fun i _ => l.length - (intOf i).toNat)
  case atStart => exact ⟨0, Nat.zero_le _, rfl, by rw [List.take_zero, show chg j [] = [] from rfl, List.append_nil]; exact hV⟩
  case round =>
    obtain ⟨k, hk, rfl, hv⟩ := hrel
    by_cases hlt : k < l.length
    · obtain ⟨hb, hcw, v, hcell, hfr, hown⟩ := hv
      obtain ⟨av2, cap2, e2, -, -, hx⟩ := hlh.below hb
      cases e2
      obtain ⟨b, o, rfl, hB, hx⟩ := hx (by rintro rfl; cases hlt)
      obtain ⟨c0, c1⟩ := hx k hlt
      have hk0 : (0 : Int) ≤ (k : Int) := Int.natCast_nonneg _
      have hk1 : (k : Int) < (l.length : Int) := by omega
      have hsn := chg_snoc j l k hlt
      have hcl := chg_len j (l.take k)
      rw [List.length_take, Nat.min_eq_left hk] at hcl
      have hlen : (L ++ chg j (l.take k)).length ≤ 8000 := by rw [List.length_append]; omega
      clear hx hcl
      generalize l[k] = p at *
      obtain ⟨x1, x2⟩ := p
      dsimp only at *
      obtain ⟨N, hN⟩ : ∃ N, N = L ++ chg j (l.take k) := ⟨_, rfl⟩
      rw [← hN] at hown hlen
      obtain ⟨W, hW⟩ : ∃ W, W = wr.alloc (Obj.cells #[Value.int .i64 x1, Value.int .i64 x2] 23) := ⟨_, rfl⟩
      have hbW : Below wr.heap.size wr W := by rw [hW]; exact (Below.refl _ _).alloc (Nat.le_refl _) _
      have hzW : wr.heap.size < W.heap.size := by rw [hW]; simp
      have rW : W.heap[wr.heap.size]? = some (Obj.cells #[Value.int .i64 x1, Value.int .i64 x2] 23) := by rw [hW]; exact heap_alloc_new _ _
      have HVW := Lib.hid (show VarAt w0 N W from VarAt.below ⟨hb, hcw, v, hcell, hfr, hown⟩ hbW)
      have hbz := hb.size
      clear hcell hfr hown v
      have HW := Lib.hid hW
      have RW := Lib.hid rW
      have HN := Lib.hid hN
      have Hv := Lib.hid (valid_calls x1 x2 W)
      have HSN := Lib.hid hsn
      clear hW rW hN hsn
      cases hct : validB x1 x2 with
      | false =>
        have HE := Lib.hid (show L ++ chg j (l.take (k + 1)) = N by rw [HN.out, HSN.out, if_neg (by rw [hct]; decide), List.append_nil])
        rw [hct] at Hv
        clear hct
        go_wp2_with fail
        rw [← HW.out]
        refine Hv.out.mono ?_
        rintro e w3 ⟨rfl, hb3⟩
        have HV3 := Lib.hid (HVW.out.below hb3)
        go_wp2
        exact ⟨⟨k + 1, by omega, by go_num, by rw [HE.out]; exact HV3.out⟩, by simp [intOf]; omega⟩
      | true =>
        have HE := Lib.hid (show L ++ chg j (l.take (k + 1)) = N ++ [(x1, j, 1), (x2, j, -1)] by rw [HN.out, HSN.out, if_pos hct, List.append_assoc])
        rw [hct] at Hv
        clear hct
        go_wp2_with fail
        rw [← HW.out]
        refine Hv.out.mono ?_
        rintro e w3 ⟨rfl, hb3⟩
        obtain ⟨hb4, hcw4, v, hcell, hfr, hown⟩ := HVW.out.below hb3
        have q := (hb3.block _ hzW).trans RW.out
        have q0 : w3.cell? ⟨wr.heap.size, 0, none⟩ = some (.int .i64 x1) := cell_of_row w3 _ 0 _ _ _ q
        have q1 : w3.cell? ⟨wr.heap.size, 1, none⟩ = some (.int .i64 x2) := cell_of_row w3 _ 1 _ _ _ q
        obtain ⟨ao, co, rfl, hco, -⟩ := own_shape hown
        obtain ⟨i0, hi, hz0, hz1, hz2⟩ := info_parts Try.chInfo
        have Hi := Lib.hid (And.intro hi (And.intro hz0 (And.intro hz1 hz2)))
        have Hown := Lib.hid hown
        have Hfr := Lib.hid hfr
        have Hcell := Lib.hid hcell
        have HB4 := Lib.hid hb4
        have hz4 := hb4.size
        clear hi hz0 hz1 hz2 q hb3 hown
        have hcw5 : ¬ w0.heap.size = w3.heap.size := by omega
        have hcw6 : w0.heap.size < w3.heap.size + 1 := by omega
        go_wp2_with (at_builtin; refine wpList_append_own _ rfl _ _ 63 rfl (w0.heap.size + 1) 65 i0 _ 3 24 Try.underlying63 Hi.out.1 Hi.out.2.1 Hi.out.2.2.1 Hi.out.2.2.2 rfl (by decide) _ _ _ rfl (Hown.out.alloc _) ⟨w3.heap.size, 0, none⟩ 2 2 [.int .i64 x1, .int .i64 j, .int .i64 1, .int .i64 x2, .int .i64 j, .int .i64 (-1)] rfl rfl (World.news_of_block (cs := #[.int .i64 x1, .int .i64 j, .int .i64 1, .int .i64 x2, .int .i64 j, .int .i64 (-1)]) (t := 65) (fr := (0, 0)) (heap_alloc_new _ _)) ?aq2 ?aq3 ?aq4 ?aq5 ?_)
        case aq2 => simp [Value.oneCell']
        case aq3 => unfold maxLen; (try simp only [List.length_append, List.length_cons, List.length_nil]); omega
        case aq4 => (try simp only [List.length_append, List.length_cons, List.length_nil]); omega
        case aq5 => (try simp); omega
        intro v_w2 w2 hown_w2 hgrow _
        have hb2 : Below (w0.heap.size + 1) w3 w2 := ((Below.refl (w0.heap.size + 1) w3).alloc (by omega) _).grown hgrow (by simp; omega) (fun g hg => (ownsRow_block Hown.out g hg).1)
        have hcell2 : w2.cell? ⟨w0.heap.size, 0, none⟩ = some (.slice ao N.length co) := (hb2.cell (p := ⟨w0.heap.size, 0, none⟩) (by simp)).trans Hcell.out
        have hfr2 : w2.frozen? ⟨w0.heap.size, 0, none⟩ = false := (hb2.frozen (p := ⟨w0.heap.size, 0, none⟩) (by simp)).trans Hfr.out
        have hz2 := hb2.size
        have hb5 : Below w0.heap.size w0 w2 := HB4.out.trans (hb2.mono (by omega))
        have Hown2 := Lib.hid hown_w2
        clear hown_w2 hgrow
        obtain ⟨ao2, co2, rfl, -, -⟩ := own_shape Hown2.out
        go_wp2
        refine ⟨⟨k + 1, by omega, by go_num, ?_⟩, by simp [intOf]; omega⟩
        rw [HE.out]
        refine ⟨hb5.setCell (Nat.le_refl _) _, by simp; omega, _, World.cell?_setCell_same _ _ _ hcell2, by simpa using hfr2, ?_⟩
        refine ownsRow_keep (w := w2) ?_ (fun g hg => Below.heap_setCell _ _ _ _ (by have := (ownsRow_block Hown2.out g hg).1; simp; omega))
        rw [List.flatMap_append, List.length_append]
        exact Hown2.out
    · go_wp2
      go_end0
      rw [List.take_of_length_le (by omega)] at hv
      exact ⟨rfl, hv⟩
end Go.Proofs.Ytimclpgkdplnhaa
