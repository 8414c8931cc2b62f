/-
  The walks of slices.Clone and of slices.SortStableFunc at short lists of agreements.
-/
import Derived.Test.YtohmdohbmmbbkaaDoorMgbl
import Derived.Laws.AppendOwnNone
import Derived.Laws.AppendOwn
import Derived.Handy
namespace Go.Proofs.YtohmdohbmmbbkaaDoor
open Go.RowKit Go.Sort

theorem Tryd.agInfo : (Tryd.prog.info? 53).map (fun i => (i.zero, i.size, i.bytes)) = some (some (.agg #[.int .i64 0, .int .i64 0, .bool false, .int .i64 0, .int .i64 0, .slice none 0 0, .int .i64 0]), 7, 72) := by kernel_rfl
/-- A list of agreements as a row would hold it. -/
theorem agx_of {w : World} {v : Value} {l : List Ag} (h : AgsAt w v l) : ∃ R : List Agx, R.map (·.1) = l ∧ (∀ r ∈ R, StepsAt w (agxV r) r.1.st ∧ NilOk (agxV r) ∧ (r.1.st ≠ [] → ∀ g, (agxV r).ownBlock = some g → g < w.heap.size)) ∧
    ∃ av cap, v = .slice av l.length cap ∧ l.length ≤ cap ∧ CapOk av cap ∧ (l ≠ [] → ∃ b o, av = some ⟨b, o, none⟩ ∧ b < w.heap.size ∧ ∀ i (hi : i < R.length) j, j < 7 → w.cell? ⟨b, o + i * 7 + j, none⟩ = (agxCells R[i])[j]?) := by
  obtain ⟨av, cap, rfl, hl, hm, hx⟩ := h
  by_cases hne : l = []
  · subst hne
    exact ⟨[], rfl, fun r hr => (by cases hr), av, cap, rfl, hl, hm, fun h => absurd rfl h⟩
  · obtain ⟨b, o, rfl, hB, hx⟩ := hx hne
    have each : ∀ i, i < l.length → ∃ r : Agx, l[i]? = some r.1 ∧ (StepsAt w (agxV r) r.1.st ∧ NilOk (agxV r) ∧ (r.1.st ≠ [] → ∀ g, (agxV r).ownBlock = some g → g < w.heap.size)) ∧ ∀ j, j < 7 → w.cell? ⟨b, o + i * 7 + j, none⟩ = (agxCells r)[j]? := by
      intro i hi
      obtain ⟨h0, h1, h2, h3, h4, ⟨sv, h5, hs, hn⟩, h6⟩ := hx i hi
      have hs0 := hs
      obtain ⟨sa, sc, rfl, -, hsx⟩ := hs
      refine ⟨(l[i], (sa, l[i].st.length, sc)), List.getElem?_eq_getElem hi, ⟨hs0, hn, fun hne g e => ?_⟩, fun j hj => ?_⟩
      · obtain ⟨b', o', rfl, hB', -⟩ := hsx hne
        cases e
        exact hB'
      · match j, hj with
        | 0, _ => exact h0
        | 1, _ => exact h1
        | 2, _ => exact h2
        | 3, _ => exact h3
        | 4, _ => exact h4
        | 5, _ => exact h5
        | 6, _ => exact h6
    obtain ⟨q, hq⟩ := Go.Deep.choose_lt each
    refine ⟨(List.range l.length).map q, ?_, fun r hr => ?_, _, cap, rfl, hl, hm, fun _ => ⟨b, o, rfl, hB, fun i hi j hj => ?_⟩⟩
    · apply List.ext_getElem
      · simp
      · intro i h1 h2
        have := (hq i h2).1
        rw [List.getElem?_eq_getElem h2] at this
        simp only [List.getElem_map, List.getElem_range]
        exact (Option.some.inj this).symm
    · obtain ⟨i, hi, rfl⟩ := List.mem_map.1 hr
      exact (hq i (List.mem_range.1 hi)).2.1
    · simp only [List.getElem_map, List.getElem_range]
      exact (hq i (by simpa using hi)).2.2 j hj
/-- An own copy of agreements. -/
def CopyA (l : List Ag) (w : World) (e : Ending) (w' : World) : Prop :=
  ∃ (v : Value) (R : List Agx), e = .returned v ∧ R.map (·.1) = l ∧ w'.ownsRow w.heap.size 53 7 v R.length (R.flatMap agxCells) ∧ RdA w' v.ownBlock R ∧ Below w.heap.size w w'

set_option maxRecDepth 100000 in
set_option maxHeartbeats 3200000 in
theorem clone_calls (v : Value) (l : List Ag) (w : World) (h : AgsAt w v l) (hl : l.length ≤ 4096) : Calls Tryd.prog 22 #[v] w (CopyA l w) := by
  obtain ⟨R, hR, hrd, av, cap, rfl, hlc, hm, hx⟩ := agx_of h
  have hRl : R.length = l.length := by rw [← hR, List.length_map]
  cases av with
  | none =>
    obtain rfl := hm.2 rfl
    obtain rfl : l = [] := List.length_eq_zero_iff.1 (by omega)
    obtain rfl : R = [] := List.length_eq_zero_iff.1 (by simpa using hRl)
    have heq := fun w' => Lib.run_eql_slice_nil (P := Tryd.prog) w' 22 53 none 0 0 0 0 Tryd.underlying22
    clear hR hrd hx hm hlc hRl h
    go_enter Tryd.func22, Tryd.ntmps22
    go_wp2
    go_ret
    exact ⟨_, [], rfl, rfl, ⟨rfl, Or.inl ⟨rfl, rfl⟩⟩, fun r hr => (by cases hr), Below.refl _ _⟩
  | some ad =>
    have heq := fun w' => Lib.run_eql_slice_nil (P := Tryd.prog) w' 22 53 (some ad) l.length cap 0 0 Tryd.underlying22
    obtain ⟨i0, hi, hz0, hz1, hz2⟩ := info_parts Tryd.agInfo
    have Hi := Lib.hid (And.intro hi (And.intro hz0 (And.intro hz1 hz2)))
    obtain ⟨Y, hY⟩ : ∃ Y, Y = w.alloc (Obj.cells #[] 53) := ⟨_, rfl⟩
    have hbY : Below w.heap.size w Y := by rw [hY]; exact (Below.refl _ _).alloc (Nat.le_refl _) _
    have hown0 : Y.ownsRow w.heap.size 53 7 (.slice (some ⟨w.heap.size, 0, none⟩) 0 0) 0 [] := by
      rw [hY]
      exact ⟨rfl, Or.inr ⟨w.heap.size, 0, #[], rfl, Nat.le_refl _, heap_alloc_new _ _, Nat.le_refl _, by decide, rfl, rfl⟩⟩
    have Hown0 := Lib.hid hown0
    have HY := Lib.hid hY
    have HbY := Lib.hid hbY
    have Hx := Lib.hid hx
    have HR := Lib.hid hR
    have Hrd := Lib.hid hrd
    have HRl := Lib.hid hRl
    clear hi hz0 hz1 hz2 hY hbY hown0 hx hR hrd hRl h hm
    go_enter Tryd.func22, Tryd.ntmps22
    go_wp2_with (at_builtin; refine wpList_append_own _ rfl _ _ 22 rfl w.heap.size 53 i0 _ 7 72 Tryd.underlying22 Hi.out.1 Hi.out.2.1 Hi.out.2.2.1 Hi.out.2.2.2 rfl (by decide) _ 0 [] rfl (HY.out ▸ Hown0.out) ad l.length cap (R.flatMap agxCells) rfl ?aq0 ?aq1 ?aq2 (by unfold maxLen; omega) (by omega) ?aq5 ?_)
    case aq0 => rw [flat_length agxCells 7 (fun _ => rfl), HRl.out]
    case aq1 =>
      rw [← HY.out]
      intro j x hj
      have hjl : j < R.length * 7 := by
        rw [← flat_length agxCells 7 (fun _ => rfl) R]
        exact (List.getElem?_eq_some_iff.1 hj).1
      have hi2 : j / 7 < R.length := by omega
      have hne : l ≠ [] := by
        intro e
        have := HRl.out
        rw [e, List.length_nil] at this
        omega
      obtain ⟨b, o, e, hB, hc⟩ := Hx.out hne
      cases e
      have hg := flat_get agxCells 7 (fun _ => rfl) R (j / 7) (j % 7) hi2 (by omega)
      rw [show j / 7 * 7 + j % 7 = j by omega, hj] at hg
      rw [show (⟨b, o, none⟩ : Addr).add j = ⟨b, o + j / 7 * 7 + j % 7, none⟩ by unfold Addr.add; split <;> simp_all; omega]
      exact ((HbY.out.cell (p := ⟨b, _, none⟩) hB).trans (hc (j / 7) hi2 (j % 7) (by omega))).trans hg.symm
    case aq2 =>
      intro x hx
      obtain ⟨r, -, hr⟩ := List.mem_flatMap.1 hx
      exact agx_one r x hr
    case aq5 => simp
    rw [← HY.out]
    intro v6 w6 hown6 hgrow _
    have hb6 : Below w.heap.size w w6 := HbY.out.grown hgrow HbY.out.size (fun g hg => by cases hg; exact Nat.le_refl _)
    have hown6 : w6.ownsRow w.heap.size 53 7 v6 R.length (R.flatMap agxCells) := by
      rw [HRl.out]
      exact hown6
    have HC := Lib.hid (show CopyA l w (.returned v6) w6 from ⟨v6, R, rfl, HR.out, hown6, fun r hr => by
      obtain ⟨h1, h2, h3⟩ := Hrd.out r hr
      refine ⟨h1.below hb6, h2, fun hn g e => ⟨Nat.lt_of_lt_of_le (h3 hn g e) hb6.size, fun e2 => ?_⟩⟩
      have := (ownsRow_block hown6 g e2).1
      have := h3 hn g e
      omega, hb6⟩)
    clear hown6 hgrow hb6
    go_wp2
    go_ret
    exact HC.out

set_option maxRecDepth 100000 in
set_option maxHeartbeats 3200000 in
theorem insNone_calls (f : Value) (w : World) : Calls Tryd.prog 62 #[.slice none 0 0, .int .i64 0, .int .i64 0, f] w (fun e w' => e = .returned (.tuple #[]) ∧ w' = w) := by
  go_enter Tryd.func62, Tryd.ntmps62
  go_wp2_with fail
  go_loopw [8] (fun a wr => a = .int .i64 1 ∧ wr = w) (fun _ _ => 0)
  case atStart => exact ⟨rfl, rfl⟩
  case round =>
    obtain ⟨rfl, rfl⟩ := hrel
    go_wp2
    go_end0
    exact ⟨rfl, rfl⟩

set_option maxRecDepth 100000 in
set_option maxHeartbeats 3200000 in
theorem stable_calls (B : Nat) (w : World) (v : Value) (R : List Agx) (hown : w.ownsRow B 53 7 v R.length (R.flatMap agxCells)) (hrd : RdA w v.ownBlock R) (hB : B ≤ w.heap.size) (hl : R.length ≤ 19) :
    Calls Tryd.prog 23 #[v, .func (.func 24) #[] #[]] w (SortedA B R v w) := by
  have HI : Hid (Calls Tryd.prog 62 #[v, .int .i64 0, .int .i64 R.length, .func (.func 24) #[] #[]] w (SortedA B R v w)) := by
    refine Lib.hid ?_
    have h2 := hown.2
    rcases h2 with ⟨hv, h0⟩ | ⟨g, cap, cur, hv, -⟩
    · subst hv
      obtain rfl : R = [] := List.length_eq_zero_iff.1 h0
      refine (insNone_calls (.func (.func 24) #[] #[]) w).mono ?_
      rintro e w' ⟨rfl, rfl⟩
      exact ⟨rfl, Below.refl _ _, [], List.Perm.refl _, List.Pairwise.nil, SliceAt.nil _⟩
    · subst hv
      exact insA_calls B w g cap R hown hrd hB (by omega)
  have HS : Hid (Calls Tryd.prog 44 #[v, .int .i64 R.length, .func (.func 24) #[] #[]] w (SortedA B R v w)) := by
    refine Lib.hid ?_
    obtain ⟨av, cap, rfl, -, -⟩ := own_shape hown
    clear hown hrd
    have h20 : ¬ (20 : Int) ≤ (R.length : Int) := by omega
    have h20b : ¬ (20 : Int) < (R.length : Int) := by omega
    generalize R.length = n at *
    go_enter Tryd.func44, Tryd.ntmps44
    go_wp2_with fail
    go_loopw [7, 8] (fun a b wr => a = .int .i64 0 ∧ b = .int .i64 20 ∧ wr = w) (fun _ _ _ => 0)
    case atStart => exact ⟨rfl, rfl, rfl⟩
    case round =>
      obtain ⟨rfl, rfl, rfl⟩ := hrel
      go_wp2_with fail
      refine HI.out.mono ?_
      rintro e w1 h1
      have he := h1.1
      have H1 := Lib.hid h1
      subst he
      clear h1
      go_wp2_with fail
      go_loopw [6] (fun a wr => a = .int .i64 20 ∧ wr = w1) (fun _ _ => 0)
      case atStart => exact ⟨rfl, rfl⟩
      case round =>
        obtain ⟨rfl, rfl⟩ := hrel
        go_wp2
        go_end0
        exact H1.out
  obtain ⟨av, cap, rfl, -, -⟩ := own_shape hown
  clear hown hrd HI
  go_enter Tryd.func23, Tryd.ntmps23
  go_wp2_with fail
  refine HS.out.mono ?_
  rintro e w1 h1
  have he := h1.1
  have H1 := Lib.hid h1
  subst he
  clear h1
  go_wp2
  go_end0
  exact H1.out
end Go.Proofs.YtohmdohbmmbbkaaDoor
