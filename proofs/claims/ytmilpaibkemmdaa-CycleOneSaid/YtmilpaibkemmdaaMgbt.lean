/-
  Dues compared and sorted.
-/
import Derived.Test.YtmilpaibkemmdaaMgan
import Derived.Test.YtmilpaibkemmdaaMgbs
import Derived.Test.YtmilpaibkemmdaaMgap
import Derived.Test.YtmilpaibkemmdaaMgbo
namespace Go.Proofs.Ytmilpaibkemmdaa
open Go.RowKit Go.Sort

/-- The first of two numbers that is not nothing. -/
def orV2 (x y : Int) : Int := if x ≠ 0 then x else y
theorem or2_calls (b cap : Nat) (x y : Int) (w : World) (h0 : w.cell? ⟨b, 0, none⟩ = some (.int .i64 x)) (h1 : w.cell? ⟨b, 1, none⟩ = some (.int .i64 y)) :
    Calls Try.prog 34 #[.slice (some ⟨b, 0, none⟩) 2 cap] w fun e w' => e = .returned (.int .i64 (orV2 x y)) ∧ w = w' := by
  have HV := Lib.hid (show orV2 x y = if x ≠ 0 then x else y from rfl)
  go_enter Try.func34, Try.ntmps34
  go_wp2_with fail
  go_loop [5, 8] (fun _ i => ∃ k : Nat, k ≤ 2 ∧ i = .int .i64 k ∧ (0 < k → x = 0) ∧ (1 < k → y = 0)) (fun _ i => 2 - (intOf i).toNat)
  case atStart => exact ⟨0, by omega, rfl, fun h => absurd h (by omega), fun h => absurd h (by omega)⟩
  case round =>
    obtain ⟨k, hk, rfl, hx, hy⟩ := hrel
    match k, hk with
    | 0, _ =>
      by_cases h : x = 0
      · have hzb : (x != 0) = false := bne_eq_false_iff_eq.2 h
        go_wp2
        exact ⟨⟨1, by omega, rfl, fun _ => h, fun h => absurd h (by omega)⟩, by simp [intOf]⟩
      · have hzb : (x != 0) = true := bne_iff_ne.2 h
        have HE := Lib.hid (HV.out.trans (if_pos h))
        go_wp2
        go_ret
        exact ⟨by rw [HE.out]; rfl, rfl⟩
    | 1, _ =>
      have hx0 := hx (by omega)
      have HE := Lib.hid (HV.out.trans (if_neg (not_not_intro hx0)))
      have Hx0 := Lib.hid hx0
      clear hx hx0
      by_cases h : y = 0
      · have hzb : (y != 0) = false := bne_eq_false_iff_eq.2 h
        go_wp2
        exact ⟨⟨2, by omega, rfl, fun _ => Hx0.out, fun _ => h⟩, by simp [intOf]⟩
      · have hzb : (y != 0) = true := bne_iff_ne.2 h
        go_wp2
        go_ret
        exact ⟨by rw [HE.out]; rfl, rfl⟩
    | 2, _ =>
      have hx0 := hx (by omega)
      have hy0 := hy (by omega)
      have HE := Lib.hid (show orV2 x y = 0 by rw [HV.out, if_neg (not_not_intro hx0), hy0])
      clear hx hy hx0 hy0
      go_wp2
      go_ret
      exact ⟨by rw [HE.out]; rfl, rfl⟩

def duCmp (x y : Du) : Int := orV2 (cmpI x.2.2 y.2.2) (cmpI x.1 y.1)
theorem du_lt (x y : Du) : Go.Proofs.ltOf duCmp x y = decide (befD x y) := by
  refine decide_eq_decide.2 ?_
  unfold duCmp orV2 cmpI befD
  by_cases h1 : x.2.2 < y.2.2
  · simp [h1]
  · by_cases h2 : y.2.2 < x.2.2
    · have h3 : ¬ x.2.2 = y.2.2 := by omega
      simp [h1, h2, h3]
    · have h3 : x.2.2 = y.2.2 := by omega
      by_cases h4 : x.1 < y.1
      · simp [h3, h4]
      · by_cases h5 : y.1 < x.1
        · simp [h3, h4, h5]
        · simp [h3, h4, h5]
theorem du_swo : SWO (Go.Proofs.ltOf duCmp) where
  irrefl x := by rw [du_lt]; exact decide_eq_false fun h => befD_asym h h
  trans x y z h1 h2 := by
    rw [du_lt] at *
    have h1 := of_decide_eq_true h1
    have h2 := of_decide_eq_true h2
    refine decide_eq_true ?_
    unfold befD at *
    omega
  ntrans x y z h1 h2 := by
    rw [du_lt] at *
    have h1 := of_decide_eq_false h1
    have h2 := of_decide_eq_false h2
    refine decide_eq_false ?_
    unfold befD at *
    omega

set_option maxRecDepth 100000 in
set_option maxHeartbeats 3200000 in
theorem duecmp_calls (x y : Du) (W : World) : Calls Try.prog 33 #[.agg #[.int .i64 x.1, .int .i64 x.2.1, .int .i64 x.2.2], .agg #[.int .i64 y.1, .int .i64 y.2.1, .int .i64 y.2.2]] W fun e w' => e = .returned (.int .i64 (duCmp x y)) ∧ ∃ q os', w' = Go.Sort.grow (W.drewN q) os' := by
  have HV := Lib.hid (show duCmp x y = orV2 (cmpI x.2.2 y.2.2) (cmpI x.1 y.1) from rfl)
  obtain ⟨xa, xf, xt⟩ := x
  obtain ⟨ya, yf, yt⟩ := y
  dsimp only at HV ⊢
  obtain ⟨r0, r1, hbY, hzY⟩ := two_rows W (Obj.cells #[Value.int .i64 xa, .int .i64 xf, .int .i64 xt] 47) (Obj.cells #[Value.int .i64 ya, .int .i64 yf, .int .i64 yt] 47)
  obtain ⟨Y, hY⟩ : ∃ Y, Y = ((W.alloc (Obj.cells #[Value.int .i64 xa, .int .i64 xf, .int .i64 xt] 47)).alloc (Obj.cells #[Value.int .i64 ya, .int .i64 yf, .int .i64 yt] 47)) := ⟨_, rfl⟩
  rw [← hY] at r0 r1 hbY hzY
  have hdY : W.drawn ≤ Y.drawn := by rw [hY]; exact Nat.le_refl _
  have HG := Lib.hid (fun w' (h : GrY Y w') => grew_of (hbY.trans (h.1.mono hbY.size)) (Nat.le_trans hdY h.2))
  have Mk := Lib.hid (show ∀ w' : World, GrY Y w' → (fun w' => GrY Y w' ∧ w'.cell? ⟨W.heap.size, 0, none⟩ = some (.int .i64 xa) ∧ w'.cell? ⟨W.heap.size, 2, none⟩ = some (.int .i64 xt) ∧ w'.cell? ⟨W.heap.size + 1, 0, none⟩ = some (.int .i64 ya) ∧ w'.cell? ⟨W.heap.size + 1, 2, none⟩ = some (.int .i64 yt)) w' from fun w' h => by
    have q0 := (h.1.block W.heap.size (by omega)).trans r0
    have q1 := (h.1.block (W.heap.size + 1) (by omega)).trans r1
    exact ⟨h, cell_of_row w' _ 0 _ _ _ q0, cell_of_row w' _ 2 _ _ _ q0, cell_of_row w' _ 0 _ _ _ q1, cell_of_row w' _ 2 _ _ _ q1⟩)
  have HY := Lib.hid hY
  clear hY hbY hdY hzY r0 r1
  go_enter Try.func33, Try.ntmps33
  go_upto_region 1 with (fail)
  rw [← HY.out]
  go_region_held3 (fun w' => GrY Y w' ∧ w'.cell? ⟨W.heap.size, 0, none⟩ = some (.int .i64 xa) ∧ w'.cell? ⟨W.heap.size, 2, none⟩ = some (.int .i64 xt) ∧ w'.cell? ⟨W.heap.size + 1, 0, none⟩ = some (.int .i64 ya) ∧ w'.cell? ⟨W.heap.size + 1, 2, none⟩ = some (.int .i64 yt))
    (first
      | exact Mk.out _ (GrY.refl _).drew
      | exact Mk.out _ (GrY.alloc (And.left (by assumption)) _)
      | exact Mk.out _ (And.left (by assumption)))
    (first
      | (go_at_call 35
         refine (cmpI_calls _ _ _).mono ?_
         rintro e w4 ⟨rfl, rfl⟩)
      | (go_at_call 34
         refine (or2_calls _ _ _ _ _ (cell_of_row _ _ 0 _ _ _ (heap_alloc_new _ _)) (cell_of_row _ _ 1 _ _ _ (heap_alloc_new _ _))).mono ?_
         rintro e w6 ⟨rfl, rfl⟩))
  go_wp2
  go_ret
  exact ⟨by rw [HV.out]; rfl, HG.out _ ((GrY.refl _).alloc _).drew⟩

theorem sortDue_calls (B : Nat) (w : World) (v : Value) (R : List Du) (hown : w.ownsRow B 47 3 v R.length (R.flatMap duCells)) (hB : B ≤ w.heap.size) (hl : R.length ≤ 8000) :
    Calls Try.prog 32 #[v, .func (.func 33) #[] #[]] w (SortedR duCells 3 47 duCmp B R v w) := by
  have h2 := hown.2
  rcases h2 with ⟨hv, h0⟩ | ⟨g, cap, cur, hv, hg, hh, h1, h2, h3, -⟩
  · subst hv
    obtain rfl : R = [] := List.length_eq_zero_iff.1 h0
    have h := Go.Proofs.AnyF.slices_SortFunc_none Try.sortDue none 0 (.func (.func 33) #[] #[]) w
    change Calls Try.prog 32 _ _ _ at h
    refine h.mono ?_
    rintro e w' ⟨rfl, rfl⟩
    exact ⟨rfl, Below.refl _ _, ⟨rfl, rfl, rfl, Nat.le_refl _, fun _ _ _ => rfl⟩, [], List.Perm.refl _, List.Pairwise.nil, World.ownsRow_nil _ _ _ _⟩
  · subst hv
    have hsz : R.toArray.size = R.length := by simp
    have hlt := (Array.getElem?_eq_some_iff.1 hh).1
    have hH := recs_holds (c := duCells) (sz := 3) (fun _ => rfl) (by decide) hown
    have eg : ∀ args w, (callFunc 33 args).run Try.prog w = .ok (.enter 33 args) w := Go.Proofs.enters_of Try.func33 (by kernel_rfl) rfl
    have h := Go.Proofs.AnyQ.slices_SortFunc Try.sortDue 3 Try.isAgg47 Try.sizeOf47 duCells (fun _ => rfl) du_one duCmp du_swo 33 #[] g 0 cap R.toArray w eg (fun _ _ _ _ x y => duecmp_calls x y _) hH hlt (by rw [hsz]; omega)
    rw [hsz] at h
    change Calls Try.prog 32 _ _ _ at h
    refine h.mono ?_
    rintro e w' ⟨rfl, d', n, os, hp, hs, rfl⟩
    exact recs_sorted (c := duCells) (sz := 3) (cmp := duCmp) (d' := d') (n := n) (os := os) (fun _ => rfl) hB hg hh h3 h1 h2 hH hp hs
end Go.Proofs.Ytmilpaibkemmdaa
