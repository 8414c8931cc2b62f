/-
  Subscriptions with a product compared and sorted.
-/
import Derived.Test.YtngippiilgdnoaaGreatMpbc
import Derived.Test.YtngippiilgdnoaaGreatMpbu
import Derived.Test.YtngippiilgdnoaaGreatMpaf
import Derived.Test.YtngippiilgdnoaaGreatMpbk
import Derived.Test.YtngippiilgdnoaaGreatMpax
namespace Go.Proofs.YtngippiilgdnoaaGreat
open Go.RowKit Go.Sort

theorem ltS_tri {a b : ByteArray} (h : ¬ ltS a b = true) (g : ¬ ltS b a = true) : a = b := Classical.byContradiction fun hne => g (ltS_tot h hne)
/-- Texts compared. -/
def cmpH (a b : ByteArray) : Int := if ltS a b = true then -1 else if ltS b a = true then 1 else 0
theorem nanSh_calls (a : ByteArray) (w : World) : Calls Tryz.prog 136 #[.string a] w fun e w' => e = .returned (.bool false) ∧ w = w' := by
  have H := Lib.hid (show (!(a.toList == a.toList)) = false by simp)
  go_enter Tryz.func136, Tryz.ntmps136
  go_wp2
  go_ret
  exact ⟨ret_bool (by simp), rfl⟩
set_option maxHeartbeats 1600000 in
theorem cmpSh_calls (a b : ByteArray) (w : World) : Calls Tryz.prog 86 #[.string a, .string b] w fun e w' => e = .returned (.int .i64 (cmpH a b)) ∧ w = w' := by
  have Ha := Lib.hid (nanSh_calls a w)
  have Hb := Lib.hid (nanSh_calls b w)
  have HR := Lib.hid (show cmpH a b = if ltS a b = true then -1 else if ltS b a = true then 1 else 0 from rfl)
  have hless : Op.bytesLess a.toList b.toList = ltS a b := rfl
  by_cases h1 : ltS a b = true
  · rw [h1] at hless
    have HE := Lib.hid (HR.out.trans (if_pos h1))
    clear h1
    go_enter Tryz.func86, Tryz.ntmps86
    go_wp2_with fail
    refine Ha.out.mono ?_
    rintro e w1 ⟨rfl, rfl⟩
    go_wp2_with fail
    refine Hb.out.mono ?_
    rintro e w1 ⟨rfl, rfl⟩
    go_wp2
    go_ret
    exact ⟨by rw [HE.out]; rfl, rfl⟩
  · rw [Bool.eq_false_iff.2 h1] at hless
    have HE := Lib.hid (HR.out.trans (if_neg h1))
    by_cases h2 : ltS b a = true
    · have hne : (a.toList == b.toList) = false := by
        cases h : (a.toList == b.toList) with
        | false => rfl
        | true => exact absurd h2 ((sameS_iff _ _).1 h ▸ ltS_irrefl _)
      have HE := Lib.hid (HE.out.trans (if_pos h2))
      clear h1 h2
      go_enter Tryz.func86, Tryz.ntmps86
      go_wp2_with fail
      refine Ha.out.mono ?_
      rintro e w1 ⟨rfl, rfl⟩
      go_wp2_with fail
      refine Hb.out.mono ?_
      rintro e w1 ⟨rfl, rfl⟩
      go_wp2
      go_ret
      exact ⟨by rw [HE.out]; rfl, rfl⟩
    · have heq : (a.toList == b.toList) = true := (sameS_iff _ _).2 (ltS_tri h1 h2)
      have HE := Lib.hid (HE.out.trans (if_neg h2))
      clear h1 h2
      go_enter Tryz.func86, Tryz.ntmps86
      go_wp2_with fail
      refine Ha.out.mono ?_
      rintro e w1 ⟨rfl, rfl⟩
      go_wp2_with fail
      refine Hb.out.mono ?_
      rintro e w1 ⟨rfl, rfl⟩
      go_wp2
      go_ret
      exact ⟨by rw [HE.out]; rfl, rfl⟩

/-- The first of two numbers that is not nothing. -/
def orVh (x y : Int) : Int := if x ≠ 0 then x else y
theorem orh_calls (b cap : Nat) (x y : Int) (w : World) (h0 : w.cell? ⟨b, 0, none⟩ = some (.int .i64 x)) (h1 : w.cell? ⟨b, 1, none⟩ = some (.int .i64 y)) :
    Calls Tryz.prog 84 #[.slice (some ⟨b, 0, none⟩) 2 cap] w fun e w' => e = .returned (.int .i64 (orVh x y)) ∧ w = w' := by
  have HV := Lib.hid (show orVh x y = if x ≠ 0 then x else y from rfl)
  go_enter Tryz.func84, Tryz.ntmps84
  go_wp2_with fail
  go_loop [5, 8] (fun _ i => ∃ k : Nat, k ≤ 2 ∧ i = .int .i64 k ∧ (0 < k → x = 0) ∧ (1 < k → y = 0)) (fun _ i => 2 - (intOf i).toNat)
  case atStart => exact ⟨0, by omega, rfl, fun h => absurd h (by omega), fun h => absurd h (by omega)⟩
  case round =>
    obtain ⟨k, hk, rfl, hx, hy⟩ := hrel
    match k, hk with
    | 0, _ =>
      by_cases h : x = 0
      · have hzb : (x != 0) = false := bne_eq_false_iff_eq.2 h
        go_wp2
        exact ⟨⟨1, by omega, rfl, fun _ => h, fun h => absurd h (by omega)⟩, by simp [intOf]⟩
      · have hzb : (x != 0) = true := bne_iff_ne.2 h
        have HE := Lib.hid (HV.out.trans (if_pos h))
        go_wp2
        go_ret
        exact ⟨by rw [HE.out]; rfl, rfl⟩
    | 1, _ =>
      have hx0 := hx (by omega)
      have HE := Lib.hid (HV.out.trans (if_neg (not_not_intro hx0)))
      have Hx0 := Lib.hid hx0
      clear hx hx0
      by_cases h : y = 0
      · have hzb : (y != 0) = false := bne_eq_false_iff_eq.2 h
        go_wp2
        exact ⟨⟨2, by omega, rfl, fun _ => Hx0.out, fun _ => h⟩, by simp [intOf]⟩
      · have hzb : (y != 0) = true := bne_iff_ne.2 h
        go_wp2
        go_ret
        exact ⟨by rw [HE.out]; rfl, rfl⟩
    | 2, _ =>
      have hx0 := hx (by omega)
      have hy0 := hy (by omega)
      have HE := Lib.hid (show orVh x y = 0 by rw [HV.out, if_neg (not_not_intro hx0), hy0])
      clear hx hy hx0 hy0
      go_wp2
      go_ret
      exact ⟨by rw [HE.out]; rfl, rfl⟩


def hadCells (x : Had) : List Value := [.int .i64 x.1, .string x.2]
theorem had_one (a : Had) : ∀ u ∈ hadCells a, u.oneCell' = true := fun u hu => by
  unfold hadCells at hu
  simp only [List.mem_cons, List.not_mem_nil, or_false] at hu
  rcases hu with rfl | rfl <;> rfl
def hadCmp (x y : Had) : Int := orVh (cmpI x.1 y.1) (cmpH x.2 y.2)
theorem had_lt (x y : Had) : Go.Proofs.ltOf hadCmp x y = true ↔ hadLt x y := by
  have e : Go.Proofs.ltOf hadCmp x y = decide (hadCmp x y < 0) := rfl
  rw [e, decide_eq_true_eq]
  unfold hadCmp orVh cmpI cmpH hadLt
  by_cases h1 : x.1 < y.1
  · simp [h1]
  · by_cases h2 : y.1 < x.1
    · have h3 : ¬ x.1 = y.1 := by omega
      simp [h1, h2, h3]
    · have h3 : x.1 = y.1 := by omega
      by_cases h4 : ltS x.2 y.2 = true
      · simp [h3, h4]
      · by_cases h5 : ltS y.2 x.2 = true
        · simp [h3, h4, h5]
        · simp [h3, h4, h5]
theorem had_no (x y : Had) : Go.Proofs.ltOf hadCmp x y = false ↔ ¬ hadLt x y := by
  rw [← had_lt, Bool.not_eq_true]
theorem had_swo : SWO (Go.Proofs.ltOf hadCmp) where
  irrefl x := (had_no _ _).2 (hadLt_irr x)
  trans x y z h1 h2 := (had_lt _ _).2 (hadLt_trans _ _ _ ((had_lt _ _).1 h1) ((had_lt _ _).1 h2))
  ntrans x y z h1 h2 := (had_no _ _).2 fun h => by
    have h1 := (had_no _ _).1 h1
    have h2 := (had_no _ _).1 h2
    by_cases e : x = y
    · subst e; exact h2 h
    · exact h2 (hadLt_trans _ _ _ (hadLt_tot _ _ h1 e) h)

set_option maxRecDepth 100000 in
set_option maxHeartbeats 3200000 in
theorem hadcmp_calls (x y : Had) (W : World) : Calls Tryz.prog 83 #[.agg #[.int .i64 x.1, .string x.2], .agg #[.int .i64 y.1, .string y.2]] W fun e w' => e = .returned (.int .i64 (hadCmp x y)) ∧ ∃ q os', w' = Go.Sort.grow (W.drewN q) os' := by
  have HV := Lib.hid (show hadCmp x y = orVh (cmpI x.1 y.1) (cmpH x.2 y.2) from rfl)
  obtain ⟨xa, xt⟩ := x
  obtain ⟨ya, yt⟩ := y
  dsimp only at HV ⊢
  obtain ⟨r0, r1, hbY, hzY⟩ := two_rows W (Obj.cells #[Value.int .i64 xa, .string xt] 95) (Obj.cells #[Value.int .i64 ya, .string yt] 95)
  obtain ⟨Y, hY⟩ : ∃ Y, Y = ((W.alloc (Obj.cells #[Value.int .i64 xa, .string xt] 95)).alloc (Obj.cells #[Value.int .i64 ya, .string yt] 95)) := ⟨_, rfl⟩
  rw [← hY] at r0 r1 hbY hzY
  have hdY : W.drawn ≤ Y.drawn := by rw [hY]; exact Nat.le_refl _
  have HG := Lib.hid (fun w' (h : GrY Y w') => grew_of (hbY.trans (h.1.mono hbY.size)) (Nat.le_trans hdY h.2))
  have Mk := Lib.hid (show ∀ w' : World, GrY Y w' → (fun w' => GrY Y w' ∧ w'.cell? ⟨W.heap.size, 0, none⟩ = some (.int .i64 xa) ∧ w'.cell? ⟨W.heap.size, 1, none⟩ = some (.string xt) ∧ w'.cell? ⟨W.heap.size + 1, 0, none⟩ = some (.int .i64 ya) ∧ w'.cell? ⟨W.heap.size + 1, 1, none⟩ = some (.string yt)) w' from fun w' h => by
    have q0 := (h.1.block W.heap.size (by omega)).trans r0
    have q1 := (h.1.block (W.heap.size + 1) (by omega)).trans r1
    exact ⟨h, cell_of_row w' _ 0 _ _ _ q0, cell_of_row w' _ 1 _ _ _ q0, cell_of_row w' _ 0 _ _ _ q1, cell_of_row w' _ 1 _ _ _ q1⟩)
  have HY := Lib.hid hY
  clear hY hbY hdY hzY r0 r1
  go_enter Tryz.func83, Tryz.ntmps83
  go_upto_region 1 with (fail)
  rw [← HY.out]
  go_region_held3 (fun w' => GrY Y w' ∧ w'.cell? ⟨W.heap.size, 0, none⟩ = some (.int .i64 xa) ∧ w'.cell? ⟨W.heap.size, 1, none⟩ = some (.string xt) ∧ w'.cell? ⟨W.heap.size + 1, 0, none⟩ = some (.int .i64 ya) ∧ w'.cell? ⟨W.heap.size + 1, 1, none⟩ = some (.string yt))
    (first
      | exact Mk.out _ (GrY.refl _).drew
      | exact Mk.out _ (GrY.alloc (And.left (by assumption)) _)
      | exact Mk.out _ (And.left (by assumption)))
    (first
      | (go_at_call 85
         refine (cmpI_calls _ _ _).mono ?_
         rintro e w4 ⟨rfl, rfl⟩)
      | (go_at_call 86
         refine (cmpSh_calls _ _ _).mono ?_
         rintro e w4 ⟨rfl, rfl⟩)
      | (go_at_call 84
         refine (orh_calls _ _ _ _ _ (cell_of_row _ _ 0 _ _ _ (heap_alloc_new _ _)) (cell_of_row _ _ 1 _ _ _ (heap_alloc_new _ _))).mono ?_
         rintro e w6 ⟨rfl, rfl⟩))
  go_wp2
  go_ret
  exact ⟨by rw [HV.out]; rfl, HG.out _ ((GrY.refl _).alloc _).drew⟩

theorem sortHad_calls (B : Nat) (w : World) (v : Value) (R : List Had) (hown : w.ownsRow B 95 2 v R.length (R.flatMap hadCells)) (hB : B ≤ w.heap.size) (hl : R.length ≤ 8000) :
    Calls Tryz.prog 82 #[v, .func (.func 83) #[] #[]] w (SortedR hadCells 2 95 hadCmp B R v w) := by
  have h2 := hown.2
  rcases h2 with ⟨hv, h0⟩ | ⟨g, cap, cur, hv, hg, hh, h1, h2, h3, -⟩
  · subst hv
    obtain rfl : R = [] := List.length_eq_zero_iff.1 h0
    have h := Go.Proofs.AnyF.slices_SortFunc_none Tryz.sortHad none 0 (.func (.func 83) #[] #[]) w
    change Calls Tryz.prog 82 _ _ _ at h
    refine h.mono ?_
    rintro e w' ⟨rfl, rfl⟩
    exact ⟨rfl, Below.refl _ _, ⟨rfl, rfl, rfl, Nat.le_refl _, fun _ _ _ => rfl⟩, [], List.Perm.refl _, List.Pairwise.nil, World.ownsRow_nil _ _ _ _⟩
  · subst hv
    have hsz : R.toArray.size = R.length := by simp
    have hlt := (Array.getElem?_eq_some_iff.1 hh).1
    have hH := recs_holds (c := hadCells) (sz := 2) (fun _ => rfl) (by decide) hown
    have eg : ∀ args w, (callFunc 83 args).run Tryz.prog w = .ok (.enter 83 args) w := Go.Proofs.enters_of Tryz.func83 (by kernel_rfl) rfl
    have h := Go.Proofs.AnyQ.slices_SortFunc Tryz.sortHad 2 Tryz.isAgg95 Tryz.sizeOf95 hadCells (fun _ => rfl) had_one hadCmp had_swo 83 #[] g 0 cap R.toArray w eg (fun _ _ _ _ x y => hadcmp_calls x y _) hH hlt (by rw [hsz]; omega)
    rw [hsz] at h
    change Calls Tryz.prog 82 _ _ _ at h
    refine h.mono ?_
    rintro e w' ⟨rfl, d', n, os, hp, hs, rfl⟩
    exact recs_sorted (c := hadCells) (sz := 2) (cmp := hadCmp) (d' := d') (n := n) (os := os) (fun _ => rfl) hB hg hh h3 h1 h2 hH hp hs
end Go.Proofs.YtngippiilgdnoaaGreat
