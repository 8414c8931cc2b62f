/-
  The walks of digits.Compare and of the reference's Compare.
-/
import Derived.Test.YtcfmndhjmlbcoaaZoneK
import Derived.Shelf.SlSorted.Search
import Derived.Laws.StructEq
import Derived.Sort.Grow
import Derived.Deep.RegionHeld3
namespace Go.Proofs.Ytcfmndhjmlbcoaa
open Go.RowKit Go.Sort

instance decLtT (a b : ByteArray) : Decidable (ltT a b) := inferInstanceAs (Decidable (bytesT a < bytesT b))
/-- Texts compared. -/
def cmpT (a b : ByteArray) : Int := if ltT a b then -1 else if ltT b a then 1 else 0
/-- Numbers compared. -/
def cmpD (a b : ByteArray) : Int := if a.size < b.size then -1 else if b.size < a.size then 1 else cmpT a b

theorem less_ltT (a b : ByteArray) : Op.bytesLess a.toList b.toList = decide (ltT a b) := by
  rw [bytesLess_eq, Lib.toList_data, Lib.toList_data]
  exact decide_eq_decide.2 Iff.rfl
theorem cmpT_self (a : ByteArray) : cmpT a a = 0 := by unfold cmpT; rw [if_neg (ltT_irr a), if_neg (ltT_irr a)]
theorem cmpD_self (a : ByteArray) : cmpD a a = 0 := by unfold cmpD; rw [if_neg (by omega), if_neg (by omega), cmpT_self]
theorem cmpT_neg (a b : ByteArray) : cmpT a b < 0 ↔ ltT a b := by
  unfold cmpT
  by_cases h : ltT a b
  · simp [h]
  · by_cases g : ltT b a <;> simp [h, g]
theorem cmpD_neg (a b : ByteArray) : cmpD a b < 0 ↔ ltD a b := by
  unfold cmpD ltD
  by_cases h : a.size < b.size
  · simp [h]
  · by_cases g : b.size < a.size
    · rw [if_neg h, if_pos g]
      constructor
      · intro e; omega
      · rintro (e | ⟨e, -⟩) <;> omega
    · rw [if_neg h, if_neg g, cmpT_neg]
      constructor
      · intro e; exact Or.inr ⟨by omega, e⟩
      · rintro (e | ⟨-, e⟩)
        · exact absurd e h
        · exact e
theorem cmpD_pos (a b : ByteArray) : 0 < cmpD a b ↔ ltD b a := by
  unfold cmpD ltD
  by_cases h : a.size < b.size
  · rw [if_pos h]
    constructor
    · intro e; omega
    · rintro (e | ⟨e, -⟩) <;> omega
  · by_cases g : b.size < a.size
    · simp [h, g]
    · rw [if_neg h, if_neg g]
      unfold cmpT
      by_cases k : ltT a b
      · rw [if_pos k]
        constructor
        · intro e; omega
        · rintro (e | ⟨-, e⟩)
          · exact absurd e g
          · exact absurd k (ltT_asymm e)
      · rw [if_neg k]
        by_cases m : ltT b a
        · simp [m]; exact Or.inr (by omega)
        · simp [m]; omega

theorem nanS_calls (a : ByteArray) (w : World) : Calls Try.prog 138 #[.string a] w fun e w' => e = .returned (.bool false) ∧ w = w' := by
  have H := Lib.hid (show (!(a.toList == a.toList)) = false by simp)
  go_enter Try.func138, Try.ntmps138
  go_wp2
  go_ret
  exact ⟨ret_bool (by simp), rfl⟩
theorem nanI_calls (a : Int) (w : World) : Calls Try.prog 137 #[.int .i64 a] w fun e w' => e = .returned (.bool false) ∧ w = w' := by
  go_enter Try.func137, Try.ntmps137
  go_wp2
  go_ret
  exact ⟨ret_bool (by simp), rfl⟩

set_option maxHeartbeats 1600000 in
theorem cmpS_calls (a b : ByteArray) (w : World) : Calls Try.prog 103 #[.string a, .string b] w fun e w' => e = .returned (.int .i64 (cmpT a b)) ∧ w = w' := by
  have Ha := Lib.hid (nanS_calls a w)
  have Hb := Lib.hid (nanS_calls b w)
  have HR := Lib.hid (show cmpT a b = if ltT a b then -1 else if ltT b a then 1 else 0 from rfl)
  have hless := less_ltT a b
  by_cases h1 : ltT a b
  · rw [decide_eq_true h1] at hless
    have HE := Lib.hid (HR.out.trans (if_pos h1))
    clear h1
    go_enter Try.func103, Try.ntmps103
    go_wp2_with fail
    refine Ha.out.mono ?_
    rintro e w1 ⟨rfl, rfl⟩
    go_wp2_with fail
    refine Hb.out.mono ?_
    rintro e w1 ⟨rfl, rfl⟩
    go_wp2
    go_ret
    exact ⟨by rw [HE.out]; rfl, rfl⟩
  · rw [decide_eq_false h1] at hless
    have HE := Lib.hid (HR.out.trans (if_neg h1))
    by_cases h2 : ltT b a
    · have hne : (a.toList == b.toList) = false := by
        cases h : (a.toList == b.toList) with
        | false => rfl
        | true => exact absurd h2 ((sameS_iff _ _).1 h ▸ ltT_irr _)
      have HE := Lib.hid (HE.out.trans (if_pos h2))
      clear h1 h2
      go_enter Try.func103, Try.ntmps103
      go_wp2_with fail
      refine Ha.out.mono ?_
      rintro e w1 ⟨rfl, rfl⟩
      go_wp2_with fail
      refine Hb.out.mono ?_
      rintro e w1 ⟨rfl, rfl⟩
      go_wp2
      go_ret
      exact ⟨by rw [HE.out]; rfl, rfl⟩
    · have heq : (a.toList == b.toList) = true := (sameS_iff _ _).2 (ltT_tri h1 h2)
      have HE := Lib.hid (HE.out.trans (if_neg h2))
      clear h1 h2
      go_enter Try.func103, Try.ntmps103
      go_wp2_with fail
      refine Ha.out.mono ?_
      rintro e w1 ⟨rfl, rfl⟩
      go_wp2_with fail
      refine Hb.out.mono ?_
      rintro e w1 ⟨rfl, rfl⟩
      go_wp2
      go_ret
      exact ⟨by rw [HE.out]; rfl, rfl⟩

/-- Integers compared. -/
def cmpI (x y : Int) : Int := if x < y then -1 else if y < x then 1 else 0
theorem cmpI_calls (x y : Int) (w : World) : Calls Try.prog 102 #[.int .i64 x, .int .i64 y] w fun e w' => e = .returned (.int .i64 (cmpI x y)) ∧ w = w' := by
  have Ha := Lib.hid (nanI_calls x w)
  have Hb := Lib.hid (nanI_calls y w)
  by_cases h1 : x < y
  · have HE := Lib.hid (show cmpI x y = -1 from if_pos h1)
    rw [HE.out]
    go_enter Try.func102, Try.ntmps102
    go_wp2_with fail
    refine Ha.out.mono ?_
    rintro e w1 ⟨rfl, rfl⟩
    go_wp2_with fail
    refine Hb.out.mono ?_
    rintro e w1 ⟨rfl, rfl⟩
    go_wp2
    go_ret
    exact ⟨rfl, rfl⟩
  · by_cases h2 : y < x
    · have HE := Lib.hid (show cmpI x y = 1 by unfold cmpI; rw [if_neg h1, if_pos h2])
      rw [HE.out]
      go_enter Try.func102, Try.ntmps102
      go_wp2_with fail
      refine Ha.out.mono ?_
      rintro e w1 ⟨rfl, rfl⟩
      go_wp2_with fail
      refine Hb.out.mono ?_
      rintro e w1 ⟨rfl, rfl⟩
      go_wp2
      go_ret
      exact ⟨rfl, rfl⟩
    · have HE := Lib.hid (show cmpI x y = 0 by unfold cmpI; rw [if_neg h1, if_neg h2])
      rw [HE.out]
      go_enter Try.func102, Try.ntmps102
      go_wp2_with fail
      refine Ha.out.mono ?_
      rintro e w1 ⟨rfl, rfl⟩
      go_wp2_with fail
      refine Hb.out.mono ?_
      rintro e w1 ⟨rfl, rfl⟩
      go_wp2
      go_ret
      exact ⟨rfl, rfl⟩

set_option maxHeartbeats 1600000 in
theorem rcompare_calls (a b : ByteArray) (w : World) : Calls Try.prog 106 #[.string a, .string b] w fun e w' => e = .returned (.int .i64 (cmpD a b)) ∧ w = w' := by
  have HR := Lib.hid (show cmpD a b = if a.size < b.size then -1 else if b.size < a.size then 1 else if ltT a b then -1 else if ltT b a then 1 else 0 from rfl)
  by_cases s1 : a.size < b.size
  · have s1' : (a.size : Int) < (b.size : Int) := by omega
    have HE := Lib.hid (HR.out.trans (if_pos s1))
    go_enter Try.func106, Try.ntmps106
    go_wp2
    go_ret
    exact ⟨by rw [HE.out]; rfl, rfl⟩
  · have s1' : ¬ (a.size : Int) < (b.size : Int) := by omega
    have HE := Lib.hid (HR.out.trans (if_neg s1))
    by_cases s2 : b.size < a.size
    · have s2' : (b.size : Int) < (a.size : Int) := by omega
      have HE := Lib.hid (HE.out.trans (if_pos s2))
      go_enter Try.func106, Try.ntmps106
      go_wp2
      go_ret
      exact ⟨by rw [HE.out]; rfl, rfl⟩
    · have s2' : ¬ (b.size : Int) < (a.size : Int) := by omega
      have HE := Lib.hid (HE.out.trans (if_neg s2))
      have hless := less_ltT a b
      by_cases h1 : ltT a b
      · rw [decide_eq_true h1] at hless
        have HE := Lib.hid (HE.out.trans (if_pos h1))
        clear h1
        go_enter Try.func106, Try.ntmps106
        go_wp2
        go_ret
        exact ⟨by rw [HE.out]; rfl, rfl⟩
      · rw [decide_eq_false h1] at hless
        have HE := Lib.hid (HE.out.trans (if_neg h1))
        by_cases h2 : ltT b a
        · have hne : (a.toList == b.toList) = false := by
            cases h : (a.toList == b.toList) with
            | false => rfl
            | true => exact absurd h2 ((sameS_iff _ _).1 h ▸ ltT_irr _)
          have HE := Lib.hid (HE.out.trans (if_pos h2))
          clear h1 h2
          go_enter Try.func106, Try.ntmps106
          go_wp2
          go_ret
          exact ⟨by rw [HE.out]; rfl, rfl⟩
        · have heq : (a.toList == b.toList) = true := (sameS_iff _ _).2 (ltT_tri h1 h2)
          have HE := Lib.hid (HE.out.trans (if_neg h2))
          clear h1 h2
          go_enter Try.func106, Try.ntmps106
          go_wp2
          go_ret
          exact ⟨by rw [HE.out]; rfl, rfl⟩

/-- The first of two numbers that is not nothing. -/
def orV (x y : Int) : Int := if x ≠ 0 then x else y
theorem or_calls (b cap : Nat) (x y : Int) (w : World) (h0 : w.cell? ⟨b, 0, none⟩ = some (.int .i64 x)) (h1 : w.cell? ⟨b, 1, none⟩ = some (.int .i64 y)) :
    Calls Try.prog 101 #[.slice (some ⟨b, 0, none⟩) 2 cap] w fun e w' => e = .returned (.int .i64 (orV x y)) ∧ w = w' := by
  have HV := Lib.hid (show orV x y = if x ≠ 0 then x else y from rfl)
  go_enter Try.func101, Try.ntmps101
  go_wp2_with fail
  go_loop [5, 8] (fun _ i => ∃ k : Nat, k ≤ 2 ∧ i = .int .i64 k ∧ (0 < k → x = 0) ∧ (1 < k → y = 0)) (fun _ i => 2 - (intOf i).toNat)
  case atStart => exact ⟨0, by omega, rfl, fun h => absurd h (by omega), fun h => absurd h (by omega)⟩
  case round =>
    obtain ⟨k, hk, rfl, hx, hy⟩ := hrel
    match k, hk with
    | 0, _ =>
      by_cases hz : x = 0
      · have hzb : (x != 0) = false := bne_eq_false_iff_eq.2 hz
        go_wp2
        exact ⟨⟨1, by omega, rfl, fun _ => hz, fun h => absurd h (by omega)⟩, by simp [intOf]⟩
      · have hzb : (x != 0) = true := bne_iff_ne.2 hz
        have HE := Lib.hid (HV.out.trans (if_pos hz))
        go_wp2
        go_ret
        exact ⟨by rw [HE.out]; rfl, rfl⟩
    | 1, _ =>
      have hx0 := hx (by omega)
      have HE := Lib.hid (HV.out.trans (if_neg (not_not_intro hx0)))
      have Hx0 := Lib.hid hx0
      clear hx hx0
      by_cases hz : y = 0
      · have hzb : (y != 0) = false := bne_eq_false_iff_eq.2 hz
        go_wp2
        exact ⟨⟨2, by omega, rfl, fun _ => Hx0.out, fun _ => hz⟩, by simp [intOf]⟩
      · have hzb : (y != 0) = true := bne_iff_ne.2 hz
        go_wp2
        go_ret
        exact ⟨by rw [HE.out]; rfl, rfl⟩
    | 2, _ =>
      have hx0 := hx (by omega)
      have hy0 := hy (by omega)
      have HE := Lib.hid (show orV x y = 0 by rw [HV.out, if_neg (not_not_intro hx0), hy0])
      clear hx hy hx0 hy0
      go_wp2
      go_ret
      exact ⟨by rw [HE.out]; rfl, rfl⟩

theorem orV_cmp (a b : ByteArray) : orV (cmpI a.size b.size) (cmpT a b) = cmpD a b := by
  unfold orV cmpD cmpI
  by_cases h1 : a.size < b.size
  · have : (a.size : Int) < (b.size : Int) := by omega
    simp [h1, this]
  · have h1' : ¬ (a.size : Int) < (b.size : Int) := by omega
    by_cases h2 : b.size < a.size
    · have : (b.size : Int) < (a.size : Int) := by omega
      simp [h1, h1', h2, this]
    · have h2' : ¬ (b.size : Int) < (a.size : Int) := by omega
      simp [h1, h1', h2, h2']

theorem key_eql (a b : ByteArray) (w : World) : (binOp .eql 116 (.agg #[.int .i64 a.size, .string a]) (.agg #[.int .i64 b.size, .string b])).run Try.prog w = .ok (.bool (decide ((a.size : Int) = (b.size : Int)) && sameS a b)) w := by
  have u3 := Try.underlying3
  have a3 := Try.isAgg3
  have z3 := Try.sizeOf3
  have u9 := Try.underlying9
  have a9 := Try.isAgg9
  have z9 := Try.sizeOf9
  have hS : Try.prog.underlying 116 = some (.struct (Try.prog.fieldsOf 116)) := by kernel_rfl
  have hp : Try.prog.stoodInHeld 116 = false := by kernel_rfl
  rw [run_eql_struct, show (10000 : Nat) = 9999 + 1 from rfl, run_equalIn_agg w 9999 116 _ _ hS hp]
  simp only [Program.fieldsOf, Try.underlying116]
  go_simp
  by_cases h1 : (a.size : Int) = (b.size : Int) <;> cases h2 : sameS a b <;> simp [h1, h2, sameS] at * <;> simp [h2]

theorem grew_of {w w' : World} (h : Below w.heap.size w w') (hd : w.drawn ≤ w'.drawn) : ∃ q os', w' = Go.Sort.grow (w.drewN q) os' := by
  obtain ⟨h1, h2, h3, h4, h5⟩ := h
  refine ⟨w'.drawn - w.drawn, w'.heap.extract w.heap.size w'.heap.size, ?_⟩
  obtain ⟨hp, tp, dr, os, out⟩ := w
  obtain ⟨hp', tp', dr', os', out'⟩ := w'
  simp only at h1 h2 h3 h4 h5 hd
  subst h1 h2 h3
  simp only [Go.Sort.grow, World.drewN, World.mk.injEq, true_and, and_true]
  refine ⟨?_, by omega⟩
  apply Array.ext_getElem?
  intro i
  by_cases hi : i < hp.size
  · rw [h5 i hi, Array.getElem?_append_left hi]
  · rw [Array.getElem?_append_right (by omega), Array.getElem?_extract]
    split
    · congr 1; omega
    · exact Array.getElem?_eq_none (by omega)
end Go.Proofs.Ytcfmndhjmlbcoaa
