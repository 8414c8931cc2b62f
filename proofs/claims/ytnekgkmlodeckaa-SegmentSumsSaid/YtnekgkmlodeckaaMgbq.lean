/-
  The plain law of a usage's price.
-/
import Derived.Test.YtnekgkmlodeckaaMgbl
import Derived.Test.YtnekgkmlodeckaaMgbd
namespace Go.Proofs.Ytnekgkmlodeckaa
open Go.RowKit

/-- The first error, the amounts and their sum (at most one more than the greatest amount), behind units and a sum. -/
def prF (rs : List Rt) (kd : Int) (z : ByteArray) : List Sg → Int → Int → Int × List Int × Int
  | [], _, s => (0, [], s)
  | g :: r, b, s =>
    match rateF kd z g.1 rs with
    | none => (18, [], s)
    | some x =>
      if (betweenL x.2.2.2.2 b g.2.2.1).2 ≠ 0 then ((betweenL x.2.2.2.2 b g.2.2.1).2, [], s)
      else ((prF rs kd z r (b + g.2.2.1) (min (s + (betweenL x.2.2.2.2 b g.2.2.1).1) 1125899906842625)).1, (betweenL x.2.2.2.2 b g.2.2.1).1 :: (prF rs kd z r (b + g.2.2.1) (min (s + (betweenL x.2.2.2.2 b g.2.2.1).1) 1125899906842625)).2.1, (prF rs kd z r (b + g.2.2.1) (min (s + (betweenL x.2.2.2.2 b g.2.2.1).1) 1125899906842625)).2.2)
def setupF (rs : List Rt) (kd : Int) (z : ByteArray) (L : List Sg) : Int :=
  match L with
  | [] => 0
  | g :: _ => ((rateF kd z g.1 rs).getD zeroRt).2.2.2.1
def withA (L : List Sg) (am : List Int) : List Sg := List.zipWith (fun g a => (g.1, g.2.1, g.2.2.1, a)) L am
/-- The priced segments, the setup, the error. -/
def priceS (rs : List Rt) (kd : Int) (z : ByteArray) (L : List Sg) : List Sg × Int × Int :=
  if (prF rs kd z L 0 0).1 ≠ 0 then ([], 0, (prF rs kd z L 0 0).1)
  else if setupF rs kd z L < 0 ∨ 1125899906842624 < setupF rs kd z L ∨ 1125899906842624 < setupF rs kd z L + (prF rs kd z L 0 0).2.2 then ([], 0, 6)
  else (withA L (prF rs kd z L 0 0).2.1, setupF rs kd z L, 0)

theorem betweenL_bd {l : List St} {f n : Int} (h : (betweenL l f n).2 = 0) : 0 ≤ (betweenL l f n).1 ∧ (betweenL l f n).1 ≤ 1125899906842624 := by
  unfold betweenL at h ⊢
  by_cases h1 : errL l ≠ 0
  · rw [if_pos h1] at h; exact absurd h (by decide)
  rw [if_neg h1] at h ⊢
  by_cases h2 : f < 0 ∨ n < 0 ∨ 1099511627776 < f ∨ 1099511627776 - f < n
  · rw [if_pos h2] at h; exact absurd h (by decide)
  rw [if_neg h2] at h ⊢
  by_cases h3 : 1125899906842624 < tot l (f + n)
  · rw [if_pos h3] at h; exact absurd h (by decide)
  rw [if_neg h3] at h ⊢
  have e := Decidable.not_not.1 h1
  have m1 := tot_mono e (n := f) (m := f + n) (by omega)
  have m2 := tot_nonneg e f
  show 0 ≤ tot l (f + n) - tot l f ∧ tot l (f + n) - tot l f ≤ _
  omega

/-- Where pricing stands behind i segments. -/
def PrSt (rs : List Rt) (kd : Int) (z : ByteArray) (L : List Sg) (i : Nat) (am : List Int) (b s : Int) : Prop :=
  am.length = i ∧ prF rs kd z L 0 0 = ((prF rs kd z (L.drop i) b s).1, am ++ (prF rs kd z (L.drop i) b s).2.1, (prF rs kd z (L.drop i) b s).2.2)
theorem prSt_zero (rs : List Rt) (kd : Int) (z : ByteArray) (L : List Sg) : PrSt rs kd z L 0 [] 0 0 := ⟨rfl, rfl⟩
theorem prSt_none {rs : List Rt} {kd : Int} {z : ByteArray} {L : List Sg} {i : Nat} {am : List Int} {b s : Int} (h : PrSt rs kd z L i am b s) (hi : i < L.length) (hr : rateF kd z L[i].1 rs = none) : (prF rs kd z L 0 0).1 = 18 := by
  rw [h.2, List.drop_eq_getElem_cons hi, prF, hr]
theorem prSt_err {rs : List Rt} {kd : Int} {z : ByteArray} {L : List Sg} {i : Nat} {am : List Int} {b s : Int} (h : PrSt rs kd z L i am b s) (hi : i < L.length) {x : Rt} (hr : rateF kd z L[i].1 rs = some x) (he : (betweenL x.2.2.2.2 b L[i].2.2.1).2 ≠ 0) : (prF rs kd z L 0 0).1 = (betweenL x.2.2.2.2 b L[i].2.2.1).2 := by
  rw [h.2, List.drop_eq_getElem_cons hi, prF, hr]
  simp only
  rw [if_pos he]
theorem prSt_step {rs : List Rt} {kd : Int} {z : ByteArray} {L : List Sg} {i : Nat} {am : List Int} {b s : Int} (h : PrSt rs kd z L i am b s) (hi : i < L.length) {x : Rt} (hr : rateF kd z L[i].1 rs = some x) (he : (betweenL x.2.2.2.2 b L[i].2.2.1).2 = 0) :
    PrSt rs kd z L (i + 1) (am ++ [(betweenL x.2.2.2.2 b L[i].2.2.1).1]) (b + L[i].2.2.1) (min (s + (betweenL x.2.2.2.2 b L[i].2.2.1).1) 1125899906842625) := by
  obtain ⟨h1, h2⟩ := h
  refine ⟨by simp [h1], ?_⟩
  rw [h2, List.drop_eq_getElem_cons hi, prF, hr]
  simp only
  rw [if_neg (not_not_intro he), List.append_assoc]
  rfl
theorem prSt_end {rs : List Rt} {kd : Int} {z : ByteArray} {L : List Sg} {i : Nat} {am : List Int} {b s : Int} (h : PrSt rs kd z L i am b s) (hi : L.length ≤ i) : prF rs kd z L 0 0 = (0, am, s) := by
  rw [h.2, List.drop_eq_nil_of_le hi, prF, List.append_nil]
/-- The list while it is priced. -/
def midA (L : List Sg) (i : Nat) (am : List Int) : List Sg := withA (L.take i) am ++ L.drop i
theorem midA_length {L : List Sg} {i : Nat} {am : List Int} (h : am.length = i) (hi : i ≤ L.length) : (midA L i am).length = L.length := by
  unfold midA withA
  rw [List.length_append, List.length_zipWith, List.length_take, List.length_drop]
  omega
theorem midA_zero (L : List Sg) : midA L 0 [] = L := by simp [midA, withA]
theorem midA_end {L : List Sg} {i : Nat} {am : List Int} (hi : L.length ≤ i) : midA L i am = withA L am := by
  unfold midA
  rw [List.take_of_length_le hi, List.drop_eq_nil_of_le hi, List.append_nil]
theorem midA_set {L : List Sg} {i : Nat} {am : List Int} (h : am.length = i) (hi : i < L.length) (a : Int) : ((midA L i am).flatMap sgCells).set (i * 4 + 3) (.int .i64 a) = (midA L (i + 1) (am ++ [a])).flatMap sgCells := by
  have hl : (withA (L.take i) am).length = i := by unfold withA; rw [List.length_zipWith, List.length_take]; omega
  have e1 : midA L i am = withA (L.take i) am ++ (L[i] :: L.drop (i + 1)) := by unfold midA; rw [List.drop_eq_getElem_cons hi]
  have e2 : midA L (i + 1) (am ++ [a]) = withA (L.take i) am ++ ((L[i].1, L[i].2.1, L[i].2.2.1, a) :: L.drop (i + 1)) := by
    unfold midA withA
    rw [List.take_succ_eq_append_getElem hi, List.zipWith_append (by rw [List.length_take]; omega), List.append_assoc]
    rfl
  rw [e1, e2, List.flatMap_append, List.flatMap_append, List.set_append_right _ _ (by rw [flat_length sgCells 4 (fun _ => rfl)]; omega), flat_length sgCells 4 (fun _ => rfl), hl, Nat.add_sub_cancel_left]
  rfl
theorem midA_get {L : List Sg} {i : Nat} {am : List Int} (h : am.length = i) (hi : i < L.length) (hl : i < (midA L i am).length) : (midA L i am)[i] = L[i] := by
  have hw : (withA (L.take i) am).length = i := by unfold withA; rw [List.length_zipWith, List.length_take]; omega
  have e : (midA L i am)[i]? = some L[i] := by
    unfold midA
    rw [List.getElem?_append_right (by omega), hw, Nat.sub_self, List.getElem?_drop, Nat.add_zero]
    exact List.getElem?_eq_getElem hi
  rw [List.getElem?_eq_getElem hl] at e
  exact Option.some.inj e
theorem segR_bounds {bs : List Bn} {hol : List Int} {sl : Bool} {u : Us} {free : Int} {L : List Sg} (h : SegR bs hol sl u free L) : L.length ≤ 2678400 ∧ ∀ g ∈ L, 0 ≤ g.2.2.1 ∧ g.2.2.1 ≤ 1099511627776 := by
  unfold SegR at h
  split at h
  · rename_i h1
    have hb := proper_bounds h1.1
    split at h
    · obtain ⟨P, hP, rfl⟩ := h
      obtain ⟨p1, p2⟩ := cutR_bounds hP
      refine ⟨by rw [List.length_map]; exact p1, fun g hg => ?_⟩
      obtain ⟨p, hp, rfl⟩ := List.mem_map.1 hg
      obtain ⟨i, hi, rfl⟩ := List.mem_iff_getElem.1 hp
      have := p2 i hi
      show 0 ≤ P[i].2.2 - P[i].2.1 ∧ P[i].2.2 - P[i].2.1 ≤ _
      omega
    · rw [h]
      refine ⟨by simp, fun g hg => ?_⟩
      simp only [List.mem_singleton] at hg
      rw [hg]
      show 0 ≤ u.un - free ∧ u.un - free ≤ _
      omega
  · rw [h]
    exact ⟨by simp, fun g hg => by cases hg⟩
end Go.Proofs.Ytnekgkmlodeckaa
