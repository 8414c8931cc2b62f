/-
  The plain law of division: usages in another order, one of them divided, those of other partners left out: the same sums, the same charges but for their numbers.
-/
import Derived.Test.YtohmdohbmmbbkaaDoorMgbp
namespace Go.Proofs.YtohmdohbmmbbkaaDoor
open Go.RowKit

/-- What the law makes of the usage at index i. -/
def splitB (at0 part : Int) (i : Nat) (u : Us) : Bool := ((i : Int) == at0) && decide (0 ≤ part) && decide (part ≤ u.un) && decide (u.un ≤ 1099511627776)
def withUn (u : Us) (n : Int) : Us := ⟨u.id, u.kd, u.ac, u.sb, u.a, u.b, u.st, n, u.tr, u.ib, u.so, u.se⟩
def elemO (pa at0 part : Int) (i : Nat) (u : Us) : List Us := if u.tr = pa then (if splitB at0 part i u = true then [withUn u (u.un - part), withUn u part] else [u]) else []
/-- What has been gathered from index k on. -/
def accO (pa at0 part : Int) (us : List Us) (k : Nat) : List Us := ((us.zipIdx.drop k).reverse).flatMap fun x => elemO pa at0 part x.2 x.1
theorem accO_end (pa at0 part : Int) (us : List Us) : accO pa at0 part us us.length = [] := by
  unfold accO
  rw [List.drop_of_length_le (by simp)]
  rfl
theorem accO_step (pa at0 part : Int) (us : List Us) (k : Nat) (h : k < us.length) : accO pa at0 part us k = accO pa at0 part us (k + 1) ++ elemO pa at0 part k us[k] := by
  unfold accO
  rw [List.drop_eq_getElem_cons (by simpa using h), List.reverse_cons, List.flatMap_append]
  simp
theorem elemO_len (pa at0 part : Int) (i : Nat) (u : Us) : (elemO pa at0 part i u).length ≤ if (i : Int) = at0 then 2 else 1 := by
  unfold elemO splitB
  split
  · split
    · rename_i h
      simp only [Bool.and_eq_true, beq_iff_eq] at h
      rw [if_pos h.1.1.1]
      exact Nat.le_refl _
    · split <;> simp
  · split <;> simp
theorem accO_len (pa at0 part : Int) (us : List Us) : ∀ d k, k + d = us.length → (accO pa at0 part us k).length ≤ d + (if (k : Int) ≤ at0 then 1 else 0)
  | 0, k, h => by rw [show k = us.length by omega, accO_end]; simp
  | d + 1, k, h => by
    have ih := accO_len pa at0 part us d (k + 1) (by omega)
    have he := elemO_len pa at0 part k (us[k]'(by omega))
    rw [accO_step pa at0 part us k (by omega), List.length_append]
    by_cases e : (k : Int) = at0
    · rw [if_pos e] at he
      rw [if_neg (by omega)] at ih
      rw [if_pos (by omega)]
      omega
    · rw [if_neg e] at he
      by_cases e2 : (k : Int) ≤ at0
      · rw [if_pos e2]
        rw [if_pos (by omega)] at ih
        omega
      · rw [if_neg e2]
        rw [if_neg (by omega)] at ih
        omega
theorem accO_le (pa at0 part : Int) (us : List Us) (k : Nat) (h : k ≤ us.length) : (accO pa at0 part us k).length ≤ us.length + 1 := by
  have := accO_len pa at0 part us (us.length - k) k (by omega)
  split at this <;> omega

/-! ### Sums -/
def hit1 (pa mf mt : Int) (a : Ag) (u : Us) : Int := if (mineU pa mf mt u && fitA pa u a) = true then 1 else 0
def hit2 (pa mf mt : Int) (a : Ag) (u : Us) : Int := if (mineU pa mf mt u && fitA pa u a) = true then unitsU u else 0
theorem cntU_sum (pa mf mt : Int) (us : List Us) (a : Ag) : cntU pa mf mt us a = ((us.map (hit1 pa mf mt a)).sum, (us.map (hit2 pa mf mt a)).sum) := by
  induction us using snocInd with
  | h0 => rfl
  | h1 us u ih =>
    rw [cntU_snoc, ih]
    unfold cntS hit1 hit2
    simp only [List.map_append, List.sum_append, List.map_cons, List.map_nil, List.sum_cons, List.sum_nil]
    split <;> simp
theorem hit1_nonneg (pa mf mt : Int) (a : Ag) (u : Us) : 0 ≤ hit1 pa mf mt a u := by unfold hit1; split <;> omega
theorem hit_un (pa mf mt : Int) (a : Ag) (u : Us) (n : Int) : (mineU pa mf mt (withUn u n) && fitA pa (withUn u n) a) = (mineU pa mf mt u && fitA pa u a) := rfl
theorem hit_other {pa mf mt : Int} {a : Ag} {u : Us} (h : ¬ u.tr = pa) : (mineU pa mf mt u && fitA pa u a) = false := by
  unfold mineU
  rw [decide_eq_false h]
  rfl
theorem elemO_sum2 (pa mf mt at0 part : Int) (a : Ag) (i : Nat) (u : Us) : ((elemO pa at0 part i u).map (hit2 pa mf mt a)).sum = hit2 pa mf mt a u := by
  unfold elemO
  by_cases h : u.tr = pa
  · rw [if_pos h]
    by_cases hs : splitB at0 part i u = true
    · rw [if_pos hs]
      unfold splitB at hs
      simp only [Bool.and_eq_true, decide_eq_true_eq] at hs
      obtain ⟨⟨⟨-, h1⟩, h2⟩, h3⟩ := hs
      simp only [List.map_cons, List.map_nil, List.sum_cons, List.sum_nil]
      unfold hit2
      rw [hit_un, hit_un]
      split
      · unfold unitsU withUn
        simp only
        rw [if_neg (by omega), if_neg (by omega), if_neg (by omega)]
        omega
      · rfl
    · rw [if_neg hs]
      simp
  · rw [if_neg h]
    unfold hit2
    rw [hit_other h]
    simp
theorem elemO_sum1 (pa mf mt at0 part : Int) (a : Ag) (i : Nat) (u : Us) : hit1 pa mf mt a u ≤ ((elemO pa at0 part i u).map (hit1 pa mf mt a)).sum ∧ ((elemO pa at0 part i u).map (hit1 pa mf mt a)).sum ≤ 2 * hit1 pa mf mt a u := by
  have h0 := hit1_nonneg pa mf mt a u
  unfold elemO
  by_cases h : u.tr = pa
  · rw [if_pos h]
    by_cases hs : splitB at0 part i u = true
    · rw [if_pos hs]
      have e1 : ∀ n, hit1 pa mf mt a (withUn u n) = hit1 pa mf mt a u := fun n => rfl
      simp only [List.map_cons, List.map_nil, List.sum_cons, List.sum_nil, e1]
      omega
    · rw [if_neg hs]
      simp only [List.map_cons, List.map_nil, List.sum_cons, List.sum_nil]
      omega
  · rw [if_neg h]
    unfold hit1
    rw [hit_other h]
    simp
theorem accO_sum2 (pa mf mt at0 part : Int) (a : Ag) (us : List Us) : ∀ d k, k + d = us.length → ((accO pa at0 part us k).map (hit2 pa mf mt a)).sum = ((us.drop k).map (hit2 pa mf mt a)).sum
  | 0, k, h => by rw [show k = us.length by omega, accO_end, List.drop_of_length_le (Nat.le_refl _)]
  | d + 1, k, h => by
    have ih := accO_sum2 pa mf mt at0 part a us d (k + 1) (by omega)
    rw [accO_step pa at0 part us k (by omega), List.map_append, List.sum_append, ih, elemO_sum2, List.drop_eq_getElem_cons (show k < us.length by omega), List.map_cons, List.sum_cons]
    omega
theorem accO_sum1 (pa mf mt at0 part : Int) (a : Ag) (us : List Us) : ∀ d k, k + d = us.length → ((us.drop k).map (hit1 pa mf mt a)).sum ≤ ((accO pa at0 part us k).map (hit1 pa mf mt a)).sum ∧ ((accO pa at0 part us k).map (hit1 pa mf mt a)).sum ≤ 2 * ((us.drop k).map (hit1 pa mf mt a)).sum
  | 0, k, h => by rw [show k = us.length by omega, accO_end, List.drop_of_length_le (Nat.le_refl _)]; simp
  | d + 1, k, h => by
    obtain ⟨i1, i2⟩ := accO_sum1 pa mf mt at0 part a us d (k + 1) (by omega)
    obtain ⟨j1, j2⟩ := elemO_sum1 pa mf mt at0 part a k (us[k]'(by omega))
    rw [accO_step pa at0 part us k (by omega), List.map_append, List.sum_append, List.drop_eq_getElem_cons (show k < us.length by omega), List.map_cons, List.sum_cons]
    omega
/-- Two ways of counting that give the same charges but for their numbers. -/
def SameF (F G : Ag → Int × Int) : Prop := ∀ a, (F a).2 = (G a).2 ∧ ((F a).1 = 0 ↔ (G a).1 = 0)
theorem accO_same (pa mf mt at0 part : Int) (us : List Us) : SameF (cntU pa mf mt us) (cntU pa mf mt (accO pa at0 part us 0)) := fun a => by
  have s2 := accO_sum2 pa mf mt at0 part a us us.length 0 (by omega)
  have s1 := accO_sum1 pa mf mt at0 part a us us.length 0 (by omega)
  rw [List.drop_zero] at s1 s2
  have hn := cntU_nonneg pa mf mt us a
  rw [cntU_sum] at hn ⊢
  rw [cntU_sum]
  simp only at hn ⊢
  exact ⟨s2.symm, by omega⟩
def noCn (c : Chg) : Int × Bool × Int × Int := (c.kd, c.ib, c.un, c.am)
theorem stL_same {F G : Ag → Int × Int} (h : SameF F G) : ∀ (l : List Ag) (cs ds : List Chg) (n : Int), cs.map noCn = ds.map noCn →
    (stL F l cs n).1 = (stL G l ds n).1 ∧ (stL F l cs n).2.1.map noCn = (stL G l ds n).2.1.map noCn ∧ (stL F l cs n).2.2 = (stL G l ds n).2.2
  | [], cs, ds, n, hc => ⟨rfl, hc, rfl⟩
  | a :: l, cs, ds, n, hc => by
    obtain ⟨h1, h2⟩ := h a
    rw [stL, stL]
    by_cases e : (F a).1 = 0
    · rw [if_pos e, if_pos (h2.1 e)]
      exact stL_same h l cs ds n hc
    · rw [if_neg e, if_neg (fun g => e (h2.2 g)), ← h1]
      split
      · exact ⟨rfl, rfl, rfl⟩
      · exact stL_same h l _ _ _ (by rw [List.map_append, List.map_append, hc]; rfl)
theorem stmL_same {r s : Int × List Chg × Int} (pa mf mt : Int) (h : r.1 = s.1 ∧ r.2.1.map noCn = s.2.1.map noCn ∧ r.2.2 = s.2.2) :
    (stmL pa mf mt r).1 = (stmL pa mf mt s).1 ∧ (stmL pa mf mt r).2.pa = (stmL pa mf mt s).2.pa ∧ (stmL pa mf mt r).2.mf = (stmL pa mf mt s).2.mf ∧ (stmL pa mf mt r).2.mt = (stmL pa mf mt s).2.mt ∧ (stmL pa mf mt r).2.net = (stmL pa mf mt s).2.net ∧ (stmL pa mf mt r).2.cs.map noCn = (stmL pa mf mt s).2.cs.map noCn := by
  obtain ⟨r1, r2, r3⟩ := r
  obtain ⟨s1, s2, s3⟩ := s
  dsimp only at h
  obtain ⟨rfl, h2, rfl⟩ := h
  unfold stmL
  simp only
  split
  · exact ⟨rfl, rfl, rfl, rfl, rfl, rfl⟩
  · split
    · exact ⟨rfl, rfl, rfl, rfl, rfl, h2⟩
    · exact ⟨rfl, rfl, rfl, rfl, rfl, rfl⟩
theorem stmE_same (l : List Ag) (us : List Us) (pa mf mt at0 part : Int) :
    (stmE l us pa mf mt).1 = (stmE l (accO pa at0 part us 0) pa mf mt).1 ∧ (stmE l us pa mf mt).2.pa = (stmE l (accO pa at0 part us 0) pa mf mt).2.pa ∧ (stmE l us pa mf mt).2.mf = (stmE l (accO pa at0 part us 0) pa mf mt).2.mf ∧ (stmE l us pa mf mt).2.mt = (stmE l (accO pa at0 part us 0) pa mf mt).2.mt ∧
    (stmE l us pa mf mt).2.net = (stmE l (accO pa at0 part us 0) pa mf mt).2.net ∧ (stmE l us pa mf mt).2.cs.map noCn = (stmE l (accO pa at0 part us 0) pa mf mt).2.cs.map noCn := by
  unfold stmE
  split
  · exact ⟨rfl, rfl, rfl, rfl, rfl, rfl⟩
  · split
    · exact ⟨rfl, rfl, rfl, rfl, rfl, rfl⟩
    · split
      · exact ⟨rfl, rfl, rfl, rfl, rfl, rfl⟩
      · split
        · exact ⟨rfl, rfl, rfl, rfl, rfl, rfl⟩
        · exact stmL_same pa mf mt (stL_same (accO_same pa mf mt at0 part us) _ _ _ _ rfl)
end Go.Proofs.YtohmdohbmmbbkaaDoor
