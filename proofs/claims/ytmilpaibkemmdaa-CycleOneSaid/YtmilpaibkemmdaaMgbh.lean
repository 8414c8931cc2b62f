/-
  The plain law: choose on two single periods gives what they have in common.
-/
import Derived.Test.YtmilpaibkemmdaaMgat
import Derived.Test.YtmilpaibkemmdaaMgad
namespace Go.Proofs.Ytmilpaibkemmdaa
open Go.RowKit

theorem add_done (n : Int) : ∀ (l O : List Int), l.foldl (addStep n) (O, true) = (O ++ l.filter (fun x => decide (x ≠ n)), true) := by
  intro l
  induction l with
  | nil => intro O; simp
  | cons x r ih =>
    intro O
    rw [List.foldl_cons]
    by_cases h : x = n
    · rw [show addStep n (O, true) x = (O, true) by unfold addStep; rw [if_neg (fun h => by cases h.1), if_pos h], ih, List.filter_cons, if_neg (by simp [h])]
    · rw [show addStep n (O, true) x = (O ++ [x], true) by unfold addStep; rw [if_neg (fun h => by cases h.1), if_neg h], ih, List.filter_cons, if_pos (by simpa using h)]
      simp
def addFin (n : Int) (s : List Int × Bool) : List Int := if s.2 = true then s.1 else s.1 ++ [n]
theorem add_from (n : Int) : ∀ (l O : List Int), addFin n (l.foldl (addStep n) (O, false)) = O ++ addFin n (l.foldl (addStep n) ([], false)) := by
  intro l
  induction l with
  | nil => intro O; simp [addFin]
  | cons x r ih =>
    intro O
    rw [List.foldl_cons, List.foldl_cons]
    by_cases h1 : n ≤ x
    · by_cases h2 : x = n
      · rw [show addStep n (O, false) x = (O ++ [n], true) by unfold addStep; rw [if_pos ⟨rfl, h1⟩, if_pos h2], show addStep n ([], false) x = ([] ++ [n], true) by unfold addStep; rw [if_pos ⟨rfl, h1⟩, if_pos h2], add_done, add_done]
        simp [addFin]
      · rw [show addStep n (O, false) x = (O ++ [n] ++ [x], true) by unfold addStep; rw [if_pos ⟨rfl, h1⟩, if_neg h2], show addStep n ([], false) x = ([] ++ [n] ++ [x], true) by unfold addStep; rw [if_pos ⟨rfl, h1⟩, if_neg h2], add_done, add_done]
        simp [addFin]
    · have h2 : x ≠ n := by omega
      rw [show addStep n (O, false) x = (O ++ [x], false) by unfold addStep; rw [if_neg (fun h => h1 h.2), if_neg h2], show addStep n ([], false) x = ([] ++ [x], false) by unfold addStep; rw [if_neg (fun h => h1 h.2), if_neg h2], ih, ih ([] ++ [x])]
      simp
theorem addL_fin (l : List Int) (n : Int) : addL l n = addFin n (l.foldl (addStep n) ([], false)) := rfl
theorem addL_nil (n : Int) : addL [] n = [n] := rfl
theorem addL_lt (x n : Int) (r : List Int) (h : n < x) : addL (x :: r) n = n :: x :: r.filter (fun y => decide (y ≠ n)) := by
  rw [addL_fin, List.foldl_cons, show addStep n ([], false) x = ([] ++ [n] ++ [x], true) by unfold addStep; rw [if_pos ⟨rfl, by omega⟩, if_neg (by omega)], add_done]
  simp [addFin]
theorem addL_same (n : Int) (r : List Int) : addL (n :: r) n = n :: r.filter (fun y => decide (y ≠ n)) := by
  rw [addL_fin, List.foldl_cons, show addStep n ([], false) n = ([] ++ [n], true) by unfold addStep; rw [if_pos ⟨rfl, Int.le_refl _⟩, if_pos rfl], add_done]
  simp [addFin]
theorem addL_gt (x n : Int) (r : List Int) (h : x < n) : addL (x :: r) n = x :: addL r n := by
  rw [addL_fin, List.foldl_cons, show addStep n ([], false) x = ([] ++ [x], false) by unfold addStep; rw [if_neg (fun h => by omega), if_neg (by omega)], add_from]
  rfl

theorem sel_pair (f t f2 t2 x : Int) : selB [(f, t)] [(f2, t2)] false true x = (containsB f t x && containsB f2 t2 x) := by
  unfold selB inL
  simp
theorem sel_yes {f t f2 t2 x : Int} (h1 : validB f t = true) (h2 : validB f2 t2 = true) (a : f ≤ x) (b : x < t) (c : f2 ≤ x) (d : x < t2) : selB [(f, t)] [(f2, t2)] false true x = true := by
  rw [sel_pair, (containsB_iff f t x).2 ⟨(validB_iff _ _).1 h1, a, b⟩, (containsB_iff f2 t2 x).2 ⟨(validB_iff _ _).1 h2, c, d⟩]; rfl
theorem sel_no {f t f2 t2 x : Int} (h : x < f ∨ t ≤ x ∨ x < f2 ∨ t2 ≤ x) : selB [(f, t)] [(f2, t2)] false true x = false := by
  rw [sel_pair]
  cases e : containsB f t x with
  | false => rfl
  | true =>
    cases e2 : containsB f2 t2 x with
    | false => rfl
    | true =>
      have h1 := ((containsB_iff _ _ _).1 e).2
      have h2 := ((containsB_iff _ _ _).1 e2).2
      omega
theorem chUpto_none (l : List Int) (sel : Int → Bool) (h : ∀ x, sel x = false) : ∀ k, chUpto l sel k = [] := by
  intro k
  induction k with
  | zero => rfl
  | succ k ih => rw [chUpto, h, if_neg (by decide), ih]

theorem lim_pair (f t f2 t2 : Int) (h1 : validB f t = true) (h2 : validB f2 t2 = true) (hft : f < t) : limitsL (limitsL [] [(f, t)]) [(f2, t2)] = addL (addL [f, t] f2) t2 := by
  have e1 : limitsL [] [(f, t)] = [f, t] := by
    show limStep [] (f, t) = _
    rw [limStep, if_pos h1, addL_nil, addL_gt _ _ _ hft, addL_nil]
  rw [e1]
  show limStep [f, t] (f2, t2) = _
  rw [limStep, if_pos h2]

theorem choose2 (l : List Int) (a b : Int) (sel : Int → Bool) (h : l = [a, b]) : chUpto l sel (l.length - 1) = if sel a = true then [(a, b)] else [] := by
  subst h; rfl
theorem choose3 (l : List Int) (a b c : Int) (sel : Int → Bool) (h : l = [a, b, c]) (hab : sel a = false ∨ sel b = false) : chUpto l sel (l.length - 1) = if sel a = true then [(a, b)] else if sel b = true then [(b, c)] else [] := by
  subst h
  show (if sel b = true then chStep (if sel a = true then chStep [] a b else []) b c else (if sel a = true then chStep [] a b else [])) = _
  rcases hab with h | h <;> simp [h, chStep_nil]
theorem choose4 (l : List Int) (a b c d : Int) (sel : Int → Bool) (h : l = [a, b, c, d]) (ha : sel a = false) (hc : sel c = false) : chUpto l sel (l.length - 1) = if sel b = true then [(b, c)] else [] := by
  subst h
  show (if sel c = true then chStep (if sel b = true then chStep (if sel a = true then chStep [] a b else []) b c else (if sel a = true then chStep [] a b else [])) c d else (if sel b = true then chStep (if sel a = true then chStep [] a b else []) b c else (if sel a = true then chStep [] a b else []))) = _
  simp [ha, hc, chStep_nil]

/-- What two periods have in common, by choose. -/
theorem common_pair (f t f2 t2 : Int) : chooseL [(f, t)] [(f2, t2)] false true = if meetB f t f2 t2 = true then [(max f f2, min t t2)] else [] := by
  by_cases h1 : validB f t = true
  · by_cases h2 : validB f2 t2 = true
    · have v1 := ((validB_iff _ _).1 h1).2.1
      have v2 := ((validB_iff _ _).1 h2).2.1
      unfold chooseL
      have hl := lim_pair f t f2 t2 h1 h2 v1
      generalize limitsL (limitsL [] [(f, t)]) [(f2, t2)] = l at *
      by_cases hm : max f f2 < min t t2
      · rw [if_pos ((meetB_iff _ _ _ _).2 ⟨h1, h2, hm⟩)]
        have hcase : (f2 = f ∧ f2 < t ∧ f < t2 ∧ t2 = t) ∨ (f2 = f ∧ f2 < t ∧ f < t2 ∧ t < t2) ∨ (f2 = f ∧ f2 < t ∧ f < t2 ∧ t2 < t) ∨ (f < f2 ∧ f2 < t ∧ f < t2 ∧ t2 = t) ∨ (f < f2 ∧ f2 < t ∧ f < t2 ∧ t < t2) ∨ (f < f2 ∧ f2 < t ∧ f < t2 ∧ t2 < t) ∨ (f2 < f ∧ f2 < t ∧ f < t2 ∧ t2 = t) ∨ (f2 < f ∧ f2 < t ∧ f < t2 ∧ t < t2) ∨ (f2 < f ∧ f2 < t ∧ f < t2 ∧ t2 < t) := by omega
        rcases hcase with ⟨c1, c2, c3, c4⟩ | ⟨c1, c2, c3, c4⟩ | ⟨c1, c2, c3, c4⟩ | ⟨c1, c2, c3, c4⟩ | ⟨c1, c2, c3, c4⟩ | ⟨c1, c2, c3, c4⟩ | ⟨c1, c2, c3, c4⟩ | ⟨c1, c2, c3, c4⟩ | ⟨c1, c2, c3, c4⟩
        · have e_f2 : f2 = f := by omega
          have e_t2 : t2 = t := by omega
          have hl2 : l = [f, t] := by
            rw [hl, e_f2, e_t2]
            rw [addL_same]
            rw [show ([t] : List Int).filter (fun y => decide (y ≠ f)) = [t] from List.filter_eq_self.2 (by intro z hz; simp only [List.mem_cons, List.not_mem_nil, or_false] at hz; simp only [decide_eq_true_eq]; omega)]
            rw [addL_gt f t _ (by omega)]
            rw [addL_same]
            rw [List.filter_nil]
          have s0 : selB [(f, t)] [(f2, t2)] false true f = true := sel_yes h1 h2 (by omega) (by omega) (by omega) (by omega)
          rw [choose2 l _ _ _ hl2, s0]
          rw [show max f f2 = f by omega, show min t t2 = t by omega]
          simp
        · have e_f2 : f2 = f := by omega
          have hl2 : l = [f, t, t2] := by
            rw [hl, e_f2]
            rw [addL_same]
            rw [show ([t] : List Int).filter (fun y => decide (y ≠ f)) = [t] from List.filter_eq_self.2 (by intro z hz; simp only [List.mem_cons, List.not_mem_nil, or_false] at hz; simp only [decide_eq_true_eq]; omega)]
            rw [addL_gt f t2 _ (by omega)]
            rw [addL_gt t t2 _ (by omega)]
            rw [addL_nil]
          have s0 : selB [(f, t)] [(f2, t2)] false true f = true := sel_yes h1 h2 (by omega) (by omega) (by omega) (by omega)
          have s1 : selB [(f, t)] [(f2, t2)] false true t = false := sel_no (by omega)
          rw [choose3 l _ _ _ _ hl2 (Or.inr s1), s0, s1]
          rw [show max f f2 = f by omega, show min t t2 = t by omega]
          simp
        · have e_f2 : f2 = f := by omega
          have hl2 : l = [f, t2, t] := by
            rw [hl, e_f2]
            rw [addL_same]
            rw [show ([t] : List Int).filter (fun y => decide (y ≠ f)) = [t] from List.filter_eq_self.2 (by intro z hz; simp only [List.mem_cons, List.not_mem_nil, or_false] at hz; simp only [decide_eq_true_eq]; omega)]
            rw [addL_gt f t2 _ (by omega)]
            rw [addL_lt t t2 _ (by omega)]
            rw [List.filter_nil]
          have s0 : selB [(f, t)] [(f2, t2)] false true f = true := sel_yes h1 h2 (by omega) (by omega) (by omega) (by omega)
          have s1 : selB [(f, t)] [(f2, t2)] false true t2 = false := sel_no (by omega)
          rw [choose3 l _ _ _ _ hl2 (Or.inr s1), s0, s1]
          rw [show max f f2 = f by omega, show min t t2 = t2 by omega]
          simp
        · have e_t2 : t2 = t := by omega
          have hl2 : l = [f, f2, t] := by
            rw [hl, e_t2]
            rw [addL_gt f f2 _ (by omega)]
            rw [addL_lt t f2 _ (by omega)]
            rw [List.filter_nil]
            rw [addL_gt f t _ (by omega)]
            rw [addL_gt f2 t _ (by omega)]
            rw [addL_same]
            rw [List.filter_nil]
          have s0 : selB [(f, t)] [(f2, t2)] false true f = false := sel_no (by omega)
          have s1 : selB [(f, t)] [(f2, t2)] false true f2 = true := sel_yes h1 h2 (by omega) (by omega) (by omega) (by omega)
          rw [choose3 l _ _ _ _ hl2 (Or.inl s0), s0, s1]
          rw [show max f f2 = f2 by omega, show min t t2 = t by omega]
          simp
        · have hl2 : l = [f, f2, t, t2] := by
            rw [hl]
            rw [addL_gt f f2 _ (by omega)]
            rw [addL_lt t f2 _ (by omega)]
            rw [List.filter_nil]
            rw [addL_gt f t2 _ (by omega)]
            rw [addL_gt f2 t2 _ (by omega)]
            rw [addL_gt t t2 _ (by omega)]
            rw [addL_nil]
          have s0 : selB [(f, t)] [(f2, t2)] false true f = false := sel_no (by omega)
          have s1 : selB [(f, t)] [(f2, t2)] false true f2 = true := sel_yes h1 h2 (by omega) (by omega) (by omega) (by omega)
          have s2 : selB [(f, t)] [(f2, t2)] false true t = false := sel_no (by omega)
          rw [choose4 l _ _ _ _ _ hl2 s0 s2, s1]
          rw [show max f f2 = f2 by omega, show min t t2 = t by omega]
          simp
        · have hl2 : l = [f, f2, t2, t] := by
            rw [hl]
            rw [addL_gt f f2 _ (by omega)]
            rw [addL_lt t f2 _ (by omega)]
            rw [List.filter_nil]
            rw [addL_gt f t2 _ (by omega)]
            rw [addL_gt f2 t2 _ (by omega)]
            rw [addL_lt t t2 _ (by omega)]
            rw [List.filter_nil]
          have s0 : selB [(f, t)] [(f2, t2)] false true f = false := sel_no (by omega)
          have s1 : selB [(f, t)] [(f2, t2)] false true f2 = true := sel_yes h1 h2 (by omega) (by omega) (by omega) (by omega)
          have s2 : selB [(f, t)] [(f2, t2)] false true t2 = false := sel_no (by omega)
          rw [choose4 l _ _ _ _ _ hl2 s0 s2, s1]
          rw [show max f f2 = f2 by omega, show min t t2 = t2 by omega]
          simp
        · have e_t2 : t2 = t := by omega
          have hl2 : l = [f2, f, t] := by
            rw [hl, e_t2]
            rw [addL_lt f f2 _ (by omega)]
            rw [show ([t] : List Int).filter (fun y => decide (y ≠ f2)) = [t] from List.filter_eq_self.2 (by intro z hz; simp only [List.mem_cons, List.not_mem_nil, or_false] at hz; simp only [decide_eq_true_eq]; omega)]
            rw [addL_gt f2 t _ (by omega)]
            rw [addL_gt f t _ (by omega)]
            rw [addL_same]
            rw [List.filter_nil]
          have s0 : selB [(f, t)] [(f2, t2)] false true f2 = false := sel_no (by omega)
          have s1 : selB [(f, t)] [(f2, t2)] false true f = true := sel_yes h1 h2 (by omega) (by omega) (by omega) (by omega)
          rw [choose3 l _ _ _ _ hl2 (Or.inl s0), s0, s1]
          rw [show max f f2 = f by omega, show min t t2 = t by omega]
          simp
        · have hl2 : l = [f2, f, t, t2] := by
            rw [hl]
            rw [addL_lt f f2 _ (by omega)]
            rw [show ([t] : List Int).filter (fun y => decide (y ≠ f2)) = [t] from List.filter_eq_self.2 (by intro z hz; simp only [List.mem_cons, List.not_mem_nil, or_false] at hz; simp only [decide_eq_true_eq]; omega)]
            rw [addL_gt f2 t2 _ (by omega)]
            rw [addL_gt f t2 _ (by omega)]
            rw [addL_gt t t2 _ (by omega)]
            rw [addL_nil]
          have s0 : selB [(f, t)] [(f2, t2)] false true f2 = false := sel_no (by omega)
          have s1 : selB [(f, t)] [(f2, t2)] false true f = true := sel_yes h1 h2 (by omega) (by omega) (by omega) (by omega)
          have s2 : selB [(f, t)] [(f2, t2)] false true t = false := sel_no (by omega)
          rw [choose4 l _ _ _ _ _ hl2 s0 s2, s1]
          rw [show max f f2 = f by omega, show min t t2 = t by omega]
          simp
        · have hl2 : l = [f2, f, t2, t] := by
            rw [hl]
            rw [addL_lt f f2 _ (by omega)]
            rw [show ([t] : List Int).filter (fun y => decide (y ≠ f2)) = [t] from List.filter_eq_self.2 (by intro z hz; simp only [List.mem_cons, List.not_mem_nil, or_false] at hz; simp only [decide_eq_true_eq]; omega)]
            rw [addL_gt f2 t2 _ (by omega)]
            rw [addL_gt f t2 _ (by omega)]
            rw [addL_lt t t2 _ (by omega)]
            rw [List.filter_nil]
          have s0 : selB [(f, t)] [(f2, t2)] false true f2 = false := sel_no (by omega)
          have s1 : selB [(f, t)] [(f2, t2)] false true f = true := sel_yes h1 h2 (by omega) (by omega) (by omega) (by omega)
          have s2 : selB [(f, t)] [(f2, t2)] false true t2 = false := sel_no (by omega)
          rw [choose4 l _ _ _ _ _ hl2 s0 s2, s1]
          rw [show max f f2 = f by omega, show min t t2 = t2 by omega]
          simp
      · rw [if_neg (fun h => hm ((meetB_iff _ _ _ _).1 h).2.2)]
        have hcase : (f < f2 ∧ f2 = t ∧ f < t2 ∧ t < t2) ∨ (f < f2 ∧ t < f2 ∧ f < t2 ∧ t < t2) ∨ (f2 < f ∧ f2 < t ∧ t2 = f ∧ t2 < t) ∨ (f2 < f ∧ f2 < t ∧ t2 < f ∧ t2 < t) := by omega
        rcases hcase with ⟨c1, c2, c3, c4⟩ | ⟨c1, c2, c3, c4⟩ | ⟨c1, c2, c3, c4⟩ | ⟨c1, c2, c3, c4⟩
        · have e_f2 : f2 = t := by omega
          have hl2 : l = [f, t, t2] := by
            rw [hl, e_f2]
            rw [addL_gt f t _ (by omega)]
            rw [addL_same]
            rw [List.filter_nil]
            rw [addL_gt f t2 _ (by omega)]
            rw [addL_gt t t2 _ (by omega)]
            rw [addL_nil]
          have s0 : selB [(f, t)] [(f2, t2)] false true f = false := sel_no (by omega)
          have s1 : selB [(f, t)] [(f2, t2)] false true t = false := sel_no (by omega)
          rw [choose3 l _ _ _ _ hl2 (Or.inl s0), s0, s1]
          simp
        · have hl2 : l = [f, t, f2, t2] := by
            rw [hl]
            rw [addL_gt f f2 _ (by omega)]
            rw [addL_gt t f2 _ (by omega)]
            rw [addL_nil]
            rw [addL_gt f t2 _ (by omega)]
            rw [addL_gt t t2 _ (by omega)]
            rw [addL_gt f2 t2 _ (by omega)]
            rw [addL_nil]
          have s0 : selB [(f, t)] [(f2, t2)] false true f = false := sel_no (by omega)
          have s1 : selB [(f, t)] [(f2, t2)] false true t = false := sel_no (by omega)
          have s2 : selB [(f, t)] [(f2, t2)] false true f2 = false := sel_no (by omega)
          rw [choose4 l _ _ _ _ _ hl2 s0 s2, s1]
          simp
        · have e_t2 : t2 = f := by omega
          have hl2 : l = [f2, f, t] := by
            rw [hl, e_t2]
            rw [addL_lt f f2 _ (by omega)]
            rw [show ([t] : List Int).filter (fun y => decide (y ≠ f2)) = [t] from List.filter_eq_self.2 (by intro z hz; simp only [List.mem_cons, List.not_mem_nil, or_false] at hz; simp only [decide_eq_true_eq]; omega)]
            rw [addL_gt f2 f _ (by omega)]
            rw [addL_same]
            rw [show ([t] : List Int).filter (fun y => decide (y ≠ f)) = [t] from List.filter_eq_self.2 (by intro z hz; simp only [List.mem_cons, List.not_mem_nil, or_false] at hz; simp only [decide_eq_true_eq]; omega)]
          have s0 : selB [(f, t)] [(f2, t2)] false true f2 = false := sel_no (by omega)
          have s1 : selB [(f, t)] [(f2, t2)] false true f = false := sel_no (by omega)
          rw [choose3 l _ _ _ _ hl2 (Or.inl s0), s0, s1]
          simp
        · have hl2 : l = [f2, t2, f, t] := by
            rw [hl]
            rw [addL_lt f f2 _ (by omega)]
            rw [show ([t] : List Int).filter (fun y => decide (y ≠ f2)) = [t] from List.filter_eq_self.2 (by intro z hz; simp only [List.mem_cons, List.not_mem_nil, or_false] at hz; simp only [decide_eq_true_eq]; omega)]
            rw [addL_gt f2 t2 _ (by omega)]
            rw [addL_lt f t2 _ (by omega)]
            rw [show ([t] : List Int).filter (fun y => decide (y ≠ t2)) = [t] from List.filter_eq_self.2 (by intro z hz; simp only [List.mem_cons, List.not_mem_nil, or_false] at hz; simp only [decide_eq_true_eq]; omega)]
          have s0 : selB [(f, t)] [(f2, t2)] false true f2 = false := sel_no (by omega)
          have s1 : selB [(f, t)] [(f2, t2)] false true t2 = false := sel_no (by omega)
          have s2 : selB [(f, t)] [(f2, t2)] false true f = false := sel_no (by omega)
          rw [choose4 l _ _ _ _ _ hl2 s0 s2, s1]
          simp
    · rw [if_neg (fun h => h2 ((meetB_iff _ _ _ _).1 h).2.1)]
      refine chUpto_none _ _ (fun x => ?_) _
      rw [sel_pair]
      cases e : containsB f2 t2 x with
      | false => simp
      | true => exact absurd ((validB_iff _ _).2 ((containsB_iff _ _ _).1 e).1) h2
  · rw [if_neg (fun h => h1 ((meetB_iff _ _ _ _).1 h).1)]
    refine chUpto_none _ _ (fun x => ?_) _
    rw [sel_pair]
    cases e : containsB f t x with
    | false => simp
    | true => exact absurd ((validB_iff _ _).2 ((containsB_iff _ _ _).1 e).1) h1
end Go.Proofs.Ytmilpaibkemmdaa
