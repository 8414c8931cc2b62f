/-
  The plain laws of prorated fees.
-/
import Derived.Test.YtimclpgkdplnhaaProrate
namespace Go.Proofs.Ytimclpgkdplnhaa
open Go.RowKit

theorem scR_nonneg (a n d : Int) (hn : 0 ≤ n) (hd : 1 ≤ d) : 0 ≤ scR a n d := by
  have h1 : 0 ≤ absI a * n / d := Int.ediv_nonneg (Int.mul_nonneg (absI_nonneg a) hn) (by omega)
  unfold scR; split <;> omega
/-- More days never cost less. -/
theorem scR_mono (a n m d : Int) (hnm : n ≤ m) (hd : 1 ≤ d) : scR a n d ≤ scR a m d := by
  have h1 := Int.mul_le_mul_of_nonneg_left hnm (absI_nonneg a)
  have h2 : absI a * n / d ≤ absI a * m / d := Int.ediv_le_ediv (by omega) h1
  have e1 := Int.mul_ediv_add_emod (absI a * n) d
  have e2 := Int.mul_ediv_add_emod (absI a * m) d
  have r1 := Int.emod_nonneg (absI a * n) (show d ≠ 0 by omega)
  have r2 := Int.emod_nonneg (absI a * m) (show d ≠ 0 by omega)
  unfold scR
  by_cases hq : absI a * n / d = absI a * m / d
  · rw [hq] at e1 ⊢
    split <;> split <;> omega
  · split <;> split <;> omega
/-- The whole costs the whole. -/
theorem scR_all (a d : Int) (hd : 1 ≤ d) : scR a d d = absI a := by
  unfold scR
  rw [Int.mul_ediv_cancel _ (by omega), Int.mul_emod_left, if_neg (by omega)]
theorem scR_le (a n d : Int) (hnd : n ≤ d) (hd : 1 ≤ d) : scR a n d ≤ absI a := by
  have := scR_mono a n d d hnd hd
  rwa [scR_all a d hd] at this
/-- Two parts cost the whole, or one more. -/
theorem scR_parts (a n m d : Int) (hd : 1 ≤ d) (h : n + m = d) : scR a n d + scR a m d = absI a ∨ scR a n d + scR a m d = absI a + 1 := by
  have e1 := Int.mul_ediv_add_emod (absI a * n) d
  have e2 := Int.mul_ediv_add_emod (absI a * m) d
  have r1 := Int.emod_nonneg (absI a * n) (show d ≠ 0 by omega)
  have r2 := Int.emod_nonneg (absI a * m) (show d ≠ 0 by omega)
  have s1 := Int.emod_lt_of_pos (absI a * n) (show 0 < d by omega)
  have s2 := Int.emod_lt_of_pos (absI a * m) (show 0 < d by omega)
  have e3 : absI a * n + absI a * m = absI a * d := by rw [← Int.mul_add, h]
  unfold scR
  generalize absI a * n = A at *
  generalize absI a * m = B at *
  generalize absI a = c at *
  have e4 : d * (c - A / d - B / d) = A % d + B % d := by
    rw [Int.mul_sub, Int.mul_sub, Int.mul_comm d c]; omega
  have hz : c - A / d - B / d = 0 ∨ c - A / d - B / d = 1 := by
    generalize c - A / d - B / d = z at *
    by_cases h0 : z < 0
    · have : d * z ≤ d * (-1) := Int.mul_le_mul_of_nonneg_left (by omega) (by omega)
      omega
    · by_cases h2 : 2 ≤ z
      · have : d * 2 ≤ d * z := Int.mul_le_mul_of_nonneg_left h2 (by omega)
        omega
      · omega
  rcases hz with hz | hz
  · rw [hz, Int.mul_zero] at e4
    left
    rw [if_neg (by omega), if_neg (by omega)]
    omega
  · rw [hz, Int.mul_one] at e4
    split <;> split <;> omega

theorem cntB_mono (p q : Int → Bool) (h : ∀ x, p x = true → q x = true) (n : Nat) : cntB p n ≤ cntB q n := by
  induction n with
  | zero => exact Int.le_refl _
  | succ n ih =>
    show cntB p n + (if p n = true then 1 else 0) ≤ cntB q n + (if q n = true then 1 else 0)
    by_cases hp : p n = true
    · rw [if_pos hp, if_pos (h _ hp)]; omega
    · rw [if_neg hp]; split <;> omega
theorem days_mono {C D : List (Int × Int)} (hC : Can C) (hCI : InT C) (hD : Can D) (hDI : InT D) (h : ∀ x, MemP C x → MemP D x) : (daysF C).1 ≤ (daysF D).1 := by
  obtain ⟨N, hN⟩ : ∃ N : Nat, (N : Int) = 146097 := ⟨146097, rfl⟩
  rw [(days_count C hC hCI N hN).2, (days_count D hD hDI N hN).2]
  refine cntB_mono _ _ (fun x hx => ?_) N
  obtain ⟨p, hp, h1, h2⟩ := (dayIn_iff C x).1 hx
  have hpi := hCI p hp
  obtain ⟨q, hq, h3, h4⟩ := h (max p.1 (x * 86400)) ⟨p, hp, by omega, by omega⟩
  exact (dayIn_iff D x).2 ⟨q, hq, by omega, by omega⟩
theorem days_one (f t : Int) (h : 0 ≤ f ∧ f < t ∧ t ≤ 12622780800) : (daysF [(f, t)]).1 = (t - 1) / 86400 - f / 86400 + 1 := by
  show (dStep (0, 0) (f, t)).1 = _
  have := day_bd h
  unfold dStep
  dsimp only
  rw [if_pos (by omega)]
  dsimp only
  omega
/-- A valid fee and no more days than the cycle has: no error. -/
theorem scale_ok (a n d : Int) (ha : amB a = true) (hn : 0 ≤ n) (hnd : n ≤ d) (hd : 1 ≤ d) (hd2 : d ≤ 146097) : scaleV a n d = (if a < 0 then - scR a n d else scR a n d, 0) := by
  have h1 := scR_le a n d hnd hd
  have h2 := (amB_iff a).1 ha
  unfold scaleV
  rw [if_pos ((scOk_iff a n d).2 ⟨ha, hn, by omega, hd, by omega⟩), if_pos]
  have : absI a ≤ 1125899906842624 := by unfold absI; split <;> omega
  omega
theorem memP_one (f t x : Int) : MemP [(f, t)] x ↔ f ≤ x ∧ x < t := by
  constructor
  · rintro ⟨q, hq, h⟩
    obtain rfl := List.mem_singleton.1 hq
    exact h
  · intro h
    exact ⟨(f, t), by simp, h⟩
theorem part_one (f t x y : Int) (h : 0 ≤ f ∧ f < t ∧ t ≤ 12622780800) (h1 : f ≤ x) (h2 : x < y) (h3 : y ≤ t) : chooseL [(x, y)] [(f, t)] false true = [(x, y)] := by
  obtain ⟨c1, c2⟩ := choose_law [(x, y)] [(f, t)] false true
  refine can_unique _ _ c1 (can_one x y h2) fun z => ?_
  rw [c2, memP_one]
  have e : selB [(x, y)] [(f, t)] false true z = (inL [(x, y)] z && inL [(f, t)] z) := by unfold selB; cases inL [(f, t)] z <;> rfl
  rw [e, Bool.and_eq_true, inL_memP (int_one x y ⟨by omega, h2, by omega⟩), inL_memP (int_one f t h), memP_one, memP_one]
  omega
theorem pro_whole (a f t : Int) (ha : amB a = true) (hv : validB f t = true) : proV a f t [(f, t)] = (a, 0) := by
  have h := (validB_iff f t).1 hv
  have hd := day_bd h
  unfold proV
  rw [if_pos hv, part_one f t f t h (Int.le_refl _) h.2.1 (Int.le_refl _), days_one f t h, scale_ok _ _ _ ha (by omega) (Int.le_refl _) (by omega) (by omega), scR_all _ _ (by omega)]
  unfold absI
  split <;> rename_i hs
  · congr 1; omega
  · rfl
theorem pro_parts (a f t x : Int) (ha : amB a = true) (hv : validB f t = true) (h1 : f < x * 86400) (h2 : x * 86400 < t) :
    (proV a f t [(f, x * 86400)]).2 = 0 ∧ (proV a f t [(x * 86400, t)]).2 = 0 ∧ a - 1 ≤ (proV a f t [(f, x * 86400)]).1 + (proV a f t [(x * 86400, t)]).1 ∧ (proV a f t [(f, x * 86400)]).1 + (proV a f t [(x * 86400, t)]).1 ≤ a + 1 ∧
    -1125899906842624 ≤ (proV a f t [(f, x * 86400)]).1 ∧ (proV a f t [(f, x * 86400)]).1 ≤ 1125899906842624 ∧ -1125899906842624 ≤ (proV a f t [(x * 86400, t)]).1 ∧ (proV a f t [(x * 86400, t)]).1 ≤ 1125899906842624 := by
  have h := (validB_iff f t).1 hv
  have hd := day_bd h
  have ha2 := (amB_iff a).1 ha
  unfold proV
  rw [if_pos hv, part_one f t f (x * 86400) h (Int.le_refl _) h1 (by omega), part_one f t (x * 86400) t h (by omega) h2 (Int.le_refl _), if_pos hv, days_one f t h, days_one f (x * 86400) ⟨h.1, h1, by omega⟩, days_one (x * 86400) t ⟨by omega, h2, h.2.2⟩]
  have e1 : (x * 86400 - 1) / 86400 = x - 1 := by omega
  have e2 : x * 86400 / 86400 = x := by omega
  rw [e1, e2]
  have hp := scR_parts a (x - 1 - f / 86400 + 1) ((t - 1) / 86400 - x + 1) ((t - 1) / 86400 - f / 86400 + 1) (by omega) (by omega)
  have l1 := scR_le a (x - 1 - f / 86400 + 1) ((t - 1) / 86400 - f / 86400 + 1) (by omega) (by omega)
  have l2 := scR_le a ((t - 1) / 86400 - x + 1) ((t - 1) / 86400 - f / 86400 + 1) (by omega) (by omega)
  have p1 := scR_nonneg a (x - 1 - f / 86400 + 1) ((t - 1) / 86400 - f / 86400 + 1) (by omega) (by omega)
  have p2 := scR_nonneg a ((t - 1) / 86400 - x + 1) ((t - 1) / 86400 - f / 86400 + 1) (by omega) (by omega)
  rw [scale_ok _ _ _ ha (by omega) (by omega) (by omega) (by omega), scale_ok _ _ _ ha (by omega) (by omega) (by omega) (by omega)]
  generalize scR a (x - 1 - f / 86400 + 1) ((t - 1) / 86400 - f / 86400 + 1) = A at *
  generalize scR a ((t - 1) / 86400 - x + 1) ((t - 1) / 86400 - f / 86400 + 1) = B at *
  unfold absI at *
  dsimp only
  by_cases hs : a < 0
  · rw [if_pos hs] at hp l1 l2
    simp only [if_pos hs]
    refine ⟨trivial, trivial, ?_, ?_, ?_, ?_, ?_, ?_⟩ <;> omega
  · rw [if_neg hs] at hp l1 l2
    simp only [if_neg hs]
    refine ⟨trivial, trivial, ?_, ?_, ?_, ?_, ?_, ?_⟩ <;> omega

/-- What any list of periods costs. -/
theorem pro_any (a f t : Int) (l : List (Int × Int)) (ha : amB a = true) (h0 : 0 ≤ a) (hv : validB f t = true) :
    (proV a f t l).2 = 0 ∧ 0 ≤ (proV a f t l).1 ∧ (proV a f t l).1 ≤ a := by
  have h := (validB_iff f t).1 hv
  have hd := day_bd h
  have hC := (choose_law l [(f, t)] false true)
  have hI := choose_in l [(f, t)] false true
  have hm := days_mono hC.1 hI (can_one f t h.2.1) (int_one f t h) (fun x hx => by
    have h1 := (hC.2 x).1 hx
    have e : selB l [(f, t)] false true x = (inL l x && inL [(f, t)] x) := by unfold selB; cases inL [(f, t)] x <;> rfl
    rw [e, Bool.and_eq_true, inL_memP (int_one f t h)] at h1
    exact h1.2)
  have hb := daysF_bd _ hI
  unfold proV
  rw [if_pos hv]
  rw [days_one f t h] at hm ⊢
  rw [scale_ok _ _ _ ha hb.1 hm (by omega) (by omega)]
  have l1 := scR_le a _ _ hm (by omega)
  have p1 := scR_nonneg a _ ((t - 1) / 86400 - f / 86400 + 1) hb.1 (by omega)
  unfold absI at l1
  rw [if_neg (by omega)] at l1
  rw [if_neg (by omega)]
  exact ⟨rfl, p1, l1⟩
theorem pro_same (a f t : Int) (l m : List (Int × Int)) (h : ∀ x, inL l x = inL m x) : proV a f t l = proV a f t m := by
  unfold proV
  rw [choose_same (a := l) (b := [(f, t)]) (c := m) (d := [(f, t)]) (ig := false) (inb := true) (ig' := false) (inb' := true) (fun x => by unfold selB; rw [h])]
theorem pro_less (a f t : Int) (l m : List (Int × Int)) (ha : amB a = true) (h0 : 0 ≤ a) (hv : validB f t = true) (hs : ∀ x, inL l x = true → inL m x = true) : (proV a f t l).1 ≤ (proV a f t m).1 := by
  have h := (validB_iff f t).1 hv
  have hd := day_bd h
  have hC := (choose_law l [(f, t)] false true)
  have hI := choose_in l [(f, t)] false true
  have hC2 := (choose_law m [(f, t)] false true)
  have hI2 := choose_in m [(f, t)] false true
  have sub : ∀ (k : List (Int × Int)) x, selB k [(f, t)] false true x = (inL k x && inL [(f, t)] x) := fun k x => by unfold selB; cases inL [(f, t)] x <;> rfl
  have cyc : ∀ (k : List (Int × Int)) x, MemP (chooseL k [(f, t)] false true) x → MemP [(f, t)] x := fun k x hx => by
    have h1 := ((choose_law k [(f, t)] false true).2 x).1 hx
    rw [sub, Bool.and_eq_true, inL_memP (int_one f t h)] at h1
    exact h1.2
  have hm1 := days_mono hC.1 hI (can_one f t h.2.1) (int_one f t h) (cyc l)
  have hm2 := days_mono hC2.1 hI2 (can_one f t h.2.1) (int_one f t h) (cyc m)
  have hm := days_mono hC.1 hI hC2.1 hI2 (fun x hx => by
    have h1 := (hC.2 x).1 hx
    rw [sub, Bool.and_eq_true] at h1
    rw [hC2.2, sub, Bool.and_eq_true]
    exact ⟨hs x h1.1, h1.2⟩)
  have hb := daysF_bd _ hI
  have hb2 := daysF_bd _ hI2
  unfold proV
  rw [if_pos hv, if_pos hv]
  rw [days_one f t h] at hm1 hm2 ⊢
  rw [scale_ok _ _ _ ha hb.1 hm1 (by omega) (by omega), scale_ok _ _ _ ha hb2.1 hm2 (by omega) (by omega), if_neg (by omega), if_neg (by omega)]
  exact scR_mono a _ _ _ hm (by omega)
theorem pro_none (a f t : Int) (ha : amB a = true) (h0 : 0 ≤ a) (hv : validB f t = true) : (proV a f t []).1 = 0 := by
  have h := (validB_iff f t).1 hv
  have hd := day_bd h
  have e : chooseL [] [(f, t)] false true = [] := by
    obtain ⟨c1, c2⟩ := choose_law [] [(f, t)] false true
    refine can_unique _ _ c1 trivial fun x => ?_
    rw [c2]
    exact ⟨fun h => (by cases h), fun h => absurd h (memP_nil x)⟩
  unfold proV
  rw [if_pos hv, e, days_one f t h]
  show (scaleV a 0 _).1 = 0
  rw [scale_ok _ _ _ ha (Int.le_refl _) (by omega) (by omega) (by omega), if_neg (by omega)]
  dsimp only
  unfold scR
  rw [Int.mul_zero, Int.zero_ediv, Int.zero_emod, if_neg (by omega)]
theorem inL_reverse (l : List (Int × Int)) (x : Int) : inL l.reverse x = inL l x := by unfold inL; rw [List.any_reverse]
theorem inL_cover (l : List (Int × Int)) (x : Int) : inL (chooseL l [] true false) x = inL l x := by rw [inL_choose, selB_cover]
end Go.Proofs.Ytimclpgkdplnhaa
