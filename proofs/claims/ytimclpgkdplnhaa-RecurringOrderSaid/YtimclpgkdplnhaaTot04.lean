/-
  The plain laws of the sets: their instants, their totals, and what Minus, Common and Cover make of one another.
-/
import Derived.Test.YtimclpgkdplnhaaSwept04
import Derived.Test.YtimclpgkdplnhaaR04f
namespace Go.Proofs.Ytimclpgkdplnhaa
open Go.RowKit

theorem inL_memP {C : List (Int × Int)} (h : ∀ q ∈ C, 0 ≤ q.1 ∧ q.1 < q.2 ∧ q.2 ≤ 12622780800) (x : Int) : inL C x = true ↔ MemP C x := by
  rw [inL_iff]
  constructor
  · rintro ⟨p, hp, -, h1, h2⟩; exact ⟨p, hp, h1, h2⟩
  · rintro ⟨p, hp, h1, h2⟩; exact ⟨p, hp, (validB_iff _ _).2 (h p hp), h1, h2⟩
theorem inL_choose (a b : List (Int × Int)) (ig inb : Bool) (x : Int) : inL (chooseL a b ig inb) x = selB a b ig inb x := by
  have h1 := inL_memP (choose_in a b ig inb) x
  have h2 := (choose_law a b ig inb).2 x
  exact Bool.eq_iff_iff.2 (h1.trans h2)
theorem choose_same {a b c d : List (Int × Int)} {ig inb ig' inb' : Bool} (h : ∀ x, selB a b ig inb x = selB c d ig' inb' x) : chooseL a b ig inb = chooseL c d ig' inb' := by
  obtain ⟨h1, h2⟩ := choose_law a b ig inb
  obtain ⟨h3, h4⟩ := choose_law c d ig' inb'
  exact can_unique _ _ h1 h3 fun x => by rw [h2, h4, h x]

/-- How many of the first n numbers. -/
def cntB (p : Int → Bool) : Nat → Int
  | 0 => 0
  | n + 1 => cntB p n + if p n = true then 1 else 0
theorem cntB_or (p q r : Int → Bool) (h : ∀ x, r x = (p x || q x)) (hd : ∀ x, ¬ (p x = true ∧ q x = true)) (n : Nat) : cntB r n = cntB p n + cntB q n := by
  induction n with
  | zero => rfl
  | succ n ih =>
    show cntB r n + _ = (cntB p n + _) + (cntB q n + _)
    rw [ih, h]
    have := hd n
    cases hp : p n <;> cases hq : q n <;> simp_all <;> omega
theorem cntB_none (p : Int → Bool) (h : ∀ x, p x = false) (n : Nat) : cntB p n = 0 := by
  induction n with
  | zero => rfl
  | succ n ih => show cntB p n + _ = 0; rw [ih, h]; rfl
theorem cntB_one (f t : Int) (h0 : 0 ≤ f) (hft : f ≤ t) (n : Nat) : cntB (fun x => decide (f ≤ x) && decide (x < t)) n = min t n - min f n := by
  induction n with
  | zero => show (0 : Int) = min t ((0 : Nat) : Int) - min f ((0 : Nat) : Int); omega
  | succ n ih =>
    show cntB _ n + (if (decide (f ≤ (n : Int)) && decide ((n : Int) < t)) = true then 1 else 0) = _
    rw [ih]
    have e : ((decide (f ≤ (n : Int)) && decide ((n : Int) < t)) = true) ↔ (f ≤ (n : Int) ∧ (n : Int) < t) := by simp
    split <;> rename_i hc <;> rw [e] at hc <;> omega
theorem tot_cnt : ∀ (C : List (Int × Int)), Can C → (∀ q ∈ C, 0 ≤ q.1 ∧ q.1 < q.2 ∧ q.2 ≤ 12622780800) → ∀ n : Nat, (n : Int) = 12622780800 → totL C = cntB (inL C) n := by
  intro C
  induction C with
  | nil => intro _ _ n _; exact (cntB_none _ (fun _ => rfl) n).symm
  | cons p r ih =>
    intro hC hq n hn
    have hr := ih hC.2.2 (fun q h => hq q (by simp [h])) n hn
    have hp := hq p (by simp)
    have hv : validB p.1 p.2 = true := (validB_iff _ _).2 hp
    rw [cntB_or (fun x => decide (p.1 ≤ x) && decide (x < p.2)) (inL r) (inL (p :: r)) (fun x => by
      show (containsB p.1 p.2 x || inL r x) = _
      unfold containsB
      rw [hv, Bool.true_and]) (fun x ⟨h1, h2⟩ => by
        have h3 := can_rest hC ((inL_memP (fun q h => hq q (by simp [h])) x).1 h2)
        simp at h1
        omega) n, cntB_one p.1 p.2 hp.1 (by omega) n, ← hr, hn]
    show p.2 - p.1 + totL r = _
    omega
theorem far_nat : ∃ n : Nat, (n : Int) = 12622780800 := ⟨(12622780800 : Int).toNat, Int.toNat_of_nonneg (by decide)⟩
theorem cntB_congr {p q : Int → Bool} (h : ∀ x, p x = q x) (n : Nat) : cntB p n = cntB q n := by rw [show p = q from funext h]

theorem selB_cover (a : List (Int × Int)) (x : Int) : selB a [] true false x = inL a x := by
  unfold selB; simp
theorem total_parts (a b : List (Int × Int)) :
    totL (chooseL a [] true false) = totL (chooseL (chooseL a b false false) [] true false) + totL (chooseL (chooseL a b false true) [] true false) := by
  obtain ⟨n, hn⟩ := far_nat
  have T : ∀ l, totL (chooseL l [] true false) = cntB (inL l) n := fun l => by
    rw [tot_cnt _ (choose_law l [] true false).1 (choose_in l [] true false) n hn]
    exact cntB_congr (fun x => by rw [inL_choose, selB_cover]) n
  rw [T, T, T]
  refine cntB_or _ _ _ (fun x => ?_) (fun x => ?_) n
  · rw [inL_choose, inL_choose]
    unfold selB
    cases inL a x <;> cases inL b x <;> rfl
  · rw [inL_choose, inL_choose]
    unfold selB
    cases inL a x <;> cases inL b x <;> simp
theorem parts_apart (a b : List (Int × Int)) : chooseL (chooseL a b false false) (chooseL a b false true) false true = [] := by
  obtain ⟨h1, h2⟩ := choose_law (chooseL a b false false) (chooseL a b false true) false true
  refine can_unique _ _ h1 trivial fun x => ?_
  rw [h2]
  refine ⟨fun h => ?_, fun h => absurd h (memP_nil x)⟩
  unfold selB at h
  rw [inL_choose, inL_choose] at h
  unfold selB at h
  revert h
  cases inL a x <;> cases inL b x <;> simp
theorem inL_append (a b : List (Int × Int)) (x : Int) : inL (a ++ b) x = (inL a x || inL b x) := by
  unfold inL; rw [List.any_append]
theorem parts_again (a b : List (Int × Int)) : chooseL (chooseL a b false true ++ chooseL a b false false) [] true false = chooseL a [] true false :=
  choose_same fun x => by
    rw [selB_cover, selB_cover, inL_append, inL_choose, inL_choose]
    unfold selB
    cases inL a x <;> cases inL b x <;> rfl
theorem sets_minus (a b : List (Int × Int)) : chooseL (chooseL a [] true false) (chooseL b [] true false) false false = chooseL a b false false :=
  choose_same fun x => by
    unfold selB
    rw [inL_choose, inL_choose, selB_cover, selB_cover]
theorem sets_common (a b : List (Int × Int)) : chooseL (chooseL b [] true false) (chooseL a [] true false) false true = chooseL a b false true :=
  choose_same fun x => by
    unfold selB
    rw [inL_choose, inL_choose, selB_cover, selB_cover]
    cases inL a x <;> cases inL b x <;> rfl
end Go.Proofs.Ytimclpgkdplnhaa
