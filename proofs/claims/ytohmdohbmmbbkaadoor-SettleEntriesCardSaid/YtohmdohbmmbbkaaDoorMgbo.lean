/-
  The plain law of statements: what gather holds of an agreement, and the charges over a list of agreements.
-/
import Derived.Test.YtohmdohbmmbbkaaDoorMgbn
import Derived.Test.YtohmdohbmmbbkaaDoorMgas
import Derived.Test.YtohmdohbmmbbkaaDoorMgav
namespace Go.Proofs.YtohmdohbmmbbkaaDoor
open Go.RowKit

/-- Number and units of the usages under an agreement. -/
def cntS (pa mf mt : Int) (a : Ag) (s : Int × Int) (u : Us) : Int × Int := if (mineU pa mf mt u && fitA pa u a) = true then (s.1 + 1, s.2 + unitsU u) else s
def cntU (pa mf mt : Int) (us : List Us) (a : Ag) : Int × Int := us.foldl (cntS pa mf mt a) (0, 0)
theorem cntU_snoc (pa mf mt : Int) (us : List Us) (u : Us) (a : Ag) : cntU pa mf mt (us ++ [u]) a = cntS pa mf mt a (cntU pa mf mt us a) u := by simp [cntU, List.foldl_append]
theorem cntU_nonneg (pa mf mt : Int) (us : List Us) (a : Ag) : 0 ≤ (cntU pa mf mt us a).1 := by
  induction us using snocInd with
  | h0 => simp [cntU]
  | h1 us u ih =>
    rw [cntU_snoc]
    unfold cntS
    split
    · simp only; omega
    · exact ih
/-- No two agreements fit one usage. -/
def OneFit (pa : Int) (so : List Ag) : Prop := ∀ u : Us, so.Pairwise fun a b => ¬ (fitA pa u a = true ∧ fitA pa u b = true)
theorem gather_val {pa mf mt : Int} {so : List Ag} (hp : OneFit pa so) (us : List Us) : ∀ i (hi : i < so.length), valT (gatherT so pa mf mt us) i = cntU pa mf mt us so[i] ∧ hasT (gatherT so pa mf mt us) i = decide ((cntU pa mf mt us so[i]).1 ≠ 0) := by
  induction us using snocInd with
  | h0 =>
    intro i hi
    exact ⟨rfl, by simp [gatherT, hasT, cntU]⟩
  | h1 us u ih =>
    intro i hi
    obtain ⟨h1, h2⟩ := ih i hi
    have hg : gatherT so pa mf mt (us ++ [u]) = stepT so pa mf mt (gatherT so pa mf mt us) u := by simp [gatherT, List.foldl_append]
    rw [hg, cntU_snoc]
    unfold stepT cntS
    by_cases hm : mineU pa mf mt u = true
    · rw [if_pos hm]
      cases hf : so.findIdx? (fitA pa u) with
      | none =>
        have := (List.findIdx?_eq_none_iff.1 hf) so[i] (List.getElem_mem hi)
        rw [if_neg (by rw [this]; simp)]
        exact ⟨h1, h2⟩
      | some i0 =>
        obtain ⟨hi0, hfit, -⟩ := List.findIdx?_eq_some_iff_getElem.1 hf
        simp only [valT_snoc, hasT_snoc]
        by_cases e : i0 = i
        · subst e
          rw [if_pos rfl, if_pos (by rw [hm, hfit]; rfl), h1]
          have := cntU_nonneg pa mf mt us so[i0]
          refine ⟨rfl, ?_⟩
          simp only [decide_true, Bool.or_true]
          exact (decide_eq_true (by omega)).symm
        · have hno : fitA pa u so[i] = false := by
            rw [Bool.eq_false_iff]
            intro h
            have hpw := List.pairwise_iff_getElem.1 (hp u)
            rcases Nat.lt_or_gt_of_ne e with hl | hl
            · exact hpw i0 i hi0 hi hl ⟨hfit, h⟩
            · exact hpw i i0 hi hi0 hl ⟨h, hfit⟩
          rw [if_neg e, if_neg (by rw [hno]; simp), decide_eq_false e, Bool.or_false]
          exact ⟨h1, h2⟩
    · have hm0 : mineU pa mf mt u = false := by simpa using hm
      rw [if_neg hm, if_neg (by rw [hm0]; simp)]
      exact ⟨h1, h2⟩
theorem OneFit.of_check {pa : Int} {l so : List Ag} (h : agCheckE l = 0) (hp : so.Perm l) : OneFit pa so := fun u => by
  refine (hp.pairwise_iff ?_).2 (fits_pair h pa u.kd u.ib u.st)
  exact fun h1 h2 => h1 ⟨h2.2, h2.1⟩

/-- A charge. -/
structure Chg where
  kd : Int
  ib : Bool
  cn : Int
  un : Int
  am : Int
def Chg.row (c : Chg) : Array Value := #[.int .i64 c.kd, .bool c.ib, .int .i64 c.cn, .int .i64 c.un, .int .i64 c.am]
/-- The charges of agreements in turn: first error, charges, net. -/
def stL (F : Ag → Int × Int) : List Ag → List Chg → Int → Int × List Chg × Int
  | [], cs, n => (0, cs, n)
  | a :: l, cs, n => if (F a).1 = 0 then stL F l cs n else if (agPriceL a 0 (F a).2).2 ≠ 0 then ((agPriceL a 0 (F a).2).2, [], 0) else
      stL F l (cs ++ [⟨a.kd, a.ib, (F a).1, (F a).2, (agPriceL a 0 (F a).2).1⟩]) (if a.ib = true then n + (agPriceL a 0 (F a).2).1 else n - (agPriceL a 0 (F a).2).1)
theorem stL_filter {F : Ag → Int × Int} {p : Ag → Bool} (h : ∀ a, p a = false → (F a).1 = 0) : ∀ (l : List Ag) (cs : List Chg) (n : Int), stL F l cs n = stL F (l.filter p) cs n
  | [], _, _ => rfl
  | a :: l, cs, n => by
    cases hp : p a with
    | false =>
      rw [List.filter_cons_of_neg (by rw [hp]; simp), stL, if_pos (h a hp)]
      exact stL_filter h l cs n
    | true =>
      rw [List.filter_cons_of_pos hp, stL, stL]
      split
      · exact stL_filter h l cs n
      · split
        · rfl
        · exact stL_filter h l _ _
theorem fitA_pa {pa : Int} {u : Us} {a : Ag} (h : fitA pa u a = true) : a.pa = pa := by
  unfold fitA fitsB at h
  simp only [Bool.and_eq_true, decide_eq_true_eq] at h
  exact h.1.1.1
theorem cntU_other {pa mf mt : Int} (us : List Us) {a : Ag} (h : decide (a.pa = pa) = false) : (cntU pa mf mt us a).1 = 0 := by
  induction us using snocInd with
  | h0 => rfl
  | h1 us u ih =>
    rw [cntU_snoc]
    unfold cntS
    rw [if_neg, ih]
    intro hh
    simp only [Bool.and_eq_true] at hh
    exact of_decide_eq_false h (fitA_pa hh.2)
end Go.Proofs.YtohmdohbmmbbkaaDoor
