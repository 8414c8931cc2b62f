/-
  Plain laws of ascending lists of products: the names and the fees of the program and of the reference are the same.
-/
import Derived.Test.YtmijdmchhlcblaaFees19
import Derived.Test.YtmijdmchhlcblaaNames19
import Derived.Sort.Walk0
namespace Go.Proofs.Ytmijdmchhlcblaa
open Go.RowKit

theorem ltS_iff (a b : ByteArray) : ltS a b = true ↔ a.data.toList < b.data.toList := by
  unfold ltS; rw [Go.Proofs.bytesLess_eq, Lib.toList_data, Lib.toList_data]; exact decide_eq_true_iff
theorem eqS_iff (a b : ByteArray) : eqS a b = true ↔ a = b := by
  unfold eqS
  rw [beq_iff_eq, Lib.toList_data, Lib.toList_data]
  constructor
  · intro h
    cases a with
    | mk a => cases b with
      | mk b => exact congrArg ByteArray.mk (Array.toList_inj.1 h)
  · rintro rfl; rfl
theorem ltS_irrefl (a : ByteArray) : ¬ ltS a a = true := fun h => List.lt_irrefl _ ((ltS_iff a a).1 h)
theorem ltS_trans {a b c : ByteArray} (h : ltS a b = true) (h' : ltS b c = true) : ltS a c = true :=
  (ltS_iff a c).2 (List.lt_trans ((ltS_iff a b).1 h) ((ltS_iff b c).1 h'))
theorem eqS_self (a : ByteArray) : eqS a a = true := (eqS_iff a a).2 rfl
theorem eqS_false {a b : ByteArray} (h : a ≠ b) : eqS a b = false := by
  cases e : eqS a b with
  | false => rfl
  | true => exact absurd ((eqS_iff a b).1 e) h

/-- One version stands before another. -/
def Ahead (a b : Pd) : Prop := ltS a.nm b.nm = true ∨ (a.nm = b.nm ∧ a.fm < b.fm)
theorem Ahead.trans {a b c : Pd} (h : Ahead a b) (h' : Ahead b c) : Ahead a c := by
  rcases h with h | ⟨h, h1⟩ <;> rcases h' with h' | ⟨h', h1'⟩
  · exact Or.inl (ltS_trans h h')
  · exact Or.inl (h' ▸ h)
  · exact Or.inl (h ▸ h')
  · exact Or.inr ⟨h.trans h', Int.lt_trans h1 h1'⟩
theorem ahead_iff (a b : Pd) : nextBad a b = false ↔ Ahead a b := by
  unfold nextBad Ahead
  by_cases he : a.nm = b.nm
  · rw [he, eqS_self]
    have := ltS_irrefl b.nm
    cases hl : ltS b.nm b.nm
    · simp
    · exact absurd hl this
  · rw [eqS_false he]
    cases hl : ltS a.nm b.nm <;> simp [he]

/-- Is one version of a list in its place? -/
def ascAt (l : List Pd) (i : Nat) : Bool :=
  if h : i < l.length then decide ((0 : Int) ≤ l[i].fm) && decide (l[i].fm < 12622780800) && (if h' : 0 < i then !(nextBad (l[i - 1]'(by omega)) l[i]) else true) else true
def ascB (l : List Pd) : Bool := (List.range l.length).all (ascAt l)

/-- An ascending list. -/
structure AscP (l : List Pd) : Prop where
  from_ : ∀ p ∈ l, 0 ≤ p.fm ∧ p.fm < 12622780800
  order : l.Pairwise Ahead

theorem ascB_at {l : List Pd} (h : ascB l = true) (i : Nat) (hi : i < l.length) : ascAt l i = true := by
  unfold ascB at h
  rw [List.all_eq_true] at h
  exact h i (by simpa using hi)

theorem ascP_of {l : List Pd} (h : ascB l = true) : AscP l := by
  refine ⟨fun p hp => ?_, ?_⟩
  · obtain ⟨i, hi, rfl⟩ := List.getElem_of_mem hp
    have := ascB_at h i hi
    unfold ascAt at this
    rw [dif_pos hi] at this
    simp only [Bool.and_eq_true, decide_eq_true_eq] at this
    exact this.1
  · have step : ∀ i (hi : i + 1 < l.length), Ahead (l[i]'(by omega)) l[i + 1] := fun i hi => by
      have := ascB_at h (i + 1) hi
      unfold ascAt at this
      rw [dif_pos hi, dif_pos (by omega)] at this
      simp only [Bool.and_eq_true, Bool.not_eq_true', Nat.add_sub_cancel] at this
      exact (ahead_iff _ _).1 this.2
    have far : ∀ n i (hi : i + 1 + n < l.length), Ahead (l[i]'(by omega)) l[i + 1 + n] := fun n => by
      induction n with
      | zero => intro i hi; exact step i hi
      | succ n ih => intro i hi; exact (ih i (by omega)).trans (step (i + 1 + n) hi)
    rw [List.pairwise_iff_getElem]
    intro i j hi hj hij
    have := far (j - i - 1) i (by omega)
    have e : i + 1 + (j - i - 1) = j := by omega
    simp only [e] at this
    exact this

/-! ### The names -/
/-- One product more, for the reference's names. -/
def rnameStep (t : Int) (N : List ByteArray) (p : Pd) : List ByteArray :=
  if p.fm ≤ t ∧ N.any (fun a => eqS a p.nm) = false then N ++ [p.nm] else N
def rnamesL (l : List Pd) (t : Int) : List ByteArray := l.foldl (rnameStep t) []

theorem rnames_snoc (l : List Pd) (t : Int) (k : Nat) (h : k < l.length) : (l.take (k + 1)).foldl (rnameStep t) [] = rnameStep t ((l.take k).foldl (rnameStep t) []) l[k] := by
  rw [List.take_succ_eq_append_getElem h, List.foldl_append]; rfl

/-- Names in order, all of them at most a name. -/
def Upto (N : List ByteArray) (s : ByteArray) : Prop := ∀ a ∈ N, ltS a s = true ∨ a = s

theorem last_any {N : List ByteArray} {s : ByteArray} (hN : N.Pairwise fun a b => ltS a b = true) (hs : Upto N s) : N.any (fun a => eqS a s) = (N.getLast?.map (fun a => eqS a s)).getD false := by
  by_cases h0 : N = []
  · subst h0; rfl
  · obtain ⟨M, z, rfl⟩ : ∃ M z, N = M ++ [z] := ⟨_, _, (List.dropLast_concat_getLast h0).symm⟩
    rw [List.getLast?_concat, List.any_append]
    simp only [List.any_cons, List.any_nil, Bool.or_false, Option.map_some, Option.getD_some]
    cases hz : eqS z s
    · rw [Bool.or_false, List.any_eq_false]
      intro a ha he
      have hea := (eqS_iff _ _).1 he
      have haz : ltS a z = true := (List.pairwise_append.1 hN).2.2 a ha z (by simp)
      rcases hs z (by simp) with h | h
      · exact ltS_irrefl s (ltS_trans (hea ▸ haz) h)
      · rw [h, eqS_self] at hz; cases hz
    · simp

theorem names_rnames_from (t : Int) : ∀ (l : List Pd) (N : List ByteArray), l.Pairwise Ahead → N.Pairwise (fun a b => ltS a b = true) → (∀ p ∈ l, Upto N p.nm) →
    l.foldl (nameStep t) N = l.foldl (rnameStep t) N ∧ (l.foldl (rnameStep t) N).Pairwise (fun a b => ltS a b = true) := by
  intro l
  induction l with
  | nil => intro N _ hN _; exact ⟨rfl, hN⟩
  | cons p r ih =>
    intro N hl hN hu
    have hp := last_any hN (hu p (by simp))
    have e : nameStep t N p = rnameStep t N p := by
      unfold nameStep rnameStep; rw [hp]
    rw [List.foldl_cons, List.foldl_cons, e]
    obtain ⟨hl1, hl2⟩ := List.pairwise_cons.1 hl
    by_cases hc : p.fm ≤ t ∧ N.any (fun a => eqS a p.nm) = false
    · have e2 : rnameStep t N p = N ++ [p.nm] := if_pos hc
      rw [e2]
      have hlt : ∀ a ∈ N, ltS a p.nm = true := fun a ha => by
        rcases hu p (by simp) a ha with h | h
        · exact h
        · have := List.any_eq_false.1 hc.2 a ha
          rw [h, eqS_self] at this
          exact absurd rfl this
      refine ih _ hl2 ?_ fun q hq a ha => ?_
      · rw [List.pairwise_append]
        exact ⟨hN, by simp, fun a ha b hb => by rw [List.mem_singleton.1 hb]; exact hlt a ha⟩
      · rcases List.mem_append.1 ha with ha | ha
        · exact hu q (by simp [hq]) a ha
        · rw [List.mem_singleton.1 ha]
          rcases hl1 q hq with h | ⟨h, -⟩
          · exact Or.inl h
          · exact Or.inr h
    · have e2 : rnameStep t N p = N := if_neg hc
      rw [e2]
      exact ih _ hl2 hN fun q hq => hu q (by simp [hq])

/-- The program's names are the reference's, and in order. -/
theorem names_rnames {l : List Pd} (h : l.Pairwise Ahead) (t : Int) : namesL l t = rnamesL l t ∧ (rnamesL l t).Pairwise (fun a b => ltS a b = true) :=
  names_rnames_from t l [] h (by simp) (fun _ _ a ha => by cases ha)

/-! ### The fees -/
def feeOne (p : Pd) (n : Option Pd) (f t : Int) : List (Int × Int × Int) :=
  let a := if p.fm < f then f else p.fm
  let b := match n with | some q => (if q.fm < t then q.fm else t) | none => t
  if a < b then [(a, b, p.fe)] else []
def feesR (f t : Int) : List Pd → List (Int × Int × Int)
  | [] => []
  | p :: r => feeOne p r.head? f t ++ feesR f t r

theorem feeAt_one (l : List Pd) (f t : Int) (i : Nat) (h : i < l.length) : feeAt l f t i h = feeOne l[i] (l.drop (i + 1)).head? f t := by
  unfold feeAt feeOne
  by_cases h' : i + 1 < l.length
  · rw [dif_pos h', List.drop_eq_getElem_cons h']; rfl
  · rw [dif_neg h', List.drop_of_length_le (by omega)]; rfl

theorem feesUpto_drop (l : List Pd) (f t : Int) : ∀ k, k ≤ l.length → feesUpto l f t k ++ feesR f t (l.drop k) = feesR f t l := by
  intro k
  induction k with
  | zero => intro _; simp [feesUpto]
  | succ k ih =>
    intro h
    rw [← ih (by omega), feesUpto, dif_pos (by omega), feeAt_one, List.append_assoc]
    congr 1
    rw [List.drop_eq_getElem_cons (show k < l.length by omega)]
    rfl

theorem feesL_R (l : List Pd) (f t : Int) : feesL l f t = feesR f t l := by
  have := feesUpto_drop l f t l.length (Nat.le_refl _)
  rw [List.drop_length] at this
  simpa [feesL, feesR] using this

/-- What a version adds to the reference's fees. -/
def rfeeAt (l : List Pd) (s : ByteArray) (f t : Int) (i : Nat) (h : i < l.length) : List (Int × Int × Int) :=
  if eqS l[i].nm s = true then
    let a := if l[i].fm < f then f else l[i].fm
    let b := if h' : i + 1 < l.length then (if eqS l[i + 1].nm s = true then (if l[i + 1].fm < t then l[i + 1].fm else t) else t) else t
    if a < b then [(a, b, l[i].fe)] else []
  else []
def rfeesUpto (l : List Pd) (s : ByteArray) (f t : Int) : Nat → List (Int × Int × Int)
  | 0 => []
  | k + 1 => rfeesUpto l s f t k ++ (if h : k < l.length then rfeeAt l s f t k h else [])
def rfeesL (l : List Pd) (s : ByteArray) (f t : Int) : List (Int × Int × Int) := rfeesUpto l s f t l.length

def nextOf (s : ByteArray) : List Pd → Option Pd
  | q :: _ => if eqS q.nm s = true then some q else none
  | [] => none
def rfeesR (s : ByteArray) (f t : Int) : List Pd → List (Int × Int × Int)
  | [] => []
  | p :: r => (if eqS p.nm s = true then feeOne p (nextOf s r) f t else []) ++ rfeesR s f t r

theorem rfeeAt_one (l : List Pd) (s : ByteArray) (f t : Int) (i : Nat) (h : i < l.length) : rfeeAt l s f t i h = if eqS l[i].nm s = true then feeOne l[i] (nextOf s (l.drop (i + 1))) f t else [] := by
  unfold rfeeAt feeOne
  by_cases h' : i + 1 < l.length
  · rw [dif_pos h', List.drop_eq_getElem_cons h', nextOf]
    cases eqS l[i + 1].nm s <;> rfl
  · rw [dif_neg h', List.drop_of_length_le (by omega)]; rfl

theorem rfeesUpto_drop (l : List Pd) (s : ByteArray) (f t : Int) : ∀ k, k ≤ l.length → rfeesUpto l s f t k ++ rfeesR s f t (l.drop k) = rfeesR s f t l := by
  intro k
  induction k with
  | zero => intro _; simp [rfeesUpto]
  | succ k ih =>
    intro h
    rw [← ih (by omega), rfeesUpto, dif_pos (by omega), rfeeAt_one, List.append_assoc]
    congr 1
    rw [List.drop_eq_getElem_cons (show k < l.length by omega)]
    rfl

theorem rfeesL_R (l : List Pd) (s : ByteArray) (f t : Int) : rfeesL l s f t = rfeesR s f t l := by
  have := rfeesUpto_drop l s f t l.length (Nat.le_refl _)
  rw [List.drop_length] at this
  simpa [rfeesL, rfeesR] using this

theorem next_filter (s : ByteArray) (p : Pd) (r : List Pd) (h : (p :: r).Pairwise Ahead) (hp : p.nm = s) : nextOf s r = (r.filter fun x : Pd => eqS x.nm s).head? := by
  cases r with
  | nil => rfl
  | cons q r =>
    rw [nextOf, List.filter_cons]
    cases hq : eqS q.nm s with
    | true => rfl
    | false =>
      have hpq : ltS p.nm q.nm = true := by
        rcases (List.pairwise_cons.1 h).1 q (by simp) with h | ⟨h, -⟩
        · exact h
        · rw [← h, hp, eqS_self] at hq; cases hq
      have : (r.filter fun x : Pd => eqS x.nm s) = [] := by
        rw [List.filter_eq_nil_iff]
        intro x hx he
        have hx' := (eqS_iff _ _).1 he
        have hqx : Ahead q x := (List.pairwise_cons.1 (List.pairwise_cons.1 h).2).1 x hx
        rcases hqx with h1 | ⟨h1, -⟩
        · exact ltS_irrefl s (by have := ltS_trans hpq h1; rwa [hp, hx'] at this)
        · rw [h1, hx', hp] at hpq; exact ltS_irrefl s hpq
      rw [this]
      rfl

/-- The program's fees are the reference's. -/
theorem fees_rfees {s : ByteArray} {f t : Int} : ∀ {l : List Pd}, l.Pairwise Ahead → feesR f t (l.filter fun x : Pd => eqS x.nm s) = rfeesR s f t l := by
  intro l
  induction l with
  | nil => intro _; rfl
  | cons p r ih =>
    intro h
    rw [List.filter_cons, rfeesR, ← ih (List.pairwise_cons.1 h).2]
    cases hp : eqS p.nm s with
    | false => simp
    | true =>
      rw [if_pos rfl, if_pos rfl, feesR, next_filter s p r h ((eqS_iff _ _).1 hp)]
theorem fees_same {l : List Pd} (h : l.Pairwise Ahead) (s : ByteArray) (f t : Int) : feesL (l.filter fun x : Pd => eqS x.nm s) f t = rfeesL l s f t := by
  rw [feesL_R, rfeesL_R, fees_rfees h]
end Go.Proofs.Ytmijdmchhlcblaa
