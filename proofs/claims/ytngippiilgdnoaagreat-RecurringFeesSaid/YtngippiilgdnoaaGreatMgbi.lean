/-
  Plain laws of ascending lists of products: the names and the fees of the program and of the reference are the same.
  The walks of small references: does a list hold a text, are two equal lists the same, is a list ascending?
  The walks of the reference's SamePriced (where all is equal) and Ascending.
  The walks of the reference's At and Names.
-/
import Derived.Test.YtngippiilgdnoaaGreatMgbh
import Derived.Sort.Walk0
namespace Go.Proofs.YtngippiilgdnoaaGreat
open Go.RowKit

theorem ltS_iff (a b : ByteArray) : ltS a b = true ↔ a.data.toList < b.data.toList := by
  unfold ltS; rw [Go.Proofs.bytesLess_eq, Lib.toList_data, Lib.toList_data]; exact decide_eq_true_iff
theorem eqS_iff (a b : ByteArray) : eqS a b = true ↔ a = b := by
  unfold eqS
  rw [beq_iff_eq, Lib.toList_data, Lib.toList_data]
  constructor
  · intro h
    cases a with
    | mk a => cases b with
      | mk b => exact congrArg ByteArray.mk (Array.toList_inj.1 h)
  · rintro rfl; rfl
theorem ltS_irrefl (a : ByteArray) : ¬ ltS a a = true := fun h => List.lt_irrefl _ ((ltS_iff a a).1 h)
theorem ltS_trans {a b c : ByteArray} (h : ltS a b = true) (h' : ltS b c = true) : ltS a c = true :=
  (ltS_iff a c).2 (List.lt_trans ((ltS_iff a b).1 h) ((ltS_iff b c).1 h'))
theorem eqS_self (a : ByteArray) : eqS a a = true := (eqS_iff a a).2 rfl
theorem eqS_false {a b : ByteArray} (h : a ≠ b) : eqS a b = false := by
  cases e : eqS a b with
  | false => rfl
  | true => exact absurd ((eqS_iff a b).1 e) h

/-- One version stands before another. -/
def Ahead (a b : Pd) : Prop := ltS a.nm b.nm = true ∨ (a.nm = b.nm ∧ a.fm < b.fm)
theorem Ahead.trans {a b c : Pd} (h : Ahead a b) (h' : Ahead b c) : Ahead a c := by
  rcases h with h | ⟨h, h1⟩ <;> rcases h' with h' | ⟨h', h1'⟩
  · exact Or.inl (ltS_trans h h')
  · exact Or.inl (h' ▸ h)
  · exact Or.inl (h ▸ h')
  · exact Or.inr ⟨h.trans h', Int.lt_trans h1 h1'⟩
theorem ahead_iff (a b : Pd) : nextBad a b = false ↔ Ahead a b := by
  unfold nextBad Ahead
  by_cases he : a.nm = b.nm
  · rw [he, eqS_self]
    have := ltS_irrefl b.nm
    cases hl : ltS b.nm b.nm
    · simp
    · exact absurd hl this
  · rw [eqS_false he]
    cases hl : ltS a.nm b.nm <;> simp [he]

/-- Is one version of a list in its place? -/
def ascAt (l : List Pd) (i : Nat) : Bool :=
  if h : i < l.length then decide ((0 : Int) ≤ l[i].fm) && decide (l[i].fm < 12622780800) && (if h' : 0 < i then !(nextBad (l[i - 1]'(by omega)) l[i]) else true) else true
def ascB (l : List Pd) : Bool := (List.range l.length).all (ascAt l)

/-- An ascending list. -/
structure AscP (l : List Pd) : Prop where
  from_ : ∀ p ∈ l, 0 ≤ p.fm ∧ p.fm < 12622780800
  order : l.Pairwise Ahead

theorem ascB_at {l : List Pd} (h : ascB l = true) (i : Nat) (hi : i < l.length) : ascAt l i = true := by
  unfold ascB at h
  rw [List.all_eq_true] at h
  exact h i (by simpa using hi)

theorem ascP_of {l : List Pd} (h : ascB l = true) : AscP l := by
  refine ⟨fun p hp => ?_, ?_⟩
  · obtain ⟨i, hi, rfl⟩ := List.getElem_of_mem hp
    have := ascB_at h i hi
    unfold ascAt at this
    rw [dif_pos hi] at this
    simp only [Bool.and_eq_true, decide_eq_true_eq] at this
    exact this.1
  · have step : ∀ i (hi : i + 1 < l.length), Ahead (l[i]'(by omega)) l[i + 1] := fun i hi => by
      have := ascB_at h (i + 1) hi
      unfold ascAt at this
      rw [dif_pos hi, dif_pos (by omega)] at this
      simp only [Bool.and_eq_true, Bool.not_eq_true', Nat.add_sub_cancel] at this
      exact (ahead_iff _ _).1 this.2
    have far : ∀ n i (hi : i + 1 + n < l.length), Ahead (l[i]'(by omega)) l[i + 1 + n] := fun n => by
      induction n with
      | zero => intro i hi; exact step i hi
      | succ n ih => intro i hi; exact (ih i (by omega)).trans (step (i + 1 + n) hi)
    rw [List.pairwise_iff_getElem]
    intro i j hi hj hij
    have := far (j - i - 1) i (by omega)
    have e : i + 1 + (j - i - 1) = j := by omega
    simp only [e] at this
    exact this

/-! ### The names -/
/-- One product more, for the reference's names. -/
def rnameStep (t : Int) (N : List ByteArray) (p : Pd) : List ByteArray :=
  if p.fm ≤ t ∧ N.any (fun a => eqS a p.nm) = false then N ++ [p.nm] else N
def rnamesL (l : List Pd) (t : Int) : List ByteArray := l.foldl (rnameStep t) []

theorem rnames_snoc (l : List Pd) (t : Int) (k : Nat) (h : k < l.length) : (l.take (k + 1)).foldl (rnameStep t) [] = rnameStep t ((l.take k).foldl (rnameStep t) []) l[k] := by
  rw [List.take_succ_eq_append_getElem h, List.foldl_append]; rfl

/-- Names in order, all of them at most a name. -/
def Upto (N : List ByteArray) (s : ByteArray) : Prop := ∀ a ∈ N, ltS a s = true ∨ a = s

theorem last_any {N : List ByteArray} {s : ByteArray} (hN : N.Pairwise fun a b => ltS a b = true) (hs : Upto N s) : N.any (fun a => eqS a s) = (N.getLast?.map (fun a => eqS a s)).getD false := by
  by_cases h0 : N = []
  · subst h0; rfl
  · obtain ⟨M, z, rfl⟩ : ∃ M z, N = M ++ [z] := ⟨_, _, (List.dropLast_concat_getLast h0).symm⟩
    rw [List.getLast?_concat, List.any_append]
    simp only [List.any_cons, List.any_nil, Bool.or_false, Option.map_some, Option.getD_some]
    cases hz : eqS z s
    · rw [Bool.or_false, List.any_eq_false]
      intro a ha he
      have hea := (eqS_iff _ _).1 he
      have haz : ltS a z = true := (List.pairwise_append.1 hN).2.2 a ha z (by simp)
      rcases hs z (by simp) with h | h
      · exact ltS_irrefl s (ltS_trans (hea ▸ haz) h)
      · rw [h, eqS_self] at hz; cases hz
    · simp

theorem names_rnames_from (t : Int) : ∀ (l : List Pd) (N : List ByteArray), l.Pairwise Ahead → N.Pairwise (fun a b => ltS a b = true) → (∀ p ∈ l, Upto N p.nm) →
    l.foldl (nameStep t) N = l.foldl (rnameStep t) N ∧ (l.foldl (rnameStep t) N).Pairwise (fun a b => ltS a b = true) := by
  intro l
  induction l with
  | nil => intro N _ hN _; exact ⟨rfl, hN⟩
  | cons p r ih =>
    intro N hl hN hu
    have hp := last_any hN (hu p (by simp))
    have e : nameStep t N p = rnameStep t N p := by
      unfold nameStep rnameStep; rw [hp]
    rw [List.foldl_cons, List.foldl_cons, e]
    obtain ⟨hl1, hl2⟩ := List.pairwise_cons.1 hl
    by_cases hc : p.fm ≤ t ∧ N.any (fun a => eqS a p.nm) = false
    · have e2 : rnameStep t N p = N ++ [p.nm] := if_pos hc
      rw [e2]
      have hlt : ∀ a ∈ N, ltS a p.nm = true := fun a ha => by
        rcases hu p (by simp) a ha with h | h
        · exact h
        · have := List.any_eq_false.1 hc.2 a ha
          rw [h, eqS_self] at this
          exact absurd rfl this
      refine ih _ hl2 ?_ fun q hq a ha => ?_
      · rw [List.pairwise_append]
        exact ⟨hN, by simp, fun a ha b hb => by rw [List.mem_singleton.1 hb]; exact hlt a ha⟩
      · rcases List.mem_append.1 ha with ha | ha
        · exact hu q (by simp [hq]) a ha
        · rw [List.mem_singleton.1 ha]
          rcases hl1 q hq with h | ⟨h, -⟩
          · exact Or.inl h
          · exact Or.inr h
    · have e2 : rnameStep t N p = N := if_neg hc
      rw [e2]
      exact ih _ hl2 hN fun q hq => hu q (by simp [hq])

/-- The program's names are the reference's, and in order. -/
theorem names_rnames {l : List Pd} (h : l.Pairwise Ahead) (t : Int) : namesL l t = rnamesL l t ∧ (rnamesL l t).Pairwise (fun a b => ltS a b = true) :=
  names_rnames_from t l [] h (by simp) (fun _ _ a ha => by cases ha)

/-! ### The fees -/
def feeOne (p : Pd) (n : Option Pd) (f t : Int) : List (Int × Int × Int) :=
  let a := if p.fm < f then f else p.fm
  let b := match n with | some q => (if q.fm < t then q.fm else t) | none => t
  if a < b then [(a, b, p.fe)] else []
def feesR (f t : Int) : List Pd → List (Int × Int × Int)
  | [] => []
  | p :: r => feeOne p r.head? f t ++ feesR f t r

theorem feeAt_one (l : List Pd) (f t : Int) (i : Nat) (h : i < l.length) : feeAt l f t i h = feeOne l[i] (l.drop (i + 1)).head? f t := by
  unfold feeAt feeOne
  by_cases h' : i + 1 < l.length
  · rw [dif_pos h', List.drop_eq_getElem_cons h']; rfl
  · rw [dif_neg h', List.drop_of_length_le (by omega)]; rfl

theorem feesUpto_drop (l : List Pd) (f t : Int) : ∀ k, k ≤ l.length → feesUpto l f t k ++ feesR f t (l.drop k) = feesR f t l := by
  intro k
  induction k with
  | zero => intro _; simp [feesUpto]
  | succ k ih =>
    intro h
    rw [← ih (by omega), feesUpto, dif_pos (by omega), feeAt_one, List.append_assoc]
    congr 1
    rw [List.drop_eq_getElem_cons (show k < l.length by omega)]
    rfl

theorem feesL_R (l : List Pd) (f t : Int) : feesL l f t = feesR f t l := by
  have := feesUpto_drop l f t l.length (Nat.le_refl _)
  rw [List.drop_length] at this
  simpa [feesL, feesR] using this

/-- What a version adds to the reference's fees. -/
def rfeeAt (l : List Pd) (s : ByteArray) (f t : Int) (i : Nat) (h : i < l.length) : List (Int × Int × Int) :=
  if eqS l[i].nm s = true then
    let a := if l[i].fm < f then f else l[i].fm
    let b := if h' : i + 1 < l.length then (if eqS l[i + 1].nm s = true then (if l[i + 1].fm < t then l[i + 1].fm else t) else t) else t
    if a < b then [(a, b, l[i].fe)] else []
  else []
def rfeesUpto (l : List Pd) (s : ByteArray) (f t : Int) : Nat → List (Int × Int × Int)
  | 0 => []
  | k + 1 => rfeesUpto l s f t k ++ (if h : k < l.length then rfeeAt l s f t k h else [])
def rfeesL (l : List Pd) (s : ByteArray) (f t : Int) : List (Int × Int × Int) := rfeesUpto l s f t l.length

def nextOf (s : ByteArray) : List Pd → Option Pd
  | q :: _ => if eqS q.nm s = true then some q else none
  | [] => none
def rfeesR (s : ByteArray) (f t : Int) : List Pd → List (Int × Int × Int)
  | [] => []
  | p :: r => (if eqS p.nm s = true then feeOne p (nextOf s r) f t else []) ++ rfeesR s f t r

theorem rfeeAt_one (l : List Pd) (s : ByteArray) (f t : Int) (i : Nat) (h : i < l.length) : rfeeAt l s f t i h = if eqS l[i].nm s = true then feeOne l[i] (nextOf s (l.drop (i + 1))) f t else [] := by
  unfold rfeeAt feeOne
  by_cases h' : i + 1 < l.length
  · rw [dif_pos h', List.drop_eq_getElem_cons h', nextOf]
    cases eqS l[i + 1].nm s <;> rfl
  · rw [dif_neg h', List.drop_of_length_le (by omega)]; rfl

theorem rfeesUpto_drop (l : List Pd) (s : ByteArray) (f t : Int) : ∀ k, k ≤ l.length → rfeesUpto l s f t k ++ rfeesR s f t (l.drop k) = rfeesR s f t l := by
  intro k
  induction k with
  | zero => intro _; simp [rfeesUpto]
  | succ k ih =>
    intro h
    rw [← ih (by omega), rfeesUpto, dif_pos (by omega), rfeeAt_one, List.append_assoc]
    congr 1
    rw [List.drop_eq_getElem_cons (show k < l.length by omega)]
    rfl

theorem rfeesL_R (l : List Pd) (s : ByteArray) (f t : Int) : rfeesL l s f t = rfeesR s f t l := by
  have := rfeesUpto_drop l s f t l.length (Nat.le_refl _)
  rw [List.drop_length] at this
  simpa [rfeesL, rfeesR] using this

theorem next_filter (s : ByteArray) (p : Pd) (r : List Pd) (h : (p :: r).Pairwise Ahead) (hp : p.nm = s) : nextOf s r = (r.filter fun x : Pd => eqS x.nm s).head? := by
  cases r with
  | nil => rfl
  | cons q r =>
    rw [nextOf, List.filter_cons]
    cases hq : eqS q.nm s with
    | true => rfl
    | false =>
      have hpq : ltS p.nm q.nm = true := by
        rcases (List.pairwise_cons.1 h).1 q (by simp) with h | ⟨h, -⟩
        · exact h
        · rw [← h, hp, eqS_self] at hq; cases hq
      have : (r.filter fun x : Pd => eqS x.nm s) = [] := by
        rw [List.filter_eq_nil_iff]
        intro x hx he
        have hx' := (eqS_iff _ _).1 he
        have hqx : Ahead q x := (List.pairwise_cons.1 (List.pairwise_cons.1 h).2).1 x hx
        rcases hqx with h1 | ⟨h1, -⟩
        · exact ltS_irrefl s (by have := ltS_trans hpq h1; rwa [hp, hx'] at this)
        · rw [h1, hx', hp] at hpq; exact ltS_irrefl s hpq
      rw [this]
      rfl

/-- The program's fees are the reference's. -/
theorem fees_rfees {s : ByteArray} {f t : Int} : ∀ {l : List Pd}, l.Pairwise Ahead → feesR f t (l.filter fun x : Pd => eqS x.nm s) = rfeesR s f t l := by
  intro l
  induction l with
  | nil => intro _; rfl
  | cons p r ih =>
    intro h
    rw [List.filter_cons, rfeesR, ← ih (List.pairwise_cons.1 h).2]
    cases hp : eqS p.nm s with
    | false => simp
    | true =>
      rw [if_pos rfl, if_pos rfl, feesR, next_filter s p r h ((eqS_iff _ _).1 hp)]
theorem fees_same {l : List Pd} (h : l.Pairwise Ahead) (s : ByteArray) (f t : Int) : feesL (l.filter fun x : Pd => eqS x.nm s) f t = rfeesL l s f t := by
  rw [feesL_R, rfeesL_R, fees_rfees h]
end Go.Proofs.YtngippiilgdnoaaGreat

namespace Go.Proofs.YtngippiilgdnoaaGreat
open Go.RowKit

theorem take_any_false {N : List ByteArray} {s : ByteArray} {k : Nat} (h : k < N.length) (h1 : (N.take k).any (fun a => eqS a s) = false) (h2 : eqS N[k] s = false) : (N.take (k + 1)).any (fun a => eqS a s) = false := by
  rw [List.take_succ_eq_append_getElem h, List.any_append, h1]; simp [h2]
theorem any_true_at {N : List ByteArray} {s : ByteArray} {k : Nat} (h : k < N.length) (h2 : eqS N[k] s = true) : N.any (fun a => eqS a s) = true :=
  List.any_eq_true.2 ⟨N[k], List.getElem_mem h, h2⟩

set_option maxRecDepth 100000 in
set_option maxHeartbeats 1600000 in
theorem has19_calls (v : Value) (N : List ByteArray) (s : ByteArray) (w : World) (h : StrsAt w v N) :
    Calls Tryz.prog 110 #[v, .string s] w fun e w' => e = .returned (.bool (N.any fun a => eqS a s)) ∧ w = w' := by
  have hh := h
  obtain ⟨av, cap, rfl, hlc, hm, -⟩ := h
  have hm := hm.1
  unfold maxLen at hm
  go_enter Tryz.func110, Tryz.ntmps110
  go_wp2_with fail
  go_loop [5] (fun i => ∃ k : Nat, k ≤ N.length ∧ i = .int .i64 k ∧ (N.take k).any (fun a => eqS a s) = false) (fun i => N.length - (intOf i).toNat)
  case atStart => exact ⟨0, Nat.zero_le _, rfl, rfl⟩
  case round =>
    obtain ⟨k, hk, rfl, hf⟩ := hrel
    have Hf := Lib.hid hf
    clear hf
    by_cases hlt : k < N.length
    · obtain ⟨av2, cap2, e2, -, -, hx⟩ := hh
      cases e2
      obtain ⟨b, o, rfl, hB, hx⟩ := hx (by rintro rfl; cases hlt)
      obtain ⟨c0, s0⟩ := hx k hlt
      rw [Nat.mul_one] at c0
      have hk0 : (0 : Int) ≤ (k : Int) := Int.natCast_nonneg _
      have hk1 : (k : Int) < (N.length : Int) := by omega
      have T := Lib.hid (fun h2 => @any_true_at N s k hlt h2)
      have F := Lib.hid (fun h2 => @take_any_false N s k hlt Hf.out h2)
      clear hx
      generalize N[k] = x at *
      cases hE : eqS x s with
      | true =>
        have e1 : (x.toList == s.toList) = true := hE
        have e2 : (x.data.toList == s.data.toList) = true := by have h := hE; unfold eqS at h; rw [Lib.toList_data, Lib.toList_data] at h; exact h
        have HT := Lib.hid (T.out hE)
        clear hE
        go_wp2
        go_ret
        exact ⟨ret_bool HT.out.symm, rfl⟩
      | false =>
        have e1 : (x.toList == s.toList) = false := hE
        have e2 : (x.data.toList == s.data.toList) = false := by have h := hE; unfold eqS at h; rw [Lib.toList_data, Lib.toList_data] at h; exact h
        have HF := Lib.hid (F.out hE)
        clear hE
        go_wp2
        go_round
        case rel => exact ⟨k + 1, by omega, by go_num, HF.out⟩
        case measure => simp [intOf]; omega
    · have e : N.take k = N := List.take_of_length_le (by omega)
      go_wp2
      go_ret
      exact ⟨ret_bool (by rw [← Hf.out, e]), rfl⟩

set_option maxRecDepth 100000 in
set_option maxHeartbeats 1600000 in
theorem sameTexts_calls (v1 v2 : Value) (N : List ByteArray) (w : World) (h1 : StrsAt w v1 N) (h2 : StrsAt w v2 N) :
    Calls Tryz.prog 184 #[v1, v2] w fun e w' => e = .returned (.bool true) ∧ Below w.heap.size w w' := by
  have hh1 := h1
  have hh2 := h2
  obtain ⟨av1, cap1, rfl, hlc, hm, -⟩ := h1
  obtain ⟨av2, cap2, rfl, -, -, -⟩ := h2
  have hm := hm.1
  unfold maxLen at hm
  have hne : ((N.length : Int) != (N.length : Int)) = false := by simp
  go_enter Tryz.func184, Tryz.ntmps184
  go_wp2_with fail
  go_loopw [5] (fun i wr => ∃ k n : Nat, k ≤ N.length ∧ i = .int .i64 k ∧ wr = w.drewN n) (fun i _ => N.length - (intOf i).toNat)
  case atStart => exact ⟨0, 0, Nat.zero_le _, rfl, rfl⟩
  case round =>
    obtain ⟨k, n, hk, rfl, rfl⟩ := hrel
    by_cases hlt : k < N.length
    · obtain ⟨av', cap', e1, -, -, hx1⟩ := hh1
      obtain ⟨av2', cap2', e2, -, -, hx2⟩ := hh2
      cases e1
      cases e2
      obtain ⟨b1, o1, rfl, hB1, hx1⟩ := hx1 (by rintro rfl; cases hlt)
      obtain ⟨b2, o2, rfl, hB2, hx2⟩ := hx2 (by rintro rfl; cases hlt)
      obtain ⟨c0, s0⟩ := hx1 k hlt
      obtain ⟨d0, -⟩ := hx2 k hlt
      rw [Nat.mul_one] at c0 d0
      have hk0 : (0 : Int) ≤ (k : Int) := Int.natCast_nonneg _
      have hk1 : (k : Int) < (N.length : Int) := by omega
      clear hx1 hx2
      generalize N[k] = x at *
      go_wp2_with fail
      go_quiet (fail)
      go_wp2
      exact ⟨⟨k + 1, _, by omega, by go_num, rfl⟩, by simp [intOf]; omega⟩
    · go_wp2
      go_ret
      exact ⟨rfl, below_drewN (Below.refl _ _) _⟩

/-- Three numbers in three cells. -/
def PrR (w : World) (b o : Nat) (q : Int × Int × Int) : Prop := w.cell? ⟨b, o, none⟩ = some (.int .i64 q.1) ∧ w.cell? ⟨b, o + 1, none⟩ = some (.int .i64 q.2.1) ∧ w.cell? ⟨b, o + 2, none⟩ = some (.int .i64 q.2.2)
theorem PrR.stays : Stays PrR := fun w w' b _ _ hb hB ⟨h0, h1, h2⟩ =>
  have c : ∀ j, w'.cell? ⟨b, j, none⟩ = w.cell? ⟨b, j, none⟩ := fun j => hb.cell (p := ⟨b, j, none⟩) hB
  ⟨(c _).trans h0, (c _).trans h1, (c _).trans h2⟩
def PrsAt (w : World) (v : Value) (l : List (Int × Int × Int)) : Prop := SliceAt 3 PrR w v l
theorem PrsAt.below {w w' : World} {v : Value} {l : List (Int × Int × Int)} (h : PrsAt w v l) (hb : Below w.heap.size w w') : PrsAt w' v l := SliceAt.below PrR.stays h hb
end Go.Proofs.YtngippiilgdnoaaGreat

namespace Go.Proofs.YtngippiilgdnoaaGreat
open Go.RowKit

theorem ascB_false {l : List Pd} {k : Nat} (h : k < l.length) (hf : ascAt l k = false) : ascB l = false := by
  unfold ascB
  rw [List.all_eq_false]
  exact ⟨k, by simpa using h, by rw [hf]; decide⟩
theorem ascR_succ {l : List Pd} {k : Nat} (h : (List.range k).all (ascAt l) = true) (hf : ascAt l k = true) : (List.range (k + 1)).all (ascAt l) = true := by
  rw [List.range_succ, List.all_append, h]; simp [hf]
theorem ascAt_zero {l : List Pd} (h : 0 < l.length) : ascAt l 0 = (decide ((0 : Int) ≤ l[0].fm) && decide (l[0].fm < 12622780800)) := by
  unfold ascAt; rw [dif_pos h, dif_neg (by omega), Bool.and_true]
theorem ascAt_succ {l : List Pd} {k : Nat} (h : k + 1 < l.length) : ascAt l (k + 1) = (decide ((0 : Int) ≤ l[k + 1].fm) && decide (l[k + 1].fm < 12622780800) && !(nextBad l[k] l[k + 1])) := by
  unfold ascAt; rw [dif_pos h, dif_pos (by omega)]; rfl

end Go.Proofs.YtngippiilgdnoaaGreat

namespace Go.Proofs.YtngippiilgdnoaaGreat
open Go.RowKit

/-- Six cells of a block that may be written. -/
def SixAt (w : World) (B : Nat) (c0 c1 c2 c3 c4 c5 : Value) : Prop :=
  (w.cell? ⟨B, 0, none⟩ = some c0 ∧ w.cell? ⟨B, 1, none⟩ = some c1 ∧ w.cell? ⟨B, 2, none⟩ = some c2 ∧ w.cell? ⟨B, 3, none⟩ = some c3 ∧ w.cell? ⟨B, 4, none⟩ = some c4 ∧ w.cell? ⟨B, 5, none⟩ = some c5) ∧
    w.frozen? ⟨B, 0, none⟩ = false ∧ w.frozen? ⟨B, 1, none⟩ = false ∧ w.frozen? ⟨B, 2, none⟩ = false ∧ w.frozen? ⟨B, 3, none⟩ = false ∧ w.frozen? ⟨B, 4, none⟩ = false ∧ w.frozen? ⟨B, 5, none⟩ = false

/-- The best version so far lies in a block. -/
def BestAt (w wr : World) (B : Nat) (has : Value) (o : Option Pd) : Prop :=
  match o with
  | none => has = .bool false ∧ SixAt wr B (.string ⟨#[]⟩) (.int .i64 0) (.int .i64 0) (.string ⟨#[]⟩) (.bool false) (.slice none 0 0)
  | some p => has = .bool true ∧ ∃ bv, BdsAt w bv p.bs ∧ SixAt wr B (.string p.nm) (.int .i64 p.fm) (.int .i64 p.fe) (.string p.ct) (.bool p.pro) bv

theorem BestAt.six {w wr : World} {B : Nat} {has : Value} {o : Option Pd} (h : BestAt w wr B has o) : ∃ c0 c1 c2 c3 c4 c5, SixAt wr B c0 c1 c2 c3 c4 c5 ∧ ∃ b, has = .bool b := by
  cases o with
  | none => exact ⟨_, _, _, _, _, _, h.2, _, h.1⟩
  | some p => obtain ⟨h1, bv, -, h2⟩ := h; exact ⟨_, _, _, _, _, _, h2, _, h1⟩

theorem best_snoc (l : List Pd) (s : ByteArray) (t : Int) (k : Nat) (h : k < l.length) : atL (l.take (k + 1)) s t = if keepAt s t l[k] = true then some l[k] else atL (l.take k) s t := by
  unfold atL
  rw [List.take_succ_eq_append_getElem h, List.filter_append, List.filter_cons, List.filter_nil]
  cases keepAt s t l[k]
  · simp
  · simp

def RatTo (w : World) (o : Option Pd) (e : Ending) (w' : World) : Prop := match o with | none => AtNo w e w' | some p => AtYes w p e w'

set_option linter.unusedSimpArgs false in
set_option maxRecDepth 100000 in
set_option maxHeartbeats 3200000 in
theorem rat_calls (v : Value) (l : List Pd) (s : ByteArray) (t : Int) (w : World) (h : PdsAt w v l) :
    Calls Tryz.prog 32 #[v, .string s, .int .i64 t] w (RatTo w (atL l s t)) := by
  have hh := h
  obtain ⟨av, cap, rfl, hlc, hm, -⟩ := h
  have hm := hm.1
  unfold maxLen at hm
  go_enter Tryz.func32, Tryz.ntmps32
  go_wp2_with fail
  go_loopw [9, 10] (fun has i wr => ∃ k : Nat, k ≤ l.length ∧ i = .int .i64 k ∧ BestAt w wr (w.heap.size + 1) has (atL (l.take k) s t) ∧ SixAt wr w.heap.size (.string ⟨#[]⟩) (.int .i64 0) (.int .i64 0) (.string ⟨#[]⟩) (.bool false) (.slice none 0 0) ∧ Below w.heap.size w wr) (fun _ i _ => l.length - (intOf i).toNat)
  case atStart =>
    refine ⟨0, Nat.zero_le _, rfl, ⟨rfl, ?_⟩, ?_, by go_grown⟩
    · exact ⟨⟨by simp [go_sem], by simp [go_sem], by simp [go_sem], by simp [go_sem], by simp [go_sem], by simp [go_sem]⟩, by simp [go_sem], by simp [go_sem], by simp [go_sem], by simp [go_sem], by simp [go_sem], by simp [go_sem]⟩
    · exact ⟨⟨by simp [go_sem], by simp [go_sem], by simp [go_sem], by simp [go_sem], by simp [go_sem], by simp [go_sem]⟩, by simp [go_sem], by simp [go_sem], by simp [go_sem], by simp [go_sem], by simp [go_sem], by simp [go_sem]⟩
  case round =>
    obtain ⟨k, hk, rfl, hbest, h6, hb⟩ := hrel
    by_cases hlt : k < l.length
    · obtain ⟨av2, cap2, e2, -, -, hx⟩ := hh.below hb
      cases e2
      obtain ⟨b, o, rfl, hB, hx⟩ := hx (by rintro rfl; cases hlt)
      obtain ⟨⟨c0, s0⟩, c1, c2, ⟨c3, s3⟩, c4, bv, c5, hz⟩ := hx k hlt
      have hzw : ∃ bv2, wr.cell? ⟨b, o + k * 6 + 5, none⟩ = some bv2 ∧ BdsAt w bv2 l[k].bs := by
        obtain ⟨av3, cap3, e3, -, -, hy⟩ := hh
        cases e3
        obtain ⟨b', o', e4, hB', hy⟩ := hy (by rintro rfl; cases hlt)
        cases e4
        obtain ⟨-, -, -, -, -, bv2, g5, hz2⟩ := hy k hlt
        exact ⟨bv2, (hb.cell (p := ⟨b, o + k * 6 + 5, none⟩) hB').trans g5, hz2⟩
      obtain ⟨bv2, g5, hz2⟩ := hzw
      have hst := best_snoc l s t k hlt
      have hk0 : (0 : Int) ≤ (k : Int) := Int.natCast_nonneg _
      have hk1 : (k : Int) < (l.length : Int) := by omega
      obtain ⟨o0, o1, o2, o3, o4, o5, hsix, hbv, rfl⟩ := hbest.six
      have hBne : b ≠ w.heap.size + 1 ∧ b ≠ w.heap.size := by
        obtain ⟨av3, cap3, e3, -, -, hy⟩ := hh
        cases e3
        obtain ⟨b', o', e4, hB', hy⟩ := hy (by rintro rfl; cases hlt)
        cases e4
        exact ⟨by omega, by omega⟩
      have Hbest := Lib.hid hbest
      have H6 := Lib.hid h6
      have Hz := Lib.hid hz2
      have Hst := Lib.hid hst
      clear hx hz c5 hbest h6 hz2 hst bv
      generalize l[k] = x at *
      obtain ⟨nm, fm, fe, ct, pro, bs⟩ := x
      dsimp only at *
      obtain ⟨az, cz, rfl, -, -, -⟩ := Hz.out
      cases hE : (nm.toList == s.toList) with
      | false =>
        have hE2 : (nm.data.toList == s.data.toList) = false := by have h := hE; rw [Lib.toList_data, Lib.toList_data] at h; exact h
        have HR := Lib.hid (show BestAt w wr (w.heap.size + 1) (.bool hbv) (atL (l.take (k + 1)) s t) by rw [Hst.out, if_neg (by simp [keepAt, eqS, hE])]; exact Hbest.out)
        go_wp2
        exact ⟨⟨k + 1, by omega, by go_num, HR.out, H6.out, hb⟩, by simp [intOf]; omega⟩
      | true =>
        have hE2 : (nm.data.toList == s.data.toList) = true := by have h := hE; rw [Lib.toList_data, Lib.toList_data] at h; exact h
        by_cases hF : fm ≤ t
        · have hFd : decide (fm ≤ t) = true := decide_eq_true hF
          have HK := Lib.hid (show keepAt s t ⟨nm, fm, fe, ct, pro, bs⟩ = true by simp [keepAt, eqS, hE, hF])
          obtain ⟨⟨q0, q1, q2, q3, q4, q5⟩, f0, f1, f2, f3, f4, f5⟩ := hsix
          have hbs := hb.size
          go_wp2
          obtain ⟨⟨y0, y1, y2, y3, y4, y5⟩, z0, z1, z2, z3, z4, z5⟩ := H6.out
          refine ⟨⟨k + 1, by omega, by go_num, ?_, ?_, by go_grown⟩, by simp [intOf]; omega⟩
          · rw [Hst.out, if_pos HK.out]
            exact ⟨rfl, _, Hz.out, ⟨by simp [go_sem, q0, q1, q2, q3, q4, q5], by simp [go_sem, q0, q1, q2, q3, q4, q5], by simp [go_sem, q0, q1, q2, q3, q4, q5], by simp [go_sem, q0, q1, q2, q3, q4, q5], by simp [go_sem, q0, q1, q2, q3, q4, q5], by simp [go_sem, q0, q1, q2, q3, q4, q5]⟩, by simp [go_sem, f0], by simp [go_sem, f1], by simp [go_sem, f2], by simp [go_sem, f3], by simp [go_sem, f4], by simp [go_sem, f5]⟩
          · exact ⟨⟨by simp [go_sem, y0], by simp [go_sem, y1], by simp [go_sem, y2], by simp [go_sem, y3], by simp [go_sem, y4], by simp [go_sem, y5]⟩, by simp [go_sem, z0], by simp [go_sem, z1], by simp [go_sem, z2], by simp [go_sem, z3], by simp [go_sem, z4], by simp [go_sem, z5]⟩
        · have hFd : decide (fm ≤ t) = false := decide_eq_false hF
          have HR := Lib.hid (show BestAt w wr (w.heap.size + 1) (.bool hbv) (atL (l.take (k + 1)) s t) by rw [Hst.out, if_neg (by simp [keepAt, hF])]; exact Hbest.out)
          go_wp2
          exact ⟨⟨k + 1, by omega, by go_num, HR.out, H6.out, hb⟩, by simp [intOf]; omega⟩
    · have e : l.take k = l := List.take_of_length_le (by omega)
      rw [e] at hbest
      have hbs := hb.size
      obtain ⟨⟨y0, y1, y2, y3, y4, y5⟩, z0, z1, z2, z3, z4, z5⟩ := h6
      generalize atL l s t = best at *
      clear e hh
      cases best with
      | none =>
        obtain ⟨rfl, ⟨q0, q1, q2, q3, q4, q5⟩, f0, f1, f2, f3, f4, f5⟩ := hbest
        go_wp2
        exact bodyPost_ret (v := .tuple #[.agg #[.string ⟨#[]⟩, .int .i64 0, .int .i64 0, .string ⟨#[]⟩, .bool false, .slice none 0 0], .bool false]) (by simp [results, Tryz.results32, go_sem, y0, y1, y2, y3, y4, y5]) rfl ⟨rfl, by go_grown⟩
      | some p =>
        obtain ⟨rfl, bv, hz, ⟨q0, q1, q2, q3, q4, q5⟩, f0, f1, f2, f3, f4, f5⟩ := hbest
        have hz' := Lib.hid hz
        obtain ⟨az, cz, rfl, -, -, -⟩ := hz
        go_wp2
        refine bodyPost_ret (v := .tuple #[.agg #[.string p.nm, .int .i64 p.fm, .int .i64 p.fe, .string p.ct, .bool p.pro, .slice az p.bs.length cz], .bool true]) (by simp [results, Tryz.results32, go_sem, y0, y1, y2, y3, y4, y5]) rfl ⟨.slice az p.bs.length cz, rfl, ?_, ?_⟩
        · exact hz'.out.below (by go_grown)
        · go_grown
end Go.Proofs.YtngippiilgdnoaaGreat
