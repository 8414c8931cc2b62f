/-
  The program's sweep answers canonically: the law of its invariant.
-/
import Derived.Test.YtimclpgkdplnhaaSweep04
namespace Go.Proofs.Ytimclpgkdplnhaa
open Go.RowKit

/-- Before the change of number k (all instants, when there is none). -/
def Bef (S : List (Int × Int × Int)) (k : Nat) (x : Int) : Prop := k < S.length → x < (S.getD k (0, 0, 0)).1
/-- What the sweep holds ahead of the change of number k. -/
def SwInv (S : List (Int × Int × Int)) (P : Int → Bool) (k : Nat) (ins : Bool) (O : List (Int × Int)) : Prop :=
  (ins = false ∧ Can O ∧ (∀ q ∈ O, Bef S k q.2) ∧ ∀ x, Bef S k x → (MemP O x ↔ P x = true)) ∨
  (ins = true ∧ ∃ M s, O = M ++ [(s, 0)] ∧ Can M ∧ (∀ q ∈ M, q.2 < s) ∧ Bef S k s ∧ ∀ x, Bef S k x → ((MemP M x ∨ s ≤ x) ↔ P x = true))

theorem mem_before {M : List (Int × Int)} {s x : Int} (h : ∀ q ∈ M, q.2 < s) (hx : MemP M x) : x < s := by
  obtain ⟨q, hq, -, h2⟩ := hx
  have := h q hq
  omega

theorem sw_law (is : Bool → Bool → Bool) (S : List (Int × Int × Int)) (A B : Int → Bool) (h00 : is false false = false) (hl : ∀ c ∈ S, c.2.1 = 0 ∨ c.2.1 = 1) (hs : S.Pairwise (fun c d => c.1 ≤ d.1))
    (hA : ∀ x, 0 < cnt 0 x S ↔ A x = true) (hB : ∀ x, 0 < cnt 1 x S ↔ B x = true) :
    ∀ k, k ≤ S.length → SwInv S (fun x => is (A x) (B x)) k (swUpto is S k).2.1 (swUpto is S k).2.2 := by
  have dA : ∀ x, A x = decide (0 < cnt 0 x S) := fun x => by rw [Bool.eq_iff_iff, decide_eq_true_eq, hA]
  have dB : ∀ x, B x = decide (0 < cnt 1 x S) := fun x => by rw [Bool.eq_iff_iff, decide_eq_true_eq, hB]
  have at_ : ∀ i (h : i < S.length), S.getD i (0, 0, 0) = S[i] := fun i h => by simp [List.getD, h]
  have ord : ∀ i j (hij : i ≤ j) (hj : j < S.length), (S.getD i (0, 0, 0)).1 ≤ (S.getD j (0, 0, 0)).1 := by
    intro i j hij hj
    rcases Nat.lt_or_eq_of_le hij with h | h
    · rw [at_ i (by omega), at_ j hj]
      exact List.pairwise_iff_getElem.1 hs i j (by omega) hj h
    · subst h; exact Int.le_refl _
  intro k
  induction k with
  | zero =>
    intro _
    refine Or.inl ⟨rfl, trivial, fun q hq => (by cases hq), fun x hx => ⟨fun h => absurd h (memP_nil x), fun h => ?_⟩⟩
    exfalso
    have late : ∀ c ∈ S, x < c.1 := by
      intro c hc
      obtain ⟨i, hi, rfl⟩ := List.mem_iff_getElem.1 hc
      have h1 := hx (by omega)
      have h2 := ord 0 i (Nat.zero_le i) hi
      rw [at_ i hi] at h2
      omega
    have h' : is (A x) (B x) = true := h
    rw [dA, dB, cnt_late 0 x S late, cnt_late 1 x S late] at h'
    rw [show decide ((0 : Int) < 0) = false from rfl, h00] at h'
    cases h'
  | succ k ih =>
    intro hk
    have hk' : k < S.length := hk
    have I := ih (by omega)
    have ho := sw_open is S hl (k + 1) hk
    have hb1 : bump (swUpto is S k).1 (S.getD k (0, 0, 0)) = (totC 0 (S.take (k + 1)), totC 1 (S.take (k + 1))) := by
      rw [← ho]
      show _ = (swStep is S k (swUpto is S k)).1
      unfold swStep
      simp only []
      split <;> rfl
    show SwInv S _ (k + 1) (swStep is S k (swUpto is S k)).2.1 (swStep is S k (swUpto is S k)).2.2
    unfold swStep
    simp only []
    by_cases hc : k + 1 < S.length ∧ (S.getD (k + 1) (0, 0, 0)).1 = (S.getD k (0, 0, 0)).1
    · rw [if_pos hc]
      have hbef : ∀ x, Bef S (k + 1) x ↔ Bef S k x := by
        intro x
        unfold Bef
        rw [hc.2]
        exact ⟨fun h _ => h hc.1, fun h _ => h hk'⟩
      unfold SwInv at I ⊢
      simp only [hbef]
      exact I
    · rw [if_neg hc, hb1]
      generalize ht : (S.getD k (0, 0, 0)).1 = t at hc ⊢
      -- the next change, if any, comes later
      have later : ∀ x, Bef S k x → Bef S (k + 1) x := by
        intro x hx hk2
        have h1 := hx hk'
        have h2 := ord k (k + 1) (by omega) hk2
        omega
      have tbef : Bef S (k + 1) t := by
        intro hk2
        have h2 := ord k (k + 1) (by omega) hk2
        have : ¬ (S.getD (k + 1) (0, 0, 0)).1 = t := fun e => hc ⟨hk2, e⟩
        omega
      have kt : ∀ x, Bef S k x ↔ x < t := fun x => ⟨fun h => by have := h hk'; omega, fun h _ => by omega⟩
      have now : ∀ x, t ≤ x → Bef S (k + 1) x → is (A x) (B x) = is (decide (0 < totC 0 (S.take (k + 1)))) (decide (0 < totC 1 (S.take (k + 1)))) := by
        intro x h1 h2
        have e : ∀ j, cnt j x S = totC j (S.take (k + 1)) := by
          intro j
          have es : cnt j x S = cnt j x (S.take (k + 1) ++ S.drop (k + 1)) := by rw [List.take_append_drop]
          rw [es, cnt_append, cnt_late j x (S.drop (k + 1)), cnt_tot j x (S.take (k + 1)), Int.add_zero]
          · intro c hc2
            obtain ⟨i, hi, rfl⟩ := List.mem_iff_getElem.1 hc2
            rw [List.length_take] at hi
            rw [List.getElem_take]
            have h3 := ord i k (by omega) hk'
            rw [at_ i (by omega)] at h3
            omega
          · intro c hc2
            obtain ⟨i, hi, rfl⟩ := List.mem_iff_getElem.1 hc2
            rw [List.length_drop] at hi
            rw [List.getElem_drop]
            have h3 := ord (k + 1) (k + 1 + i) (by omega) (by omega)
            rw [at_ (k + 1 + i) (by omega)] at h3
            have h4 := h2 (by omega)
            omega
        rw [dA, dB, e, e]
      generalize hn : is (decide (0 < totC 0 (S.take (k + 1)))) (decide (0 < totC 1 (S.take (k + 1)))) = n at now ⊢
      generalize (swUpto is S k).2.1 = ins at I ⊢
      generalize (swUpto is S k).2.2 = O at I ⊢
      rcases I with ⟨i0, i1, i2, i3⟩ | ⟨i0, M, s, i1, i2, i3, i4, i5⟩
      · subst i0
        cases n with
        | true =>
          have eo : swOut O false true t = O ++ [(t, 0)] := if_pos ⟨rfl, rfl⟩
          rw [eo]
          refine Or.inr ⟨rfl, O, t, rfl, i1, fun q hq => (kt _).1 (i2 q hq), tbef, fun x hx => ?_⟩
          rcases Int.lt_or_le x t with h | h
          · rw [← i3 x ((kt x).2 h)]
            exact ⟨fun g => g.elim id fun g => by omega, Or.inl⟩
          · exact ⟨fun _ => now x h hx, fun _ => Or.inr h⟩
        | false =>
          have eo : swOut O false false t = O := by unfold swOut; rw [if_neg (by simp), if_neg (by simp)]
          rw [eo]
          refine Or.inl ⟨rfl, i1, fun q hq => later _ (i2 q hq), fun x hx => ?_⟩
          rcases Int.lt_or_le x t with h | h
          · exact i3 x ((kt x).2 h)
          · refine ⟨fun g => ?_, fun g => ?_⟩
            · have := mem_before (fun q hq => (kt _).1 (i2 q hq)) g; omega
            · have := now x h hx
              exact absurd (this.symm.trans g) (by decide)
      · subst i0
        subst i1
        have hst : s < t := (kt s).1 i4
        cases n with
        | true =>
          have eo : swOut (M ++ [(s, 0)]) true true t = M ++ [(s, 0)] := by unfold swOut; rw [if_neg (by simp), if_neg (by simp)]
          rw [eo]
          refine Or.inr ⟨rfl, M, s, rfl, i2, i3, later s i4, fun x hx => ?_⟩
          rcases Int.lt_or_le x t with h | h
          · exact i5 x ((kt x).2 h)
          · exact ⟨fun _ => now x h hx, fun _ => Or.inr (by omega)⟩
        | false =>
          have eo : swOut (M ++ [(s, 0)]) true false t = M ++ [(s, t)] := by
            unfold swOut
            rw [if_neg (by simp), if_pos ⟨rfl, rfl⟩, List.getLast?_concat, List.dropLast_concat]
            rfl
          rw [eo]
          refine Or.inl ⟨rfl, (can_snoc M (s, t)).2 ⟨i2, hst, i3⟩, fun q hq => ?_, fun x hx => ?_⟩
          · rcases List.mem_append.1 hq with hq | hq
            · have := i3 q hq
              exact later _ ((kt _).2 (by omega))
            · rw [List.mem_singleton.1 hq]; exact tbef
          · rw [memP_snoc]
            show MemP M x ∨ (s ≤ x ∧ x < t) ↔ _
            rcases Int.lt_or_le x t with h | h
            · rw [← i5 x ((kt x).2 h)]
              exact or_congr Iff.rfl (and_iff_left h)
            · refine ⟨fun g => ?_, fun g => ?_⟩
              · rcases g with g | g
                · have := mem_before i3 g; omega
                · omega
              · have := now x h hx
                exact absurd (this.symm.trans g) (by decide)

theorem inL_far (ps : List (Int × Int)) (x : Int) (h : 12622780800 ≤ x) : inL ps x = false := by
  rw [Bool.eq_false_iff]
  intro g
  obtain ⟨p, -, hv, -, h2⟩ := (inL_iff ps x).1 g
  have := (validB_iff _ _).1 hv
  omega

/-- Whatever order of equal instants the sort takes, the sweep answers canonically, with the instants of the condition. -/
theorem swept_law (is : Bool → Bool → Bool) (S : List (Int × Int × Int)) (a b : List (Int × Int)) (h00 : is false false = false) (hp : S.Perm (chg 0 a ++ chg 1 b)) (hs : S.Pairwise (fun c d => c.1 ≤ d.1)) :
    (swUpto is S S.length).2.1 = false ∧ Can (swUpto is S S.length).2.2 ∧ ∀ x, MemP (swUpto is S S.length).2.2 x ↔ is (inL a x) (inL b x) = true := by
  have hchg : ∀ j ps, ∀ c ∈ chg j ps, c.2.1 = j := by
    intro j ps c hc
    obtain ⟨p, -, h⟩ := List.mem_flatMap.1 hc
    split at h
    · rcases List.mem_cons.1 h with rfl | h
      · rfl
      · rw [List.mem_singleton.1 h]
    · cases h
  have hl : ∀ c ∈ S, c.2.1 = 0 ∨ c.2.1 = 1 := by
    intro c hc
    rcases List.mem_append.1 (hp.mem_iff.1 hc) with h | h
    · exact Or.inl (hchg _ _ c h)
    · exact Or.inr (hchg _ _ c h)
  have hA : ∀ x, 0 < cnt 0 x S ↔ inL a x = true := by
    intro x
    rw [cnt_perm 0 x hp, cnt_append, cnt_other 0 1 x (by decide), Int.add_zero]
    exact (cnt_own 0 x a).2
  have hB : ∀ x, 0 < cnt 1 x S ↔ inL b x = true := by
    intro x
    rw [cnt_perm 1 x hp, cnt_append, cnt_other 1 0 x (by decide), Int.zero_add]
    exact (cnt_own 1 x b).2
  have I := sw_law is S (inL a) (inL b) h00 hl hs hA hB S.length (Nat.le_refl _)
  have all : ∀ x, Bef S S.length x := fun x h => absurd h (Nat.lt_irrefl _)
  rcases I with ⟨i0, i1, -, i3⟩ | ⟨i0, M, s, i1, i2, i3, -, i5⟩
  · exact ⟨i0, i1, fun x => i3 x (all x)⟩
  · exfalso
    have h1 := (i5 (max s 12622780800) (all _)).1 (Or.inr (Int.le_max_left _ _))
    have h2 : is (inL a (max s 12622780800)) (inL b (max s 12622780800)) = true := h1
    rw [inL_far a _ (Int.le_max_right _ _), inL_far b _ (Int.le_max_right _ _), h00] at h2
    cases h2

/-- So the program's set is the reference's. -/
theorem swept_choose (is : Bool → Bool → Bool) (S : List (Int × Int × Int)) (a b : List (Int × Int)) (ig inb : Bool) (h00 : is false false = false) (hp : S.Perm (chg 0 a ++ chg 1 b)) (hs : S.Pairwise (fun c d => c.1 ≤ d.1))
    (hi : ∀ x y, is x y = (x && (ig || (y == inb)))) : (swUpto is S S.length).2.2 = chooseL a b ig inb := by
  obtain ⟨-, h1, h2⟩ := swept_law is S a b h00 hp hs
  obtain ⟨c1, c2⟩ := choose_law a b ig inb
  refine can_unique _ _ h1 c1 fun x => ?_
  rw [h2, c2, hi]
  exact Iff.rfl
end Go.Proofs.Ytimclpgkdplnhaa
