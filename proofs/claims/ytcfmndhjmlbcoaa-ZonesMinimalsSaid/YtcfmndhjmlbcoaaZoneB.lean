/-
  The walk of the reference's Names: the names one by one, the least first.
-/
import Derived.Test.YtcfmndhjmlbcoaaZoneY
namespace Go.Proofs.Ytcfmndhjmlbcoaa
open Go.RowKit Go.Sort

/-- The least name behind another one. -/
def leastP (last : ByteArray) (K : List ByteArray) : ByteArray := K.foldl (fun a nm => if ltT last nm ∧ (a = ByteArray.empty ∨ ltT nm a) then nm else a) ByteArray.empty
theorem leastP_snoc (last : ByteArray) (K : List ByteArray) (nm : ByteArray) : leastP last (K ++ [nm]) = if ltT last nm ∧ (leastP last K = ByteArray.empty ∨ ltT nm (leastP last K)) then nm else leastP last K := by
  unfold leastP
  rw [List.foldl_append]
  rfl
theorem leastP_inv (last : ByteArray) (K : List ByteArray) (hK : ∀ nm ∈ K, nm ≠ ByteArray.empty) : (leastP last K = ByteArray.empty ∧ ∀ nm ∈ K, ¬ ltT last nm) ∨ (leastP last K ∈ K ∧ ltT last (leastP last K) ∧ ∀ nm ∈ K, ltT last nm → ¬ ltT nm (leastP last K)) := by
  induction K using snocInd with
  | h0 => exact Or.inl ⟨rfl, fun x hx => (by cases hx)⟩
  | h1 K y ih =>
    have ih := ih fun nm h => hK nm (List.mem_append_left _ h)
    have hy := hK y (by simp)
    rw [leastP_snoc]
    by_cases h : ltT last y ∧ (leastP last K = ByteArray.empty ∨ ltT y (leastP last K))
    · rw [if_pos h]
      refine Or.inr ⟨by simp, h.1, fun x hx hl => ?_⟩
      rcases List.mem_append.1 hx with hx | hx
      · rcases ih with ⟨e, h2⟩ | ⟨h2, h3, h4⟩
        · exact absurd hl (h2 x hx)
        · rcases h.2 with h5 | h5
          · exact absurd h5 (hK _ (List.mem_append_left _ h2))
          · exact fun h6 => h4 x hx hl (ltT_trans h6 h5)
      · simp only [List.mem_singleton] at hx
        rw [hx]; exact ltT_irr _
    · rw [if_neg h]
      rcases ih with ⟨e, h2⟩ | ⟨h2, h3, h4⟩
      · refine Or.inl ⟨e, fun x hx => ?_⟩
        rcases List.mem_append.1 hx with hx | hx
        · exact h2 x hx
        · simp only [List.mem_singleton] at hx
          rw [hx]; exact fun hl => h ⟨hl, Or.inl e⟩
      · refine Or.inr ⟨List.mem_append_left _ h2, h3, fun x hx hl => ?_⟩
        rcases List.mem_append.1 hx with hx | hx
        · exact h4 x hx hl
        · simp only [List.mem_singleton] at hx
          rw [hx] at hl ⊢
          exact fun h5 => h ⟨hl, Or.inr h5⟩
/-- The last of the first names. -/
def lastOf (S : List ByteArray) (k : Nat) : ByteArray := if k = 0 then ByteArray.empty else S.getD (k - 1) ByteArray.empty
theorem getD_lt {S : List ByteArray} {d : ByteArray} (k : Nat) (h : k < S.length) : S.getD k d = S[k] := by simp [List.getD, h]
theorem lt_empty {a : ByteArray} (h : a ≠ ByteArray.empty) : ltT ByteArray.empty a := by
  unfold ltT
  cases h2 : bytesT a with
  | nil => exact absurd (bytesT_inj (h2.trans rfl)) h
  | cons x r => exact List.nil_lt_cons _ _
theorem least_next {S K : List ByteArray} (hp : S.Perm K) (hs : S.Pairwise ltT) (hK : ∀ nm ∈ K, nm ≠ ByteArray.empty) (k : Nat) (hk : k < S.length) : leastP (lastOf S k) K = S[k] := by
  have hlt : ltT (lastOf S k) S[k] := by
    unfold lastOf
    by_cases h : k = 0
    · rw [if_pos h]
      exact lt_empty (hK _ (hp.mem_iff.1 (List.getElem_mem hk)))
    · rw [if_neg h, getD_lt _ (by omega)]
      exact List.pairwise_iff_getElem.1 hs (k - 1) k (by omega) hk (by omega)
  have hmem : S[k] ∈ K := hp.mem_iff.1 (List.getElem_mem hk)
  rcases leastP_inv (lastOf S k) K hK with ⟨-, h⟩ | ⟨h1, h2, h3⟩
  · exact absurd hlt (h _ hmem)
  · obtain ⟨j, hj, e⟩ := List.mem_iff_getElem.1 (hp.mem_iff.2 h1)
    have h4 := h3 _ hmem hlt
    rw [← e] at h2 h4 ⊢
    have hjk : ¬ k < j := fun h => h4 (List.pairwise_iff_getElem.1 hs k j hk hj h)
    have hkj : ¬ j < k := fun h => by
      unfold lastOf at h2
      rw [if_neg (by omega), getD_lt _ (by omega)] at h2
      by_cases hq : j = k - 1
      · subst hq; exact ltT_irr _ h2
      · exact ltT_asymm h2 (List.pairwise_iff_getElem.1 hs j (k - 1) hj (by omega) (by omega))
    have : j = k := by omega
    subst this
    rfl
theorem lastOf_succ {S : List ByteArray} {k : Nat} (hk : k < S.length) : lastOf S (k + 1) = S[k] := by
  unfold lastOf
  rw [if_neg (by omega), Nat.add_sub_cancel, getD_lt _ hk]

def sliceLen : Value → Nat
  | .slice _ n _ => n
  | _ => 0

set_option maxRecDepth 100000 in
set_option maxHeartbeats 6400000 in
theorem rnames_calls (v : Value) (l : List Zn) (w : World) (h : ZnsAt w v l) :
    Calls Try.prog 34 #[v] w (TextsTo (namesZ l) w) := by
  have hh := h
  have HC := Lib.hid (rzcheck_calls v l w h)
  have HN := Lib.hid (show namesZ l = if checkZ l ≠ 0 then [] else sortT (l.map (·.1)) from rfl)
  have HO := Lib.hid (fun h => (@checkZ_ok l h))
  obtain ⟨av, cap, rfl, hlc, hm, -⟩ := h
  have hm := hm.1
  unfold maxLen at hm
  generalize checkZ l = c at *
  by_cases hc : c = 0
  · obtain ⟨hl64, HK, -, hnd⟩ := HO.out hc
    have HG := Lib.hid (HN.out.trans (if_neg (not_not_intro hc)))
    clear HN
    subst hc
    have hne : ∀ nm ∈ l.map (·.1), nm ≠ ByteArray.empty := fun nm hn e => by
      obtain ⟨z, hz, rfl⟩ := List.mem_map.1 hn
      have := isName_pos (HK z hz).1
      rw [e] at this
      exact absurd this (by decide)
    have hsz : ∀ s ∈ sortT (l.map (·.1)), s.size ≤ maxLen := fun s hs => by
      obtain ⟨z, hz, rfl⟩ := List.mem_map.1 ((sortT_perm _).mem_iff.1 hs)
      have h := (HK z hz).1
      unfold isName at h
      rw [Bool.and_eq_true, Bool.and_eq_true, decide_eq_true_eq] at h
      unfold maxLen; omega
    have hsrt : (sortT (l.map (·.1))).Pairwise ltT := List.Pairwise.imp₂ (fun a b (n1 : ¬ ltT b a) (n2 : a ≠ b) => Classical.byContradiction fun n3 => n2 (ltT_tri n3 n1)) (sortT_sorted _) ((sortT_perm _).nodup_iff.2 hnd)
    have hSl : (sortT (l.map (·.1))).length = l.length := by rw [sortT_len, List.length_map]
    have hnext := fun k hk => least_next (sortT_perm (l.map (·.1))) hsrt hne k hk
    generalize hS : sortT (l.map (·.1)) = S at *
    have Hsz := Lib.hid hsz
    have HSl := Lib.hid hSl
    have Hnext := Lib.hid hnext
    clear hS hne hsz hsrt hSl hnext HK HO hnd
    go_enter Try.func34, Try.ntmps34
    go_wp2_with fail
    refine HC.out.mono ?_
    rintro e w1 ⟨rfl, hb1⟩
    go_wp2_with fail
    go_loopw [3, 4] (fun vo la wr => ∃ k : Nat, k ≤ l.length ∧ la = .string (lastOf S k) ∧ wr.ownsRow w.heap.size 9 1 vo k ((S.take k).map Value.string) ∧ Below w.heap.size w wr) (fun vo _ _ => l.length - sliceLen vo)
    case atStart => exact ⟨0, Nat.zero_le _, rfl, ⟨rfl, Or.inl ⟨rfl, rfl⟩⟩, hb1⟩
    case round =>
      obtain ⟨wo, rfl⟩ : ∃ wo : World, wo = wr := ⟨_, rfl⟩
      obtain ⟨k, hk, rfl, hown, hb⟩ := hrel
      obtain ⟨ao, co, rfl, hco, hcm⟩ := own_shape hown
      have Hown := Lib.hid hown
      clear hown
      by_cases hlt : k < l.length
      · have hlt' : (k : Int) < (l.length : Int) := by omega
        have HNx := Lib.hid (Hnext.out k (by rw [HSl.out]; exact hlt))
        have HLs := Lib.hid (lastOf_succ (S := S) (k := k) (by rw [HSl.out]; exact hlt))
        have HTk := Lib.hid (show S.take (k + 1) = S.take k ++ [S[k]'(by rw [HSl.out]; exact hlt)] from List.take_succ_eq_append_getElem _)
        generalize S[k]'(by rw [HSl.out]; exact hlt) = nx at *
        generalize lastOf S k = la at *
        have hB := hh.below hb
        go_wp2_with fail
        go_loop [5, 6] (fun a x => ∃ i : Nat, i ≤ l.length ∧ x = .int .i64 i ∧ a = .string (leastP la ((l.take i).map (·.1)))) (fun _ x => l.length - (intOf x).toNat)
        case atStart => exact ⟨0, Nat.zero_le _, rfl, rfl⟩
        case round =>
          obtain ⟨i, hi, rfl, rfl⟩ := hrel
          by_cases hil : i < l.length
          · have HS := Lib.hid ((congrArg (leastP la) (namesK l i hil)).trans (leastP_snoc la _ _))
            obtain ⟨av2, cap2, e2, -, -, hx⟩ := id hB
            cases e2
            obtain ⟨b, o, rfl, hBb, hx⟩ := hx (by rintro rfl; cases hil)
            obtain ⟨⟨c0, s0⟩, -⟩ := hx i hil
            have hi0 : (0 : Int) ≤ (i : Int) := Int.natCast_nonneg _
            have hi1 : (i : Int) < (l.length : Int) := by omega
            clear hx
            generalize l[i] = y at *
            obtain ⟨nm, ps⟩ := y
            dsimp only at c0 s0 HS
            generalize leastP la ((l.take i).map (·.1)) = A at *
            have hl1 := less_ltT nm la
            have hl2 := less_ltT nm A
            by_cases g1 : ltT la nm
            · have e1 : Op.bytesLess nm.toList la.toList = false := by rw [hl1]; exact decide_eq_false (ltT_asymm g1)
              have e2 : (nm.toList == la.toList) = false := by
                cases h : (nm.toList == la.toList) with
                | false => rfl
                | true => exact absurd g1 ((sameS_iff _ _).1 h ▸ ltT_irr _)
              clear hl1
              by_cases g2 : A = ByteArray.empty
              · have HE := Lib.hid (HS.out.trans (if_pos ⟨g1, Or.inl g2⟩))
                subst g2
                clear hl2 g1
                go_wp2
                exact ⟨⟨i + 1, by omega, by go_num, by rw [HE.out]⟩, by simp [intOf]; omega⟩
              · have e3 : (decide (A = ByteArray.empty)) = false := decide_eq_false g2
                have e4 : (A.toList == ([] : List UInt8)) = false := by
                  cases h : (A.toList == ([] : List UInt8)) with
                  | false => rfl
                  | true =>
                    refine absurd ?_ g2
                    exact (sameS_iff _ _).1 (show sameS _ ByteArray.empty = true by unfold sameS; rw [Lib.toList_data ByteArray.empty]; exact h)
                by_cases g3 : ltT nm A
                · have HE := Lib.hid (HS.out.trans (if_pos ⟨g1, Or.inr g3⟩))
                  rw [decide_eq_true g3] at hl2
                  clear g1 g2 g3
                  go_wp2
                  exact ⟨⟨i + 1, by omega, by go_num, by rw [HE.out]⟩, by simp [intOf]; omega⟩
                · have HE := Lib.hid (HS.out.trans (if_neg (fun h => h.2.elim g2 g3)))
                  rw [decide_eq_false g3] at hl2
                  clear g1 g2 g3
                  go_wp2
                  exact ⟨⟨i + 1, by omega, by go_num, by rw [HE.out]⟩, by simp [intOf]; omega⟩
            · have HE := Lib.hid (HS.out.trans (if_neg (fun h => g1 h.1)))
              clear hl2
              by_cases g2 : ltT nm la
              · rw [decide_eq_true g2] at hl1
                clear g1 g2
                go_wp2
                exact ⟨⟨i + 1, by omega, by go_num, by rw [HE.out]⟩, by simp [intOf]; omega⟩
              · have e2 : (nm.toList == la.toList) = true := (sameS_iff _ _).2 (ltT_tri g2 g1)
                rw [decide_eq_false g2] at hl1
                clear g1 g2
                go_wp2
                exact ⟨⟨i + 1, by omega, by go_num, by rw [HE.out]⟩, by simp [intOf]; omega⟩
          · have HE := Lib.hid (show leastP la ((l.take i).map (·.1)) = nx by rw [List.take_of_length_le (by omega)]; exact HNx.out)
            rw [HE.out]
            have hk64 : k ≤ 64 := by omega
            obtain ⟨i0, hi0, hz0, hz1, hz2⟩ := info_parts Try.stringInfo
            have Hi := Lib.hid (And.intro hi0 (And.intro hz0 (And.intro hz1 hz2)))
            clear hi0 hz0 hz1 hz2
            have hbs := hb.size
            go_wp2_with (at_builtin; refine wpList_append_own _ rfl _ _ 53 rfl w.heap.size 9 i0 _ 1 16 Try.underlying53 Hi.out.1 Hi.out.2.1 Hi.out.2.2.1 Hi.out.2.2.2 rfl (by decide) _ _ _ rfl (Hown.out.alloc _) ⟨wo.heap.size, 0, none⟩ 1 1 [.string nx] rfl rfl (World.news_of_block (cs := #[.string nx]) (t := 9) (fr := (0, 0)) (heap_alloc_new _ _)) ?aq2 ?aq3 ?aq4 ?aq5 ?_)
            case aq2 => simp [Value.oneCell']
            case aq3 => unfold maxLen; omega
            case aq4 => omega
            case aq5 => (try simp); omega
            intro v2 w2 hown2 hgrow _
            have hb2 := (hb.alloc hbs (Obj.cells #[.string nx] 9)).grown hgrow (by simp; omega) (fun g hg => (ownsRow_block Hown.out g hg).1)
            have Hown2 := Lib.hid hown2
            obtain ⟨a2, c2, rfl, -, -⟩ := own_shape hown2
            clear hown2 hgrow
            go_wp2
            refine ⟨⟨k + 1, by omega, by rw [HLs.out], ?_, hb2⟩, by simp [sliceLen]; omega⟩
            rw [HTk.out, List.map_append, List.map_take]
            exact Hown2.out
      · have hkl : k = l.length := by omega
        have hlt' : ¬ (k : Int) < (l.length : Int) := by omega
        have ho := Hown.out
        have HE := Lib.hid (show S.take k = S by rw [hkl, ← HSl.out, List.take_length])
        rw [HE.out] at ho
        have Ho := Lib.hid ho
        have HkS := Lib.hid (show k = S.length by rw [hkl, HSl.out])
        clear ho hkl
        go_wp2
        go_ret
        exact ⟨_, rfl, by rw [HG.out]; exact strsAt_own (by have := Ho.out; rw [HkS.out] at this; rw [HkS.out]; exact this) Hsz.out, hb⟩
  · have hz : (c != 0) = true := bne_iff_ne.2 hc
    have HN := Lib.hid (HN.out.trans (if_pos hc))
    go_enter Try.func34, Try.ntmps34
    go_wp2_with fail
    refine HC.out.mono ?_
    rintro e w1 ⟨rfl, hb1⟩
    go_wp2
    go_ret
    exact texts_nil HN.out hb1
end Go.Proofs.Ytcfmndhjmlbcoaa
