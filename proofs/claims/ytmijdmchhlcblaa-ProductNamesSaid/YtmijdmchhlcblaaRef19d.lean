/-
  The walks of the reference's Names and Fees.
-/
import Derived.Test.YtmijdmchhlcblaaRef19c
import Derived.BigRegion
namespace Go.Proofs.Ytmijdmchhlcblaa
open Go.RowKit

set_option maxRecDepth 100000 in
set_option maxHeartbeats 3200000 in
theorem rnames_calls (v : Value) (l : List Pd) (t : Int) (w : World) (h : PdsAt w v l) (hl : l.length ≤ 4096) :
    Calls Try.prog 26 #[v, .int .i64 t] w (NamesTo w (rnamesL l t)) := by
  have hh := h
  obtain ⟨av, cap, rfl, -, -, -⟩ := h
  go_enter Try.func26, Try.ntmps26
  go_wp2_with fail
  go_loopw [5, 6] (fun v i wr => ∃ (k : Nat) (N : List ByteArray), k ≤ l.length ∧ i = .int .i64 k ∧ wr.ownsRow w.heap.size 9 1 v N.length (N.map Value.string) ∧ (l.take k).foldl (rnameStep t) [] = N ∧ N.length ≤ k ∧ (∀ s ∈ N, s.size ≤ maxLen) ∧ Below w.heap.size w wr) (fun _ i _ => l.length - (intOf i).toNat)
  case atStart => exact ⟨0, [], Nat.zero_le _, rfl, ⟨rfl, Or.inl ⟨rfl, rfl⟩⟩, rfl, Nat.le_refl _, by simp, Below.refl _ _⟩
  case round =>
    obtain ⟨k, N, hk, rfl, hown, hN, hle, hsz, hb⟩ := hrel
    by_cases hlt : k < l.length
    · obtain ⟨av', cap', hv, -, -, hs⟩ := hh.below hb
      cases hv
      obtain ⟨b, o, rfl, hB, hs⟩ := hs (by rintro rfl; cases hlt)
      obtain ⟨⟨c0, s0⟩, c1, -⟩ := hs k hlt
      have hst := rnames_snoc l t k hlt
      rw [hN] at hst
      clear hs
      generalize l[k] = x at *
      obtain ⟨nm, fm, fe, ct, pro, bs⟩ := x
      dsimp only at *
      have hk0 : (0 : Int) ≤ (k : Int) := Int.natCast_nonneg _
      have hk1 : (k : Int) < (l.length : Int) := by omega
      have hbz := hb.size
      obtain ⟨ao, co, rfl, hco, -⟩ := own_shape hown
      have Hhas := Lib.hid (has_calls _ N nm wr (SliceOff.at (strs_own hown hsz) fun _ _ _ hx => hx))
      have Hown := Lib.hid hown
      have Hsz := Lib.hid hsz
      clear hown hsz hN
      by_cases hfm : fm ≤ t
      · have hfd : decide (fm ≤ t) = true := decide_eq_true hfm
        cases hany : N.any (fun a => eqS a nm) with
        | true =>
          have HT := Lib.hid (show (l.take (k + 1)).foldl (rnameStep t) [] = N by rw [hst, rnameStep, if_neg (fun h => by rw [hany] at h; exact absurd h.2 (by decide))])
          rw [hany] at Hhas
          clear hst hany
          go_wp2_with (go_at_call 30; refine Hhas.out.mono ?_; rintro e w' ⟨rfl, rfl⟩)
          exact ⟨⟨k + 1, N, by omega, by go_num, Hown.out, HT.out, by omega, Hsz.out, hb⟩, by simp [intOf]; omega⟩
        | false =>
          have HT := Lib.hid (show (l.take (k + 1)).foldl (rnameStep t) [] = N ++ [nm] by rw [hst, rnameStep, if_pos ⟨hfm, hany⟩])
          rw [hany] at Hhas
          clear hst hany
          obtain ⟨i0, hi, hz0, hz1, hz2⟩ := info_parts Try.stringInfo
          have Hi := Lib.hid (And.intro hi (And.intro hz0 (And.intro hz1 hz2)))
          clear hi hz0 hz1 hz2
          go_wp2_with (first | (go_at_call 30; refine Hhas.out.mono ?_; rintro e w' ⟨rfl, rfl⟩) | (at_builtin; refine wpList_append_own _ rfl _ _ 38 rfl w.heap.size 9 i0 _ 1 16 Try.underlying38 Hi.out.1 Hi.out.2.1 Hi.out.2.2.1 Hi.out.2.2.2 rfl (by decide) _ _ _ rfl (Hown.out.alloc _) ⟨wr.heap.size, 0, none⟩ 1 1 [.string nm] rfl rfl ?c1 ?c2 ?c3 ?c4 ?c5 ?_))
          case c1 => exact World.news_of_block (cs := #[.string nm]) (t := 9) (fr := (0, 0)) (heap_alloc_new _ _)
          case c2 => simp [Value.oneCell']
          case c3 => unfold maxLen; omega
          case c4 => omega
          case c5 => simp; omega
          intro v' w2 hown2 hgrow _
          have hb2 := (hb.alloc hbz (Obj.cells #[.string nm] 9)).grown hgrow (by simp; omega) (fun g hg => (ownsRow_block Hown.out g hg).1)
          have Hown2 := Lib.hid hown2
          clear hown2 hgrow
          go_wp2
          exact ⟨⟨k + 1, N ++ [nm], by omega, by go_num, by rw [List.map_append, List.length_append]; exact Hown2.out, HT.out, by simp only [List.length_append, List.length_cons, List.length_nil]; omega, (fun s hs => by
            rcases List.mem_append.1 hs with hs | hs
            · exact Hsz.out s hs
            · rw [List.mem_singleton.1 hs]; exact s0), hb2⟩, by simp [intOf]; omega⟩
      · have HT := Lib.hid (show (l.take (k + 1)).foldl (rnameStep t) [] = N by rw [hst, rnameStep, if_neg (fun h => hfm h.1)])
        have hfd : decide (fm ≤ t) = false := decide_eq_false hfm
        clear hst
        go_wp2
        exact ⟨⟨k + 1, N, by omega, by go_num, Hown.out, HT.out, by omega, Hsz.out, hb⟩, by simp [intOf]; omega⟩
    · have hall : l.take k = l := List.take_of_length_le (by omega)
      rw [hall] at hN
      have hst := Lib.hid (strs_own hown hsz)
      have HN := Lib.hid hN
      obtain ⟨ao, co, rfl, -, -⟩ := own_shape hown
      clear hown hsz hN
      go_wp2
      go_ret
      exact ⟨_, rfl, by rw [show rnamesL l t = N from HN.out]; exact hst.out.keep (Nat.le_refl _) (fun b h1 h2 => ⟨h1, rfl⟩), hb⟩

set_option maxRecDepth 100000 in
set_option maxHeartbeats 1600000 in
theorem rfees_none (av : Option Addr) (n cap : Nat) (s : ByteArray) (f t : Int) (w : World) (h : ¬ (0 ≤ f ∧ f < t ∧ t ≤ 12622780800)) :
    Calls Try.prog 29 #[.slice av n cap, .string s, .agg #[.int .i64 f, .int .i64 t]] w fun e w' => e = .returned (.slice none 0 0) ∧ Below w.heap.size w w' := by
  by_cases h1 : f < 0
  · have k1 : decide (f < 0) = true := decide_eq_true h1
    clear h
    go_enter Try.func29, Try.ntmps29
    go_wp2
    go_ret
    exact ⟨rfl, by go_grown⟩
  · have k1 : decide (f < 0) = false := decide_eq_false h1
    by_cases h2 : t ≤ f
    · have k2 : decide (t ≤ f) = true := decide_eq_true h2
      clear h
      go_enter Try.func29, Try.ntmps29
      go_wp2
      go_ret
      exact ⟨rfl, by go_grown⟩
    · have k2 : decide (t ≤ f) = false := decide_eq_false h2
      have k3 : decide (12622780800 < t) = true := decide_eq_true (by omega)
      clear h
      go_enter Try.func29, Try.ntmps29
      go_wp2
      go_ret
      exact ⟨rfl, by go_grown⟩

theorem rfees_le (l : List Pd) (s : ByteArray) (f t : Int) (k : Nat) : (rfeesUpto l s f t k).length ≤ k := by
  induction k with
  | zero => exact Nat.le_refl _
  | succ k ih =>
    rw [rfeesUpto, List.length_append]
    by_cases h : k < l.length
    · rw [dif_pos h, rfeeAt_one]
      have aux : ∀ (c : Prop) [Decidable c] (x : Int × Int × Int), (if c then [x] else []).length ≤ 1 := by
        intro c _ x
        split <;> simp
      by_cases hc : eqS l[k].nm s = true
      · rw [if_pos hc]
        have : (feeOne l[k] (nextOf s (l.drop (k + 1))) f t).length ≤ 1 := aux _ _
        omega
      · rw [if_neg hc]; simp; omega
    · rw [dif_neg h]; simp; omega
end Go.Proofs.Ytmijdmchhlcblaa
