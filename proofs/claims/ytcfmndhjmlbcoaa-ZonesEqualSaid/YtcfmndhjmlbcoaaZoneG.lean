/-
  The walks of zones.Check, longest, Find.
-/
import Derived.Test.YtcfmndhjmlbcoaaZoneF
namespace Go.Proofs.Ytcfmndhjmlbcoaa
open Go.RowKit Go.Maps

theorem zcheck_calls (v : Value) (l : List Zn) (w : World) (h : ZnsAt w v l) : Calls Try.prog 30 #[v] w (IntTo (checkZ l) w) := by
  have Hi := Lib.hid (index_calls v l w h)
  obtain ⟨av, cap, rfl, -, -, -⟩ := h
  go_enter Try.func30, Try.ntmps30
  go_wp2_with fail
  refine Hi.out.mono ?_
  rintro e w2 ⟨m, rfl, hb, -, -⟩
  go_wp2
  go_ret
  exact ⟨rfl, hb⟩

/-- The value at the longest beginning of a text, of at most n bytes, that is in a map. -/
def longP (L : List (ByteArray × ByteArray)) (s : ByteArray) : Nat → ByteArray × Bool
  | 0 => (ByteArray.empty, false)
  | n + 1 => if L.any (fun x => sameS x.1 (s.extract 0 (n + 1))) = true then (valP L (s.extract 0 (n + 1)), true) else longP L s n

set_option maxRecDepth 100000 in
theorem longest_calls (b : Nat) (L : List (ByteArray × ByteArray)) (s : ByteArray) (n : Nat) (w : World) (h : OwnP w b L) (hs : s.size ≤ maxLen) (hn : n ≤ s.size) :
    Calls Try.prog 65 #[.map (some b), .string s, .int .i64 n] w fun e w' => e = .returned (.tuple #[.string (longP L s n).1, .bool (longP L s n).2]) ∧ w = w' := by
  have hsl := hs
  unfold maxLen at hsl
  go_enter Try.func65, Try.ntmps65
  go_wp2_with fail
  go_loop [2] (fun x => ∃ k : Nat, k ≤ n ∧ x = .int .i64 k ∧ longP L s n = longP L s k) (fun x => (intOf x).toNat)
  case atStart => exact ⟨n, Nat.le_refl _, rfl, rfl⟩
  case round =>
    obtain ⟨k, hk, rfl, hn⟩ := hrel
    have Hn := Lib.hid hn
    clear hn
    cases k with
    | zero =>
      have HE := Lib.hid (Hn.out.trans rfl)
      go_wp2
      go_ret2
      exact ⟨by rw [HE.out]; rfl, rfl⟩
    | succ k =>
      have hkp : (0 : Int) < ((k + 1 : Nat) : Int) := by omega
      have HS := Lib.hid (show longP L s (k + 1) = if L.any (fun x => sameS x.1 (s.extract 0 (k + 1))) = true then (valP L (s.extract 0 (k + 1)), true) else longP L s k from rfl)
      have hq : (s.extract 0 (k + 1)).size ≤ maxLen := by rw [ByteArray.size_extract]; omega
      obtain ⟨vs, hvs⟩ : ∃ vs, valP L (s.extract 0 (k + 1)) = vs := ⟨_, rfl⟩
      cases ha : L.any (fun x => sameS x.1 (s.extract 0 (k + 1))) with
      | true =>
        have HE := Lib.hid (show longP L s n = (vs, true) by rw [Hn.out, HS.out, if_pos ha, hvs])
        go_wp2_with (at_lookup; refine wpList_lookup_pairs _ rfl _ _ rfl b _ rfl h _ vs true rfl hq hvs ha ?_)
        go_ret2
        exact ⟨by rw [HE.out]; rfl, rfl⟩
      | false =>
        have HE := Lib.hid (show longP L s n = longP L s k by rw [Hn.out, HS.out, if_neg (by rw [ha]; decide)])
        go_wp2_with (at_lookup; refine wpList_lookup_pairs _ rfl _ _ rfl b _ rfl h _ vs false rfl hq hvs ha ?_)
        exact ⟨⟨k, by omega, by go_num, HE.out⟩, by simp [intOf]⟩

/-- The zone of a text, and whether there is one. -/
def findZ (l : List Zn) (s : ByteArray) : ByteArray × Bool := if checkZ l ≠ 0 then (ByteArray.empty, false) else if isNum s = false then (ByteArray.empty, false) else longP (prs l) s s.size

/-- A text and a truth. -/
def FoundTo (r : ByteArray × Bool) (w : World) (e : Ending) (w' : World) : Prop := e = .returned (.tuple #[.string r.1, .bool r.2]) ∧ Below w.heap.size w w'

theorem zfind_calls (v : Value) (l : List Zn) (s : ByteArray) (w : World) (h : ZnsAt w v l) (hs : s.size ≤ maxLen) : Calls Try.prog 35 #[v, .string s] w (FoundTo (findZ l s) w) := by
  have Hi := Lib.hid (index_calls v l w h)
  have Hv := Lib.hid (fun w1 => dvalid_calls s w1 hs)
  have Hl := Lib.hid (fun w1 b (h : OwnP w1 b (prs l)) => longest_calls b (prs l) s s.size w1 h hs (Nat.le_refl _))
  have HF := Lib.hid (show findZ l s = if checkZ l ≠ 0 then (ByteArray.empty, false) else if isNum s = false then (ByteArray.empty, false) else longP (prs l) s s.size from rfl)
  have hsl := hs
  unfold maxLen at hsl
  obtain ⟨av, cap, rfl, -, -, -⟩ := h
  go_enter Try.func35, Try.ntmps35
  go_wp2_with fail
  refine Hi.out.mono ?_
  rintro e w2 ⟨m, rfl, hb, h1, h2⟩
  generalize checkZ l = c at *
  by_cases hc : c = 0
  · subst hc
    obtain ⟨b, -, rfl, hO⟩ := h2 rfl
    have HF := Lib.hid (HF.out.trans (if_neg (by decide)))
    clear h1 h2
    have Hl := Lib.hid (Hl.out w2 b hO)
    cases hg : isNum s with
    | false =>
      rw [hg] at Hv
      have HF := Lib.hid (HF.out.trans (if_pos hg))
      go_wp2_with fail
      refine (Hv.out w2).mono ?_
      rintro e w3 ⟨rfl, rfl⟩
      go_wp2
      go_ret2
      exact ⟨by rw [HF.out]; rfl, hb⟩
    | true =>
      rw [hg] at Hv
      have HF := Lib.hid (HF.out.trans (if_neg (by rw [hg]; decide)))
      go_wp2_with fail
      refine (Hv.out w2).mono ?_
      rintro e w3 ⟨rfl, rfl⟩
      go_wp2_with fail
      refine Hl.out.mono ?_
      rintro e w3 ⟨rfl, rfl⟩
      go_wp2
      go_ret2
      exact ⟨by rw [HF.out]; rfl, hb⟩
  · have hz : (c != 0) = true := bne_iff_ne.2 hc
    have HF := Lib.hid (HF.out.trans (if_pos hc))
    obtain rfl := h1 hc
    go_wp2
    go_ret2
    exact ⟨by rw [HF.out]; rfl, hb⟩
end Go.Proofs.Ytcfmndhjmlbcoaa
