/-
  The walk of the reference's Texts.
-/
import Derived.Test.YtcfmndhjmlbcoaaZoneL
namespace Go.Proofs.Ytcfmndhjmlbcoaa
open Go.RowKit Go.Maps

/-- Are two lists of texts alike? -/
def alikeT (a b : List ByteArray) : Bool := decide (a.length = b.length) && (a.zip b).all fun x => sameS x.1 x.2
theorem alikeT_iff (a b : List ByteArray) : alikeT a b = true ↔ a = b := by
  induction a generalizing b with
  | nil => cases b <;> simp [alikeT]
  | cons x r ih =>
    cases b with
    | nil => simp [alikeT]
    | cons y q =>
      have := ih q
      unfold alikeT at this ⊢
      rw [Bool.and_eq_true, decide_eq_true_eq] at this ⊢
      rw [List.zip_cons_cons, List.all_cons, Bool.and_eq_true, List.cons.injEq, ← this, sameS_iff]
      simp only [List.length_cons, Nat.succ_inj]
      constructor
      · rintro ⟨h1, h2, h3⟩; exact ⟨h2, h1, h3⟩
      · rintro ⟨h2, h1, h3⟩; exact ⟨h1, h2, h3⟩

set_option maxRecDepth 100000 in
set_option maxHeartbeats 3200000 in
theorem rtexts_calls (va vb : Value) (L M : List ByteArray) (w : World) (ha : StrsAt w va L) (hb0 : StrsAt w vb M) :
    Calls Try.prog 32 #[va, vb] w (BoolTo (alikeT L M) w) := by
  have hA := ha
  have hB := hb0
  obtain ⟨aa, ca, rfl, hla, hma, -⟩ := ha
  obtain ⟨ab, cb, rfl, hlb, hmb, -⟩ := hb0
  have hma := hma.1
  have hmb := hmb.1
  unfold maxLen at hma hmb
  by_cases hl : L.length = M.length
  · have he : ((L.length : Int) != (M.length : Int)) = false := bne_eq_false_iff_eq.2 (by omega)
    have HAl := Lib.hid (show alikeT L M = (L.zip M).all fun x => sameS x.1 x.2 by unfold alikeT; rw [decide_eq_true hl]; rfl)
    have hzl : (L.zip M).length = L.length := by rw [List.length_zip]; omega
    go_enter Try.func32, Try.ntmps32
    go_wp2_with fail
    go_loopw [5] (fun i wr => ∃ k : Nat, k ≤ L.length ∧ i = .int .i64 k ∧ ((L.zip M).take k).all (fun x => sameS x.1 x.2) = true ∧ Below w.heap.size w wr) (fun i _ => L.length - (intOf i).toNat)
    case atStart => exact ⟨0, Nat.zero_le _, rfl, rfl, Below.refl _ _⟩
    case round =>
      obtain ⟨k, hk, rfl, hn, hb⟩ := hrel
      have Hn := Lib.hid hn
      clear hn
      by_cases hlt : k < L.length
      · have hlt2 : k < M.length := by omega
        have hkz : k < (L.zip M).length := by omega
        have HT := Lib.hid (fun h2 => all_take (p := fun x : ByteArray × ByteArray => sameS x.1 x.2) hkz Hn.out h2)
        have HF := Lib.hid (fun h2 => all_bad (p := fun x : ByteArray × ByteArray => sameS x.1 x.2) hkz h2)
        have hzk : (L.zip M)[k]'hkz = (L[k], M[k]) := List.getElem_zip
        rw [hzk] at HT HF
        obtain ⟨av2, cap2, e2, -, -, hx⟩ := hA.below hb
        cases e2
        obtain ⟨b1, o1, rfl, hB1, hx⟩ := hx (by rintro rfl; cases hlt)
        obtain ⟨c0, -⟩ := hx k hlt
        obtain ⟨av3, cap3, e3, -, -, hy⟩ := hB.below hb
        cases e3
        obtain ⟨b2, o2, rfl, hB2, hy⟩ := hy (by rintro rfl; cases hlt2)
        obtain ⟨d0, -⟩ := hy k hlt2
        rw [Nat.mul_one] at c0 d0
        have hk0 : (0 : Int) ≤ (k : Int) := Int.natCast_nonneg _
        have hk1 : (k : Int) < (L.length : Int) := by omega
        have hk2 : (k : Int) < (M.length : Int) := by omega
        clear hx hy hzk
        generalize L[k] = x at *
        generalize M[k] = y at *
        dsimp only at HT HF
        have hsm : sameS x y = (x.toList == y.toList) := rfl
        cases hE : (x.toList == y.toList) with
        | true =>
          have HE := Lib.hid (HT.out (hsm.trans hE))
          clear HT HF hsm
          go_upto_region 6 with (fail)
          go_big_quiet (fail)
          go_wp2
          exact ⟨⟨k + 1, by omega, by go_num, HE.out, below_drewN5 hb _⟩, by simp [intOf]; omega⟩
        | false =>
          have HE := Lib.hid (HAl.out.trans (Bool.not_eq_true _ ▸ HF.out (hsm.trans hE)))
          clear HT HF hsm
          go_upto_region 6 with (fail)
          go_big_quiet (fail)
          go_wp2
          go_ret
          exact ⟨ret_bool HE.out.symm, below_drewN5 hb _⟩
      · have HE := Lib.hid (HAl.out.trans (all_end (by omega) Hn.out))
        go_wp2
        go_ret
        exact ⟨ret_bool HE.out.symm, hb⟩
  · have he : ((L.length : Int) != (M.length : Int)) = true := bne_iff_ne.2 (by omega)
    have HAl := Lib.hid (show alikeT L M = false by unfold alikeT; rw [decide_eq_false hl]; rfl)
    go_enter Try.func32, Try.ntmps32
    go_wp2
    go_ret
    exact ⟨ret_bool HAl.out.symm, Below.refl _ _⟩
end Go.Proofs.Ytcfmndhjmlbcoaa
