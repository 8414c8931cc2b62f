/-
  The walks of small references: does a list hold a text, are two equal lists the same, is a list ascending?
-/
import Derived.Test.YtmijdmchhlcblaaPlain19
namespace Go.Proofs.Ytmijdmchhlcblaa
open Go.RowKit

theorem take_any_false {N : List ByteArray} {s : ByteArray} {k : Nat} (h : k < N.length) (h1 : (N.take k).any (fun a => eqS a s) = false) (h2 : eqS N[k] s = false) : (N.take (k + 1)).any (fun a => eqS a s) = false := by
  rw [List.take_succ_eq_append_getElem h, List.any_append, h1]; simp [h2]
theorem any_true_at {N : List ByteArray} {s : ByteArray} {k : Nat} (h : k < N.length) (h2 : eqS N[k] s = true) : N.any (fun a => eqS a s) = true :=
  List.any_eq_true.2 ⟨N[k], List.getElem_mem h, h2⟩

set_option maxRecDepth 100000 in
set_option maxHeartbeats 1600000 in
theorem has_calls (v : Value) (N : List ByteArray) (s : ByteArray) (w : World) (h : StrsAt w v N) :
    Calls Try.prog 30 #[v, .string s] w fun e w' => e = .returned (.bool (N.any fun a => eqS a s)) ∧ w = w' := by
  have hh := h
  obtain ⟨av, cap, rfl, hlc, hm, -⟩ := h
  have hm := hm.1
  unfold maxLen at hm
  go_enter Try.func30, Try.ntmps30
  go_wp2_with fail
  go_loop [5] (fun i => ∃ k : Nat, k ≤ N.length ∧ i = .int .i64 k ∧ (N.take k).any (fun a => eqS a s) = false) (fun i => N.length - (intOf i).toNat)
  case atStart => exact ⟨0, Nat.zero_le _, rfl, rfl⟩
  case round =>
    obtain ⟨k, hk, rfl, hf⟩ := hrel
    have Hf := Lib.hid hf
    clear hf
    by_cases hlt : k < N.length
    · obtain ⟨av2, cap2, e2, -, -, hx⟩ := hh
      cases e2
      obtain ⟨b, o, rfl, hB, hx⟩ := hx (by rintro rfl; cases hlt)
      obtain ⟨c0, s0⟩ := hx k hlt
      rw [Nat.mul_one] at c0
      have hk0 : (0 : Int) ≤ (k : Int) := Int.natCast_nonneg _
      have hk1 : (k : Int) < (N.length : Int) := by omega
      have T := Lib.hid (fun h2 => @any_true_at N s k hlt h2)
      have F := Lib.hid (fun h2 => @take_any_false N s k hlt Hf.out h2)
      clear hx
      generalize N[k] = x at *
      cases hE : eqS x s with
      | true =>
        have e1 : (x.toList == s.toList) = true := hE
        have e2 : (x.data.toList == s.data.toList) = true := by have h := hE; unfold eqS at h; rw [Lib.toList_data, Lib.toList_data] at h; exact h
        have HT := Lib.hid (T.out hE)
        clear hE
        go_wp2
        go_ret
        exact ⟨ret_bool HT.out.symm, rfl⟩
      | false =>
        have e1 : (x.toList == s.toList) = false := hE
        have e2 : (x.data.toList == s.data.toList) = false := by have h := hE; unfold eqS at h; rw [Lib.toList_data, Lib.toList_data] at h; exact h
        have HF := Lib.hid (F.out hE)
        clear hE
        go_wp2
        go_round
        case rel => exact ⟨k + 1, by omega, by go_num, HF.out⟩
        case measure => simp [intOf]; omega
    · have e : N.take k = N := List.take_of_length_le (by omega)
      go_wp2
      go_ret
      exact ⟨ret_bool (by rw [← Hf.out, e]), rfl⟩

set_option maxRecDepth 100000 in
set_option maxHeartbeats 1600000 in
theorem sameTexts_calls (v1 v2 : Value) (N : List ByteArray) (w : World) (h1 : StrsAt w v1 N) (h2 : StrsAt w v2 N) :
    Calls Try.prog 24 #[v1, v2] w fun e w' => e = .returned (.bool true) ∧ Below w.heap.size w w' := by
  have hh1 := h1
  have hh2 := h2
  obtain ⟨av1, cap1, rfl, hlc, hm, -⟩ := h1
  obtain ⟨av2, cap2, rfl, -, -, -⟩ := h2
  have hm := hm.1
  unfold maxLen at hm
  have hne : ((N.length : Int) != (N.length : Int)) = false := by simp
  go_enter Try.func24, Try.ntmps24
  go_wp2_with fail
  go_loopw [5] (fun i wr => ∃ k n : Nat, k ≤ N.length ∧ i = .int .i64 k ∧ wr = w.drewN n) (fun i _ => N.length - (intOf i).toNat)
  case atStart => exact ⟨0, 0, Nat.zero_le _, rfl, rfl⟩
  case round =>
    obtain ⟨k, n, hk, rfl, rfl⟩ := hrel
    by_cases hlt : k < N.length
    · obtain ⟨av', cap', e1, -, -, hx1⟩ := hh1
      obtain ⟨av2', cap2', e2, -, -, hx2⟩ := hh2
      cases e1
      cases e2
      obtain ⟨b1, o1, rfl, hB1, hx1⟩ := hx1 (by rintro rfl; cases hlt)
      obtain ⟨b2, o2, rfl, hB2, hx2⟩ := hx2 (by rintro rfl; cases hlt)
      obtain ⟨c0, s0⟩ := hx1 k hlt
      obtain ⟨d0, -⟩ := hx2 k hlt
      rw [Nat.mul_one] at c0 d0
      have hk0 : (0 : Int) ≤ (k : Int) := Int.natCast_nonneg _
      have hk1 : (k : Int) < (N.length : Int) := by omega
      clear hx1 hx2
      generalize N[k] = x at *
      go_wp2_with fail
      go_quiet (fail)
      go_wp2
      exact ⟨⟨k + 1, _, by omega, by go_num, rfl⟩, by simp [intOf]; omega⟩
    · go_wp2
      go_ret
      exact ⟨rfl, below_drewN (Below.refl _ _) _⟩

/-- Three numbers in three cells. -/
def PrR (w : World) (b o : Nat) (q : Int × Int × Int) : Prop := w.cell? ⟨b, o, none⟩ = some (.int .i64 q.1) ∧ w.cell? ⟨b, o + 1, none⟩ = some (.int .i64 q.2.1) ∧ w.cell? ⟨b, o + 2, none⟩ = some (.int .i64 q.2.2)
theorem PrR.stays : Stays PrR := fun w w' b _ _ hb hB ⟨h0, h1, h2⟩ =>
  have c : ∀ j, w'.cell? ⟨b, j, none⟩ = w.cell? ⟨b, j, none⟩ := fun j => hb.cell (p := ⟨b, j, none⟩) hB
  ⟨(c _).trans h0, (c _).trans h1, (c _).trans h2⟩
def PrsAt (w : World) (v : Value) (l : List (Int × Int × Int)) : Prop := SliceAt 3 PrR w v l
theorem PrsAt.below {w w' : World} {v : Value} {l : List (Int × Int × Int)} (h : PrsAt w v l) (hb : Below w.heap.size w w') : PrsAt w' v l := SliceAt.below PrR.stays h hb
theorem PrsAt.own {w : World} {base : Nat} {v : Value} {l : List (Int × Int × Int)} (h : w.ownsRow base 48 3 v l.length (l.flatMap prCells)) : PrsAt w v l :=
  SliceAt.own prCells (fun _ => rfl) h fun g o i hi hc => ⟨hc 0 (by omega), hc 1 (by omega), hc 2 (by omega)⟩

set_option maxRecDepth 100000 in
set_option maxHeartbeats 1600000 in
theorem priced_ne (q : Int × Int × Int) (w : World) : (binOp .neq 48 (.agg #[.int .i64 q.1, .int .i64 q.2.1, .int .i64 q.2.2]) (.agg #[.int .i64 q.1, .int .i64 q.2.1, .int .i64 q.2.2])).run Try.prog w = .ok (.bool false) w := by
  simp [go_sem]
end Go.Proofs.Ytmijdmchhlcblaa
